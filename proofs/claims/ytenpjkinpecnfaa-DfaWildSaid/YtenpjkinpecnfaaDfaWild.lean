/- What rows tell, whatever stands in them: the longest front and its kind are as one walks from row to row. For five rows, of three bytes and an end each, and a text of twelve bytes (with more the law says nothing). -/
import Derived.Test.YtenpjkinpecnfaaDfaG
import Derived.KernelRfl
namespace Go.Proofs.Ytenpjkinpecnfaa
open Go Go.Am
set_option maxRecDepth 100000
set_option maxHeartbeats 4000000
set_option linter.unusedSimpArgs false
set_option linter.unusedVariables false

/-- Four bytes. -/
structure Q4 where
  l : List UInt8
instance : Rep Q4 := ⟨4, fun _ x cs => cs = x.l.map (fun b => AV.int .u8 b.toNat) ∧ x.l.length = 4, fun ⟨e, hl⟩ => by rw [e]; simp [hl], fun ⟨e, hl⟩ => by rw [e]; simp [List.all_map, AV.leaf], fun e _ => e⟩
def wv (n : Nat) (b : UInt8) : Int := if ((b.toNat % 6 : Nat) : Int) - 1 ≥ n then -1 else ((b.toNat % 6 : Nat) : Int) - 1
def wnx (n : Nat) (x : Q4) : Nat → List Int
  | 0 => List.replicate 256 (-1)
  | k + 1 => (wnx n x k).set (97 + k) (wv n (x.l.getD k 0))
theorem wnx_len (n : Nat) (x : Q4) : ∀ k, (wnx n x k).length = 256
  | 0 => by simp [wnx]
  | k + 1 => by simp [wnx, wnx_len n x k]
theorem wv_lt (n : Nat) (b : UInt8) : wv n b < n := by unfold wv; split <;> omega
theorem wnx_lt (n : Nat) (x : Q4) : ∀ k, ∀ v ∈ wnx n x k, v < n
  | 0 => fun v hv => by
    simp only [wnx] at hv
    have := List.eq_of_mem_replicate hv
    omega
  | k + 1 => fun v hv => by
    rcases List.mem_or_eq_of_mem_set hv with h | rfl
    · exact wnx_lt n x k v h
    · exact wv_lt n _
def wrow (n : Nat) (x : Q4) : Row := ⟨wnx n x 3, (x.l.getD 3 0).toNat % 4⟩

theorem dRun_less {R : List Row} {w : List UInt8} {i : Nat} {v : Int} {r : Nat × Nat × Bool} (h : v < 0) : dRun R w i v r = r := by
  cases w with
  | nil => rfl
  | cons c w => rw [dRun, if_neg (by omega)]
theorem dRun_none {w : List UInt8} {i : Nat} {v : Int} {r : Nat × Nat × Bool} : dRun [] w i v r = r := by
  cases w with
  | nil => rfl
  | cons c w => rw [dRun]; split <;> simp

theorem DfaWild_uf {h : Heap} {v : AV} {ls : List Q4} {s : List UInt8} (sl : Lst h v ls) : UF T F 14 [v, .str s] h fun v' _ => v' = .bool true := by
  obtain ⟨a, n, c, z, rfl, hn⟩ := sl.form
  refine UF.gen fun Q hQ => UF.of (F_14) (c := _) rfl ?_
  unfold Try.f14
  simp only [List.length, Nat.reduceSub, Nat.reduceAdd, List.replicate, List.cons_append, List.nil_append]
  simp (disch := omega) only [go_sem, seval]
  refine callV_ofU F_33 rfl ((begun5_uf).mono ?_)
  rintro v1 h1 ⟨e1, rfl⟩
  simp (disch := omega) only [go_sem, seval]
  by_cases hbig : (n : Int) > 5
  · simp (disch := omega) only [go_sem, seval, hbig]
    exact hQ _ _ rfl
  by_cases hbig2 : (s.length : Int) > 12
  · simp (disch := omega) only [go_sem, seval, hbig, hbig2]
    exact hQ _ _ rfl
  simp (disch := omega) only [go_sem, seval, hbig, hbig2]
  refine LoopU_while (fun m st hh => ∃ (i : Nat) (w : AV), i ≤ ls.length ∧ m = ls.length - i ∧ Ext h1 hh ∧ LGrow h1.nxt hh w ((ls.take i).map (wrow n)) ∧
      Keep st 142 [(0, .slc a n c z), (1, .str s), (5, w), (6, .int .i64 (i : Nat))]) ls.length
    ⟨0, _, by omega, by omega, Ext.refl _, LGrow.nil, rfl, by simp [Has]⟩ ?_
  rintro m st hh ⟨i, w, hi, rfl, eh, L, hk⟩
  obtain ⟨wa, wn, wc, wz, rfl, hwn⟩ := L.form
  rw [hk.eq]
  obtain ⟨k0, k1, k5, k6, -⟩ := hk.2
  simp only [slotsFrom, Nat.reduceAdd] at k0 k1 k5 k6 ⊢
  simp only [k0, k1, k5, k6]
  simp (disch := omega) only [go_sem, seval]
  by_cases hlt : (i : Int) < (n : Int)
  · have hil : i < ls.length := by omega
    obtain ⟨b1, o1, cs1, l1, rfl, rfl, hb1, hg1, ⟨rfl, h4⟩, hr1, ht1, hc1⟩ := (sl.ext (e1.trans eh)).at_ (i := i) (x := ls[i]) (List.getElem?_eq_getElem hil) (k := 4) rfl
    have hcell : ∀ k, k < 4 → cs1[o1 + i * 4 + k]? = some (.int .u8 ((ls[i].l.getD k 0).toNat)) := fun k hk => by
      rw [hc1 k hk, List.getElem?_map, List.getD_eq_getElem?_getD, List.getElem?_eq_getElem (by omega)]; rfl
    have c3 := hcell 3 (by decide)
    have t3 : (((ls[i].l.getD 3 0).toNat : Nat) : Int).tmod 4 = (((ls[i].l.getD 3 0).toNat % 4 : Nat) : Int) := by rw [show (4 : Int) = ((4 : Nat) : Int) from rfl, ← Int.ofNat_tmod]
    have z0 : List.replicate 257 (AV.int .i64 0) = rcs (List.replicate 256 0) 0 := by kernel_rfl
    have zlen : ∀ y : Int, (rcs (List.replicate 256 0) y).length = 257 := fun y => by rw [rcs_len, List.length_replicate]
    have zl : 257 ≤ (rcs (List.replicate 256 0) 0).length := by rw [zlen]; exact Nat.le_refl _
    have zs : ∀ y : Int, (rcs (List.replicate 256 0) 0).set 256 (.int .i64 y) = rcs (List.replicate 256 0) y := fun y => rcs_setfin (by rw [List.length_replicate])
    have zleaf : ∀ y : Int, (rcs (List.replicate 256 0) y).all AV.leaf = true := fun y => by simp [rcs, AV.leaf, -List.reduceReplicate]
    have zset : ∀ y : Int, setCells (rcs (List.replicate 256 0) 0) 0 (rcs (List.replicate 256 0) y) = rcs (List.replicate 256 0) y := fun y => setCells_all (by rw [zlen, zlen])
    simp (disch := omega) only [go_sem, seval, hlt, hg1, Int.toNat_natCast, c3, t3, z0, zl, zs, zlen, zleaf, zset, -List.reduceReplicate]
    generalize hf : (ls[i].l.getD 3 0).toNat % 4 = f
    have e3 : Ext hh ((hh.add (.cells (rcs (List.replicate 256 0) 0) true)).put hh.nxt (.cells (rcs (List.replicate 256 0) (f : Nat)) true)) := (Ext.add _ _).put (Nat.le_refl _)
    have g3 : ((hh.add (.cells (rcs (List.replicate 256 0) 0) true)).put hh.nxt (.cells (rcs (List.replicate 256 0) (f : Nat)) true)).get hh.nxt = some (.cells (rcs (List.replicate 256 0) (f : Nat)) true) := get_put_self
    have n3 : ((hh.add (.cells (rcs (List.replicate 256 0) 0) true)).put hh.nxt (.cells (rcs (List.replicate 256 0) (f : Nat)) true)).nxt = hh.nxt + 1 := by simp
    generalize ((hh.add (.cells (rcs (List.replicate 256 0) 0) true)).put hh.nxt (.cells (rcs (List.replicate 256 0) (f : Nat)) true)) = h3 at e3 g3 n3 ⊢
    refine LoopU_while (fun m st h5 => ∃ (b : Nat) (A : List Int), b ≤ 256 ∧ m = 256 - b ∧ A.length = 256 ∧ (∀ j, j < b → A[j]? = some (-1)) ∧ Upd (· = hh.nxt) h3 h5 ∧ h5.get hh.nxt = some (.cells (rcs A (f : Nat)) true) ∧
        Keep st 142 [(0, .slc (some (b1, o1)) n c 4), (1, .str s), (5, .slc wa wn wc wz), (6, .int .i64 (i : Nat)), (7, .ptr (some (hh.nxt, 0))), (8, .int .i64 (b : Nat))]) 256
      ⟨0, _, by omega, by omega, List.length_replicate, fun j hj => by omega, Upd.refl _ _, g3, rfl, by simp [Has]⟩ ?_
    rintro m st h5 ⟨b, A, hb, rfl, hA, hAm, u5, g5, hk⟩
    rw [hk.eq]
    obtain ⟨k0, k1, k5, k6, k7, k8, -⟩ := hk.2
    simp only [slotsFrom, Nat.reduceAdd] at k0 k1 k5 k6 k7 k8 ⊢
    simp only [k0, k1, k5, k6, k7, k8]
    simp (disch := omega) only [go_sem, seval]
    by_cases hlb : (b : Int) < 256
    · have hroom : b * 1 + 1 ≤ (rcs A (f : Nat)).length := by rw [rcs_len]; omega
      have hset : ∀ y : Int, (rcs A (f : Nat)).set (b * 1) (.int .i64 y) = rcs (A.set b y) (f : Nat) := fun y => by
        rw [Nat.mul_one, rcs_set (by omega)]
      simp (disch := omega) only [go_sem, seval, hlb, g5, Int.toNat_natCast, hroom, hset]
      refine AgainK.mk (256 - (b + 1)) (by simp only; omega) ⟨b + 1, A.set b (-1), by omega, rfl, by simp [hA], fun j hj => ?_, u5.trans (Upd.put _ rfl fun cs e => by rw [g5] at e; simp at e), get_put_self, rfl, by simp [Has]⟩
      by_cases hjb : j = b
      · subst hjb; exact List.getElem?_set_self (by omega)
      · rw [List.getElem?_set_ne (Ne.symm hjb)]; exact hAm j (by omega)
    · have hb2 : b = 256 := by omega
      subst hb2
      have hA0 : A = wnx n ls[i] 0 := by
        refine List.ext_getElem? fun j => ?_
        simp only [wnx]
        rw [List.getElem?_replicate]
        split
        · exact hAm j (by omega)
        · exact List.getElem?_eq_none (by omega)
      simp (disch := omega) only [go_sem, seval, hlb]
      refine LoopU_while (fun m st h6 => ∃ (k : Nat), k ≤ 3 ∧ m = 3 - k ∧ Upd (· = hh.nxt) h3 h6 ∧ h6.get hh.nxt = some (.cells (rcs (wnx n ls[i] k) (f : Nat)) true) ∧
          Keep st 142 [(0, .slc (some (b1, o1)) n c 4), (1, .str s), (5, .slc wa wn wc wz), (6, .int .i64 (i : Nat)), (7, .ptr (some (hh.nxt, 0))), (9, .int .i64 (k : Nat))]) 3
        ⟨0, by omega, by omega, u5, by rw [← hA0]; exact g5, rfl, by simp [Has]⟩ ?_
      rintro m st h6 ⟨k, hk3, rfl, u6, g6, hk⟩
      rw [hk.eq]
      obtain ⟨k0, k1, k5, k6, k7, k9, -⟩ := hk.2
      simp only [slotsFrom, Nat.reduceAdd] at k0 k1 k5 k6 k7 k9 ⊢
      simp only [k0, k1, k5, k6, k7, k9]
      simp (disch := omega) only [go_sem, seval]
      have n6 := u6.nxt
      have g61 : h6.get b1 = some (.cells cs1 false) := (u6.get _ (by omega) (by omega)).trans ((e3.get _ hb1).trans hg1)
      by_cases hlk : (k : Int) < 3
      · have ck : cs1[o1 + i * 4 + k * 1]? = some (.int .u8 ((ls[i].l.getD k 0).toNat)) := by rw [Nat.mul_one]; exact hcell k (by omega)
        have hk4 : (k : Int) < 4 := by omega
        have hk97 : 97 + (k : Int) = ((97 + k : Nat) : Int) := by omega
        have hk256 : ((97 + k : Nat) : Int) < 256 := by omega
        have tk : (((ls[i].l.getD k 0).toNat : Nat) : Int).tmod 6 = (((ls[i].l.getD k 0).toNat % 6 : Nat) : Int) := by rw [show (6 : Int) = ((6 : Nat) : Int) from rfl, ← Int.ofNat_tmod]
        have hwl := wnx_len n ls[i] k
        have hroom : (97 + k) * 1 + 1 ≤ (rcs (wnx n ls[i] k) (f : Nat)).length := by rw [rcs_len]; omega
        have hset : ∀ y : Int, (rcs (wnx n ls[i] k) (f : Nat)).set ((97 + k) * 1) (.int .i64 y) = rcs ((wnx n ls[i] k).set (97 + k) y) (f : Nat) := fun y => by
          rw [Nat.mul_one, rcs_set (by omega)]
        have hset2 : ∀ x y : Int, (rcs ((wnx n ls[i] k).set (97 + k) x) (f : Nat)).set ((97 + k) * 1) (.int .i64 y) = rcs ((wnx n ls[i] k).set (97 + k) y) (f : Nat) := fun x y => by
          rw [Nat.mul_one, rcs_set (by rw [List.length_set]; omega), List.set_set]
        have hroom2 : ∀ x : Int, (97 + k) * 1 + 1 ≤ (rcs ((wnx n ls[i] k).set (97 + k) x) (f : Nat)).length := fun x => by rw [rcs_len, List.length_set]; omega
        have hget : ∀ x : Int, (rcs ((wnx n ls[i] k).set (97 + k) x) (f : Nat))[(97 + k) * 1]? = some (.int .i64 x) := fun x => by
          rw [Nat.mul_one, rcs_get (by rw [List.length_set]; omega), List.getElem?_set_self (by omega)]; rfl
        have up : ∀ y, Upd (· = hh.nxt) h6 (h6.put hh.nxt y) := fun y => Upd.put _ rfl fun cs e => by rw [g6] at e; simp at e
        have up2 : ∀ x y, Upd (· = hh.nxt) h6 ((h6.put hh.nxt (.cells x true)).put hh.nxt y) := fun x y => (up _).trans (Upd.put _ rfl fun cs e => by rw [get_put_self] at e; simp at e)
        simp (disch := omega) only [go_sem, seval, hlk, hk97, hk4, hk256, g61, g6, ck, tk, Int.toNat_natCast, hroom, hset]
        by_cases hge : (((ls[i].l.getD k 0).toNat % 6 : Nat) : Int) - 1 ≥ (n : Int)
        · simp (disch := omega) only [go_sem, seval, hk97, hk256, get_put_self, hget, Int.toNat_natCast, hge, hroom2, hset2]
          refine AgainK.mk (3 - (k + 1)) (by simp only; omega) ⟨k + 1, by omega, rfl, u6.trans (up2 _ _), ?_, rfl, by simp [Has]⟩
          rw [get_put_self, wnx, wv, if_pos hge]
        · simp (disch := omega) only [go_sem, seval, hk97, hk256, get_put_self, hget, Int.toNat_natCast, hge]
          refine AgainK.mk (3 - (k + 1)) (by simp only; omega) ⟨k + 1, by omega, rfl, u6.trans (up _), ?_, rfl, by simp [Has]⟩
          rw [get_put_self, wnx, wv, if_neg hge]
      · have hk33 : k = 3 := by omega
        subst hk33
        have hAl := wnx_len n ls[i] 3
        have hl257 : (rcs (wnx n ls[i] 3) (f : Nat)).length = 257 := by rw [rcs_len, hAl]
        have hle : 257 ≤ (rcs (wnx n ls[i] 3) (f : Nat)).length := by omega
        have htk : (rcs (wnx n ls[i] 3) (f : Nat)).take 257 = rcs (wnx n ls[i] 3) (f : Nat) := List.take_of_length_le (by omega)
        have hbs := lit_row (h := h6) hl257
        have hrow : wrow n ls[i] = ⟨wnx n ls[i] 3, f⟩ := by rw [wrow, hf]
        simp (disch := omega) only [go_sem, seval, hlk, g6, hle, htk, hl257, ↓hbs]
        generalize wnx n ls[i] 3 = A3 at *
        have Lw6 : LGrow h1.nxt h6 (.slc wa wn wc wz) ((ls.take i).map (wrow n)) := (L.ext e3).upd u6 fun b _ e e2 => by have := L.lt e; omega
        refine gappend (m := h1.nxt) (xs := (ls.take i).map (wrow n)) (ys := [(⟨A3, f⟩ : Row)]) T_50 rfl T_56 rfl (by decide) (by decide) (Lw6.ext (Ext.add _ _)) (LSlc.lit (wr := true) (b := h6.nxt) (ls := [rcs A3 (f : Nat)]) (by simp) get_add_self (by simp) (Reps.one (x := (⟨A3, f⟩ : Row)) ⟨rfl, hAl⟩) rfl rfl) (by have := eh.nxt; simp; omega) (by rw [List.length_map, List.length_take]; simp [roomA]; omega) ?_
        intro v8 h8 L8 u8 b8
        simp (disch := omega) only [go_sem, seval]
        refine AgainK.mk (ls.length - (i + 1)) (by simp only; omega) ⟨i + 1, v8, by omega, rfl, (((((eh.trans e3).upd (h1.nxt ≤ ·)).trans' u6 fun b e _ => by have := eh.nxt; omega).trans ((Ext.add h6 _).upd _)).trans' u8 fun b h1 h2 => Lw6.blk h1).ext fun b hb => by omega, ?_, rfl, by simp [Has]⟩
        rw [List.take_add_one, List.getElem?_eq_getElem hil, Option.toList_some, List.map_append, List.map_cons, List.map_nil, hrow]
        exact L8
  · simp (disch := omega) only [go_sem, seval, hlt]
    have hie : i = ls.length := by omega
    subst hie
    rw [List.take_length] at L hwn
    obtain ⟨h9, l9, n9, L9, u9⟩ := L.frz
    have hRl : (ls.map (wrow n)).length = n := by rw [List.length_map]; omega
    have hfin : ∀ x ∈ ls.map (wrow n), x.fin ≤ 1000000 := by
      intro x hx
      obtain ⟨y, _, rfl⟩ := List.mem_map.1 hx
      simp only [wrow]; omega
    have hRn : ∀ x ∈ ls.map (wrow n), ∀ v ∈ x.next, v < (n : Int) := by
      intro x hx
      obtain ⟨y, _, rfl⟩ := List.mem_map.1 hx
      exact wnx_lt n y 3
    refine callV_ofU F_36 rfl ((UF.less l9 (dLongest_uf L9 (by omega) hfin (by omega))).mono ?_)
    rintro v2 h2 ⟨e2, rfl⟩
    generalize ls.map (wrow n) = R at *
    have L2 := L9.ext e2
    have hd0 : dRun R s 0 0 (0, 0, false) = dRun R (s.drop 0) 0 ((0 : Nat) : Int) (0, 0, decide (0 < 0)) := rfl
    generalize dRun R s 0 0 (0, 0, false) = r0 at hd0 ⊢
    obtain ⟨rk, rn, rok⟩ := r0
    simp (disch := omega) only [go_sem, seval]
    refine LoopU_while (fun m st hh => ∃ (i at_ kd mo : Nat), i ≤ s.length ∧ m = s.length - i ∧ Ext h2 hh ∧ (0 < n → at_ < n) ∧ (rk, rn, rok) = dRun R (s.drop i) i (at_ : Int) (kd, mo, decide (0 < mo)) ∧
        Keep st 142 [(1, .str s), (5, .slc wa wn wc wz), (10, .int .i64 (rk : Nat)), (11, .int .i64 (rn : Nat)), (12, .bool rok), (13, .int .i64 (at_ : Nat)), (14, .int .i64 (kd : Nat)), (15, .int .i64 (mo : Nat)), (16, .int .i64 (i : Nat))]) s.length
      ⟨0, 0, 0, 0, by omega, by omega, Ext.refl _, fun h => h, hd0, rfl, by simp [Has]⟩ ?_
    clear hd0 hk k0 k1 k5 k6
    rintro m st hh2 ⟨i, at_, kd, mo, hi, rfl, eh2, hat, hd, hk⟩
    rw [hk.eq]
    obtain ⟨k1, k5, k10, k11, k12, k13, k14, k15, k16, -⟩ := hk.2
    simp only [slotsFrom, Nat.reduceAdd] at k1 k5 k10 k11 k12 k13 k14 k15 k16 ⊢
    simp only [k1, k5, k10, k11, k12, k13, k14, k15, k16]
    have sl2 := L2.ext eh2
    simp (disch := omega) only [go_sem, seval]
    by_cases hlt : (i : Int) < (s.length : Int)
    · by_cases hn0 : (wn : Int) > 0
      · have hil : i < s.length := by omega
        have hsi : s[i]? = some s[i] := List.getElem?_eq_getElem hil
        have hdr : s.drop i = s[i] :: s.drop (i + 1) := List.drop_eq_getElem_cons hil
        rw [hdr] at hd
        have hjl : at_ < R.length := by omega
        have hjw : (at_ : Int) < (wn : Int) := by omega
        obtain ⟨b1, o1, cs1, l1, rfl, rfl, hb1, hg1, ⟨rfl, hx⟩, hr1, ht1, hc1⟩ := sl2.at_ (i := at_) (x := R[at_]) (List.getElem?_eq_getElem hjl) (k := 257) rfl
        have hlo := s[i].toNat_lt
        have hlo2 : ((s[i].toNat : Nat) : Int) < 256 := by omega
        have hnl : s[i].toNat < R[at_].next.length := by omega
        have cv : cs1[o1 + at_ * 257 + s[i].toNat * 1]? = some (.int .i64 R[at_].next[s[i].toNat]) := by
          rw [Nat.mul_one, hc1 _ (by omega)]
          show (rcs R[at_].next R[at_].fin)[s[i].toNat]? = _
          rw [rcs_get hnl, List.getElem?_eq_getElem hnl]; rfl
        have hvn := hRn _ (List.getElem_mem hjl) _ (List.getElem_mem hnl)
        have hjr : R[(at_ : Int).toNat]? = some R[at_] := List.getElem?_eq_getElem hjl
        rw [dRun, if_pos (by omega), hjr] at hd
        simp only [List.getElem?_eq_getElem hnl] at hd
        simp (disch := omega) only [go_sem, seval, hlt, hn0]
        refine DrawU_quiet (by rfl) ?_
        simp (disch := omega) only [go_sem, seval, hlt, Int.toNat_natCast, hsi, hjw, hlo2, hg1, cv]
        generalize R[at_].next[s[i].toNat] = v at *
        have eb : Ext h2 (hh2.bump 10) := eh2.trans (Ext.bump _ _)
        by_cases d1 : v < 0
        · rw [if_neg (by omega), dRun_less d1] at hd
          simp (disch := omega) only [go_sem, seval, d1]
          simp only [Prod.mk.injEq] at hd
          obtain ⟨rfl, rfl, rfl⟩ := hd
          by_cases m0 : ((rn : Nat) : Int) > 0
          · have m1 : decide (0 < rn) = true := decide_eq_true (by omega)
            simp (disch := omega) only [go_sem, seval, m0, m1]
            exact hQ _ _ rfl
          · have m1 : decide (0 < rn) = false := decide_eq_false (by omega)
            simp (disch := omega) only [go_sem, seval, m0, m1]
            exact hQ _ _ rfl
        · obtain ⟨j2, rfl⟩ : ∃ j2 : Nat, v = j2 := ⟨v.toNat, by omega⟩
          have hjl2 : j2 < R.length := by omega
          have hjw2 : (j2 : Int) < (wn : Int) := by omega
          obtain ⟨b2, o2, cs2, l2, e2', _, hb2, hg2, ⟨rfl, hx2⟩, hr2, ht2, hc2⟩ := (sl2.ext (Ext.bump hh2 10)).at_ (i := j2) (x := R[j2]) (List.getElem?_eq_getElem hjl2) (k := 257) rfl
          simp only [Option.some.injEq, Prod.mk.injEq] at e2'
          obtain ⟨rfl, rfl⟩ := e2'
          have cf : cs2[o1 + j2 * 257 + 256]? = some (.int .i64 (R[j2].fin : Nat)) := by
            rw [hc2 256 (by omega)]
            show (rcs R[j2].next R[j2].fin)[256]? = _
            rw [rcs_fin hx2]
          have hfb := hfin _ (List.getElem_mem hjl2)
          have hjr2 : R[(j2 : Int).toNat]? = some R[j2] := List.getElem?_eq_getElem hjl2
          rw [if_pos (by omega), hjr2] at hd
          simp only at hd
          simp (disch := omega) only [go_sem, seval, d1, hjw2, hg2, cf, Int.toNat_natCast]
          by_cases d3 : ((R[j2].fin : Nat) : Int) > 0
          · have hf1 : ((R[j2].fin : Nat) : Int) - 1 = ((R[j2].fin - 1 : Nat) : Int) := by omega
            rw [if_pos (by omega)] at hd
            simp (disch := omega) only [go_sem, seval, d3, hjw2, hg2, cf, hf1, Int.toNat_natCast]
            exact AgainK.mk (s.length - (i + 1)) (by simp only; omega) ⟨i + 1, j2, R[j2].fin - 1, i + 1, by omega, rfl, eb, fun _ => by omega, by rw [hd, decide_eq_true (show 0 < i + 1 by omega)], rfl, by simp [Has]⟩
          · rw [if_neg (by omega)] at hd
            simp (disch := omega) only [go_sem, seval, d3]
            exact AgainK.mk (s.length - (i + 1)) (by simp only; omega) ⟨i + 1, j2, kd, mo, by omega, rfl, eb, fun _ => by omega, hd, rfl, by simp [Has]⟩
      · have hR0 : R = [] := List.eq_nil_of_length_eq_zero (by omega)
        rw [hR0, dRun_none] at hd
        simp (disch := omega) only [go_sem, seval, hlt, hn0]
        simp only [Prod.mk.injEq] at hd
        obtain ⟨rfl, rfl, rfl⟩ := hd
        by_cases m0 : ((rn : Nat) : Int) > 0
        · have m1 : decide (0 < rn) = true := decide_eq_true (by omega)
          simp (disch := omega) only [go_sem, seval, m0, m1]
          exact hQ _ _ rfl
        · have m1 : decide (0 < rn) = false := decide_eq_false (by omega)
          simp (disch := omega) only [go_sem, seval, m0, m1]
          exact hQ _ _ rfl
    · rw [List.drop_eq_nil_of_le (by omega), dRun] at hd
      simp (disch := omega) only [go_sem, seval, hlt]
      simp only [Prod.mk.injEq] at hd
      obtain ⟨rfl, rfl, rfl⟩ := hd
      by_cases m0 : ((rn : Nat) : Int) > 0
      · have m1 : decide (0 < rn) = true := decide_eq_true (by omega)
        simp (disch := omega) only [go_sem, seval, m0, m1]
        exact hQ _ _ rfl
      · have m1 : decide (0 < rn) = false := decide_eq_false (by omega)
        simp (disch := omega) only [go_sem, seval, m0, m1]
        exact hQ _ _ rfl

theorem DfaWild_law {h : Heap} {v : AV} {zs : List (List Int)} {b : ByteArray} (hv : Slc h v 4 (zs.map fun z => z.map fun x => .int .u8 x)) (hb : ∀ z ∈ zs, z.length = 4 ∧ ∀ x ∈ z, (Lit.int .u8 x).wf = true) :
    WF T F 14 [v, .str b.data.toList] h fun v' h' => v' = .bool true := by
  have reps : ∀ {H : Heap} (zs : List (List Int)), (∀ z ∈ zs, z.length = 4 ∧ ∀ x ∈ z, (Lit.int .u8 x).wf = true) → ∃ ls : List Q4, Reps H ls (zs.map fun z => z.map fun x => AV.int .u8 x) := by
    intro H zs
    induction zs with
    | nil => exact fun _ => ⟨[], .nil⟩
    | cons z zs ih =>
      intro hb
      obtain ⟨ls, h1⟩ := ih fun y hy => hb y (by simp [hy])
      obtain ⟨z1, z2⟩ := hb z (by simp)
      obtain ⟨l, hl⟩ : ∃ l : List UInt8, z.map (fun x => AV.int .u8 x) = l.map fun b => AV.int .u8 b.toNat := by
        clear z1 hb ih
        induction z with
        | nil => exact ⟨[], rfl⟩
        | cons y z ih =>
          obtain ⟨l, hl⟩ := ih fun x hx => z2 x (by simp [hx])
          obtain ⟨c, rfl⟩ := u8_lit (z2 y (by simp))
          exact ⟨c :: l, by rw [List.map_cons, hl]; rfl⟩
      refine ⟨⟨l⟩ :: ls, .cons ⟨hl, ?_⟩ h1⟩
      have := congrArg List.length hl
      simp only [List.length_map] at this
      show l.length = 4
      omega
  obtain ⟨ls, hr⟩ := reps (H := h.frzV v) zs hb
  exact (UF.less (frzV_le _ _) (DfaWild_uf ⟨_, hv.frz, hr⟩)).toW

end Go.Proofs.Ytenpjkinpecnfaa
