import Derived.Test.YtaockkmmjinhpaaGMayU
/-
  Layer first: sets, one put into the other.
-/
namespace Go.Proofs.Ytaockkmmjinhpaa
open Go Go.Am
set_option maxRecDepth 100000
set_option maxHeartbeats 4000000
set_option linter.unusedSimpArgs false
set_option linter.unusedVariables false

/-- A set, in its block. -/
def Bits (h : Heap) (b : Nat) (v : AV) (bs : List Bool) : Prop := v = .slc (some (b, 0)) bs.length (some bs.length) 1 ∧ b < h.nxt ∧ h.get b = some (.cells (bs.map AV.bool) true)
theorem Bits.upd {h h' : Heap} {b : Nat} {v : AV} {bs : List Bool} {S : Nat → Prop} (B : Bits h b v bs) (u : Upd S h h') (hS : ¬ S b) : Bits h' b v bs := ⟨B.1, Nat.lt_of_lt_of_le B.2.1 u.nxt, (u.get b B.2.1 hS).trans B.2.2⟩
theorem Bits.ext {h h' : Heap} {b : Nat} {v : AV} {bs : List Bool} (B : Bits h b v bs) (e : Ext h h') : Bits h' b v bs := B.upd (e.upd fun _ => False) fun f => f
theorem Bits.set {h : Heap} {b : Nat} {v : AV} {bs : List Bool} (B : Bits h b v bs) (i : Nat) (y : Bool) : Bits (h.put b (.cells ((bs.map AV.bool).set i (.bool y)) true)) b v (bs.set i y) := by
  obtain ⟨rfl, hb, hg⟩ := B
  exact ⟨by simp, by simp; exact hb, by rw [get_put_self, List.map_set]⟩
theorem set_uf {h : Heap} {b : Nat} {v : AV} {bs : List Bool} {i : Nat} (B : Bits h b v bs) (hi : i < bs.length) : UF T F 88 [v, .int .i64 (i : Nat)] h fun v' h' => Upd (· = b) h h' ∧ Bits h' b v (bs.set i true) ∧ v' = .bool (!bs[i]) := by
  have hB := B
  obtain ⟨rfl, hb, hg⟩ := B
  refine UF.gen fun Q hQ => UF.of (F_88) (c := _) rfl ?_
  unfold Try.f88
  simp only [List.length, Nat.reduceSub, Nat.reduceAdd, List.replicate, List.cons_append, List.nil_append]
  simp (disch := omega) only [go_sem, seval]
  have hc : (bs.map AV.bool)[i * 1]? = some (.bool bs[i]) := by rw [Nat.mul_one, List.getElem?_map, List.getElem?_eq_getElem hi]; rfl
  have hii : (i : Int) < (bs.length : Nat) := by omega
  have hroom : i * 1 + 1 ≤ (bs.map AV.bool).length := by simp; omega
  simp (disch := omega) only [go_sem, seval, hii, hg, hc, hroom, Int.toNat_natCast]
  have u := Upd.put (S := (· = b)) (h := h) (.cells ((bs.map AV.bool).set (i * 1) (.bool true)) true) rfl fun cs e => by rw [hg] at e; simp at e
  rw [Nat.mul_one] at *
  exact hQ _ _ ⟨u, hB.set i true, rfl⟩

/-- A set that can be read while the block b is written. -/
def Rdb (b : Nat) (h : Heap) (v : AV) (ys : List Bool) : Prop := ∃ a c, v = .slc a ys.length c 1 ∧ ∀ hh, Upd (· = b) h hh → ∀ i, i < ys.length → ∃ bb o cs w, a = some (bb, o) ∧ hh.get bb = some (.cells cs w) ∧ cs[o + i * 1]? = some (.bool (ys.getD i false))
theorem Lst.rdb {h : Heap} {b : Nat} {v : AV} {ys : List Bool} (s : Lst h v ys) (hne : ys ≠ []) : Rdb b h v ys := by
  obtain ⟨a, n, c, z, rfl, rfl⟩ := s.form
  have h0 : 0 < ys.length := List.length_pos_iff.2 hne
  obtain ⟨_, _, _, _, _, rfl, _⟩ := s.at_ (i := 0) (x := ys[0]) (List.getElem?_eq_getElem h0) (k := 1) rfl
  refine ⟨a, c, rfl, fun hh u i hi => ?_⟩
  obtain ⟨b1, o1, cs1, l1, e1, _, hb1, hg1, rfl, hr1, ht1, hc1⟩ := (s.pst u.pst).at_ (i := i) (x := ys[i]) (List.getElem?_eq_getElem hi) (k := 1) rfl
  exact ⟨b1, o1, cs1, false, e1, hg1, by rw [List.getD_eq_getElem?_getD, List.getElem?_eq_getElem hi]; exact hc1 0 (by decide)⟩
theorem Bits.rdb {h : Heap} {b b' : Nat} {v : AV} {ys : List Bool} (B : Bits h b' v ys) (hne : b' ≠ b) : Rdb b h v ys := by
  obtain ⟨rfl, hb, hg⟩ := B
  refine ⟨_, _, rfl, fun hh u i hi => ⟨b', 0, _, true, rfl, (u.get b' hb hne).trans hg, ?_⟩⟩
  rw [Nat.zero_add, Nat.mul_one, List.getElem?_map, List.getElem?_eq_getElem hi, List.getD_eq_getElem?_getD, List.getElem?_eq_getElem hi]; rfl
/-- One set put into the other, of the first so many places; whether something is new. -/
def orT (xs ys : List Bool) : Nat → List Bool
  | 0 => xs
  | i + 1 => if ys.getD i false = true then (orT xs ys i).set i true else orT xs ys i
def grw (xs ys : List Bool) : Nat → Bool
  | 0 => false
  | i + 1 => if ys.getD i false = true ∧ (orT xs ys i).getD i false = false then true else grw xs ys i
theorem orT_len (xs ys : List Bool) : ∀ i, (orT xs ys i).length = xs.length
  | 0 => rfl
  | i + 1 => by
    rw [orT]
    split
    · rw [List.length_set, orT_len xs ys i]
    · exact orT_len xs ys i
/-- A set that can be read while it is put into the other one. -/
def Rdc (b : Nat) (h : Heap) (v : AV) (xs ys : List Bool) : Prop := ∃ a c, v = .slc a ys.length c 1 ∧ ∀ hh, Upd (· = b) h hh → ∀ i, i < ys.length → hh.get b = some (.cells ((orT xs ys i).map AV.bool) true) → ∃ bb o cs w, a = some (bb, o) ∧ hh.get bb = some (.cells cs w) ∧ cs[o + i * 1]? = some (.bool (ys.getD i false))
theorem Rdb.rdc {b : Nat} {h : Heap} {v : AV} {xs ys : List Bool} (R : Rdb b h v ys) : Rdc b h v xs ys := by
  obtain ⟨a, c, e, R⟩ := R
  exact ⟨a, c, e, fun hh u i hi _ => R hh u i hi⟩
theorem orT_self (xs : List Bool) : ∀ i, orT xs xs i = xs
  | 0 => rfl
  | i + 1 => by
    rw [orT, orT_self xs i]
    split
    · rename_i h
      refine List.ext_getElem? fun j => ?_
      rw [List.getElem?_set]
      split
      · rename_i e
        subst e
        rw [List.getD_eq_getElem?_getD] at h
        cases hx : xs[i]? with
        | none => rw [hx] at h; cases h
        | some b =>
          rw [hx] at h
          rw [if_pos (List.getElem?_eq_some_iff.1 hx).1]
          exact congrArg some h.symm
      · rfl
    · rfl
theorem Bits.rdc {h : Heap} {b : Nat} {v : AV} {xs : List Bool} (B : Bits h b v xs) : Rdc b h v xs xs := by
  obtain ⟨rfl, hb, hg⟩ := B
  refine ⟨_, _, rfl, fun hh u i hi hc => ⟨b, 0, _, true, rfl, hc, ?_⟩⟩
  rw [orT_self, Nat.zero_add, Nat.mul_one, List.getElem?_map, List.getElem?_eq_getElem hi, List.getD_eq_getElem?_getD, List.getElem?_eq_getElem hi]; rfl
theorem unionc_uf {h : Heap} {b : Nat} {v w : AV} {xs ys : List Bool} (B : Bits h b v xs) (R : Rdc b h w xs ys) (hl : ys.length ≤ xs.length) (hx : xs.length ≤ 1000) : UF T F 92 [v, w] h fun v' h' => Upd (· = b) h h' ∧ Bits h' b v (orT xs ys ys.length) ∧ v' = .bool (grw xs ys ys.length) := by
  obtain ⟨a, c, rfl, R⟩ := R
  have hB := B
  obtain ⟨rfl, hb, hg⟩ := B
  refine UF.gen fun Q hQ => UF.of (F_92) (c := _) rfl ?_
  unfold Try.f92
  simp only [List.length, Nat.reduceSub, Nat.reduceAdd, List.replicate, List.cons_append, List.nil_append]
  simp (disch := omega) only [go_sem, seval]
  refine LoopU_while (fun m st hh => ∃ (i : Nat), i ≤ ys.length ∧ m = ys.length - i ∧ Upd (· = b) h hh ∧ Bits hh b (.slc (some (b, 0)) xs.length (some xs.length) 1) (orT xs ys i) ∧
      Keep st 22 [(0, .slc (some (b, 0)) xs.length (some xs.length) 1), (4, .bool (grw xs ys i)), (7, .slc a ys.length c 1), (8, .int .i64 (ys.length : Nat)), (9, .int .i64 (i : Nat))]) ys.length
    ⟨0, by omega, by omega, Upd.refl _ _, hB, rfl, by simp [Has, grw]⟩ ?_
  rintro m st hh ⟨i, hi, rfl, u, Bi, hk⟩
  rw [hk.eq]
  obtain ⟨k0, k4, k7, k8, k9, -⟩ := hk.2
  simp only [slotsFrom, Nat.reduceAdd] at k0 k4 k7 k8 k9 ⊢
  simp only [k0, k4, k7, k8, k9]
  simp (disch := omega) only [go_sem, seval]
  by_cases hlt : (i : Int) < (ys.length : Nat)
  · have hil : i < ys.length := by omega
    obtain ⟨bb, o, cs, w, rfl, hgb, hc⟩ := R hh u i hil Bi.2.2
    have hol := orT_len xs ys i
    cases hy : ys.getD i false with
    | true =>
      rw [hy] at hc
      simp (disch := omega) only [go_sem, seval, hlt, hgb, hc, Int.toNat_natCast]
      refine callV_ofU F_88 rfl ((set_uf Bi (i := i) (by omega)).mono ?_)
      rintro v2 h2 ⟨u2, B2, rfl⟩
      simp (disch := omega) only [go_sem, seval]
      have ho : orT xs ys (i + 1) = (orT xs ys i).set i true := by rw [orT, if_pos hy]
      have hgd : (orT xs ys i).getD i false = (orT xs ys i)[i]'(by omega) := by rw [List.getD_eq_getElem?_getD, List.getElem?_eq_getElem (by omega)]; rfl
      cases hz : (orT xs ys i)[i]'(by omega) with
      | true =>
        have hgr : grw xs ys (i + 1) = grw xs ys i := by rw [grw, if_neg (by rw [hgd, hz]; simp)]
        simp (disch := omega) only [go_sem, seval]
        exact AgainK.mk (ys.length - (i + 1)) (by simp only; omega) ⟨i + 1, by omega, rfl, u.trans u2, by rw [ho]; exact B2, rfl, by simp [Has, hgr]⟩
      | false =>
        have hgr : grw xs ys (i + 1) = true := by rw [grw, if_pos ⟨hy, by rw [hgd, hz]⟩]
        simp (disch := omega) only [go_sem, seval]
        exact AgainK.mk (ys.length - (i + 1)) (by simp only; omega) ⟨i + 1, by omega, rfl, u.trans u2, by rw [ho]; exact B2, rfl, by simp [Has, hgr]⟩
    | false =>
      rw [hy] at hc
      have ho : orT xs ys (i + 1) = orT xs ys i := by rw [orT, if_neg (by rw [hy]; simp)]
      have hgr : grw xs ys (i + 1) = grw xs ys i := by rw [grw, if_neg (by rw [hy]; simp)]
      simp (disch := omega) only [go_sem, seval, hlt, hgb, hc, Int.toNat_natCast]
      exact AgainK.mk (ys.length - (i + 1)) (by simp only; omega) ⟨i + 1, by omega, rfl, u, by rw [ho]; exact Bi, rfl, by simp [Has, hgr]⟩
  · simp (disch := omega) only [go_sem, seval, hlt]
    have hie : i = ys.length := by omega
    subst hie
    exact hQ _ _ ⟨u, Bi, rfl⟩

theorem union_uf {h : Heap} {b : Nat} {v w : AV} {xs ys : List Bool} (B : Bits h b v xs) (R : Rdb b h w ys) (hl : ys.length ≤ xs.length) (hx : xs.length ≤ 1000) : UF T F 92 [v, w] h fun v' h' => Upd (· = b) h h' ∧ Bits h' b v (orT xs ys ys.length) ∧ v' = .bool (grw xs ys ys.length) := unionc_uf B R.rdc hl hx

end Go.Proofs.Ytaockkmmjinhpaa

/-
  Layer first: what symbols may begin with.
-/
namespace Go.Proofs.Ytaockkmmjinhpaa
open Go Go.Am
set_option maxRecDepth 100000
set_option maxHeartbeats 4000000
set_option linter.unusedSimpArgs false
set_option linter.unusedVariables false

theorem flat_bools (bs : List Bool) : (bs.map fun b => [AV.bool b]).flatten = bs.map AV.bool := by
  induction bs with
  | nil => rfl
  | cons b bs ih => simp only [List.map_cons, List.flatten_cons, ih]; rfl
theorem reps_bool (h : Heap) : ∀ bs : List Bool, Reps h bs (bs.map fun b => [AV.bool b])
  | [] => .nil
  | b :: bs => .cons rfl (reps_bool h bs)
/-- A set is frozen. -/
theorem Bits.frz {h : Heap} {b : Nat} {v : AV} {bs : List Bool} (B : Bits h b v bs) : ∃ h', Le h' h ∧ h'.nxt = h.nxt ∧ Lst h' v bs ∧ Upd (· = b) h h' := by
  obtain ⟨rfl, hb, hg⟩ := B
  have sl : LSlc h (.slc (some (b, 0)) bs.length (some bs.length) 1) bs := LSlc.lit (ls := bs.map fun b => [AV.bool b]) hb hg (flat_bools bs).symm (reps_bool h bs) (by simp) rfl
  exact ⟨h.frz b, frz_le _ _, by simp, sl.frz, frz_upd rfl⟩
theorem zero_bools (n : Nat) : zeroRow [.bool false] n = (List.replicate n false).map AV.bool := by
  refine List.ext_getElem (by simp [zeroRow]) fun i h1 h2 => ?_
  simp [zeroRow, Nat.mod_one]
/-- A new set. -/
theorem mk_bits {K : KH} {h : Heap} {n : Nat} {t : Nat} {zr : List AV} (ht : T t = some ⟨.slc 4, 1, 24, zr, false⟩) (hn : n ≤ 1000000) (k : K.k (.slc (some (h.nxt, 0)) n (some n) 1) (h.add (.cells ((List.replicate n false).map AV.bool) true))) : @OBk (makeSliceA T t (.int .i64 n) (.int .i64 n) h) K := by
  have e : makeSliceA T t (.int .i64 n) (.int .i64 n) h = some (.slc (some (h.nxt, 0)) n (some n) 1, h.add (.cells ((List.replicate n false).map AV.bool) true)) := by
    simp only [makeSliceA, ht, T_4]
    rw [if_pos (by omega), Int.toNat_natCast, Nat.mul_one, zero_bools]
  exact OBk_of e k
theorem bits_new {h : Heap} {n : Nat} : Bits (h.add (.cells ((List.replicate n false).map AV.bool) true)) h.nxt (.slc (some (h.nxt, 0)) n (some n) 1) (List.replicate n false) := ⟨by simp, by simp, get_add_self⟩

/-- Sets, each in a block of its own. -/
structure Tbl (h : Heap) (ob m : Nat) (bl : List Nat) (rows : List (List Bool)) : Prop where
  lt : ob < h.nxt
  get : h.get ob = some (.cells (bl.map fun b => .slc (some (b, 0)) m (some m) 1) true)
  len : bl.length = rows.length
  row : ∀ (i b : Nat) (r : List Bool), bl[i]? = some b → rows[i]? = some r → r.length = m ∧ Bits h b (.slc (some (b, 0)) m (some m) 1) r
  nd : bl.Nodup
  ne : ob ∉ bl
theorem Tbl.upd {h h' : Heap} {ob m : Nat} {bl : List Nat} {rows : List (List Bool)} {S : Nat → Prop} (t : Tbl h ob m bl rows) (u : Upd S h h') (ho : ¬ S ob) (hb : ∀ b ∈ bl, ¬ S b) : Tbl h' ob m bl rows :=
  ⟨Nat.lt_of_lt_of_le t.lt u.nxt, (u.get _ t.lt ho).trans t.get, t.len, fun i b r h1 h2 => ⟨(t.row i b r h1 h2).1, (t.row i b r h1 h2).2.upd u (hb b (List.mem_of_getElem? h1))⟩, t.nd, t.ne⟩
theorem Tbl.ext {h h' : Heap} {ob m : Nat} {bl : List Nat} {rows : List (List Bool)} (t : Tbl h ob m bl rows) (e : Ext h h') : Tbl h' ob m bl rows := t.upd (e.upd fun _ => False) (fun f => f) fun _ _ f => f
/-- What symbols may begin with, and whether they can be nothing. -/
def begF (nu : List Bool) (fi : List (List Bool)) : List GSym → List Bool → List Bool × Bool
  | [], o => (o, true)
  | s :: r, o => if s.tok = true then (o.set s.at_.toNat true, false) else
      if nu.getD s.at_.toNat false = true then begF nu fi r (orT o (fi.getD s.at_.toNat []) (fi.getD s.at_.toNat []).length) else (orT o (fi.getD s.at_.toNat []) (fi.getD s.at_.toNat []).length, false)
def begL (t : Nat) (nu : List Bool) (fi : List (List Bool)) (r : List GSym) : List Bool × Bool := begF nu fi r (List.replicate t false)

theorem begins_uf {h : Heap} {nv uv rv : AV} {ta pa : Option (Nat × Nat)} {tn pn : Nat} {tc pc : Option Nat} {tz pz ob : Nat} {bl : List Nat} {ns : List GNt} {nu : List Bool} {rows : List (List Bool)} {rs : List GSym}
    (sn : Lst h nv ns) (su : Lst h uv nu) (tb : Tbl h ob tn bl rows) (sr : Lst h rv rs) (hu : nu.length = ns.length) (hrow : rows.length = ns.length) (hs : ∀ s ∈ rs, SymOk tn ns.length s) (hr : rs.length ≤ 100) (ht : tn ≤ 100) (hn : ns.length ≤ 100) :
    UF T F 91 [.agg [.slc ta tn tc tz, nv, .slc pa pn pc pz], uv, .slc (some (ob, 0)) rows.length (some rows.length) 1, rv] h fun v' h' => Ext h h' ∧ ∃ w, v' = .tup [w, .bool (begL tn nu rows rs).2] ∧ Lst h' w (begL tn nu rows rs).1 ∧ ∃ b, w = .slc (some (b, 0)) tn (some tn) 1 := by
  obtain ⟨na, nn, nc, nz, rfl, hnn⟩ := sn.form
  obtain ⟨ua, un, uc, uz, rfl, hun⟩ := su.form
  obtain ⟨ra, rn, rc, rz, rfl, hrn⟩ := sr.form
  refine UF.genq fun Q hQ => UF.of (F_91) (c := _) rfl ?_
  unfold Try.f91
  simp only [List.length, Nat.reduceSub, Nat.reduceAdd, List.replicate, List.cons_append, List.nil_append]
  simp (disch := omega) only [go_sem, seval]
  refine mk_bits T_73 (by omega) ?_
  have e1 : Ext h ((h.add (.cells [.slc ta tn tc tz, .slc na nn nc nz, .slc pa pn pc pz] true)).add (.cells ((List.replicate tn false).map AV.bool) true)) := (Ext.add _ _).trans (Ext.add _ _)
  have g0 : ((h.add (.cells [.slc ta tn tc tz, .slc na nn nc nz, .slc pa pn pc pz] true)).add (.cells ((List.replicate tn false).map AV.bool) true)).get h.nxt = some (.cells [.slc ta tn tc tz, .slc na nn nc nz, .slc pa pn pc pz] true) := by rw [get_add_lt (by simp), get_add_self]
  have B0 : Bits ((h.add (.cells [.slc ta tn tc tz, .slc na nn nc nz, .slc pa pn pc pz] true)).add (.cells ((List.replicate tn false).map AV.bool) true)) (h.nxt + 1) (.slc (some (h.nxt + 1, 0)) tn (some tn) 1) (List.replicate tn false) := by
    have := bits_new (h := h.add (.cells [.slc ta tn tc tz, .slc na nn nc nz, .slc pa pn pc pz] true)) (n := tn)
    rwa [Heap.add_nxt] at this
  have n1 : ((h.add (.cells [.slc ta tn tc tz, .slc na nn nc nz, .slc pa pn pc pz] true)).add (.cells ((List.replicate tn false).map AV.bool) true)).nxt = h.nxt + 2 := by simp
  simp (disch := omega) only [go_sem, seval]
  generalize ((h.add (.cells [.slc ta tn tc tz, .slc na nn nc nz, .slc pa pn pc pz] true)).add (.cells ((List.replicate tn false).map AV.bool) true)) = h1 at *
  have hbl : ∀ b ∈ bl, b < h.nxt := fun b hb => by
    obtain ⟨i, hi, rfl⟩ := List.getElem_of_mem hb
    have hl := tb.len
    exact (tb.row i bl[i] rows[i] (List.getElem?_eq_getElem hi) (List.getElem?_eq_getElem (by omega))).2.2.1
  have hob := tb.lt
  refine LoopU_while (fun m st hh => ∃ (i : Nat) (zs : List Bool), i ≤ rs.length ∧ m = rs.length - i ∧ Upd (· = h.nxt + 1) h1 hh ∧ Bits hh (h.nxt + 1) (.slc (some (h.nxt + 1, 0)) tn (some tn) 1) zs ∧ zs.length = tn ∧ begL tn nu rows rs = begF nu rows (rs.drop i) zs ∧
      Keep st 77 [(1, .slc ua un uc uz), (2, .slc (some (ob, 0)) rows.length (some rows.length) 1), (4, .ptr (some (h.nxt, 0))), (10, .slc (some (h.nxt + 1, 0)) tn (some tn) 1), (17, .slc ra rn rc rz), (18, .int .i64 (rn : Nat)), (19, .int .i64 (i : Nat))]) rs.length
    ⟨0, _, by omega, by omega, Upd.refl _ _, B0, by simp, rfl, rfl, by simp [Has]⟩ ?_
  rintro m st hh ⟨i, zs, hi, rfl, u, B, hzl, hbg, hk⟩
  rw [hk.eq]
  obtain ⟨k1, k2, k4, k10, k17, k18, k19, -⟩ := hk.2
  simp only [slotsFrom, Nat.reduceAdd] at k1 k2 k4 k10 k17 k18 k19 ⊢
  simp only [k1, k2, k4, k10, k17, k18, k19]
  have hnh := u.nxt
  have gh := (u.get h.nxt (by omega) (by omega)).trans g0
  simp (disch := omega) only [go_sem, seval]
  by_cases hlt : (i : Int) < (rn : Int)
  · have hil : i < rs.length := by omega
    obtain ⟨b1, o1, cs1, l1, rfl, rfl, hb1, hg1, rfl, hr1, ht1, hc1⟩ := ((sr.ext e1).pst u.pst).at_ (i := i) (x := rs[i]) (List.getElem?_eq_getElem hil) (k := 2) rfl
    obtain ⟨s0, s1, s2⟩ := hs rs[i] (List.getElem_mem hil)
    rw [List.drop_eq_getElem_cons hil, begF] at hbg
    generalize rs[i] = s at *
    obtain ⟨k, hk0⟩ : ∃ k : Nat, s.at_ = k := ⟨s.at_.toNat, by omega⟩
    rw [hk0] at ht1 s1 s2 hbg
    rw [Int.toNat_natCast] at hbg
    have q0 : ¬ (k : Int) < 0 := by omega
    have e2 : Ext hh ((hh.add (.cells [.bool false, .int .i64 0] true)).put hh.nxt (.cells [.bool s.tok, .int .i64 (k : Nat)] true)) := (Ext.add _ _).put (Nat.le_refl _)
    have g2 : ((hh.add (.cells [.bool false, .int .i64 0] true)).put hh.nxt (.cells [.bool s.tok, .int .i64 (k : Nat)] true)).get hh.nxt = some (.cells [.bool s.tok, .int .i64 (k : Nat)] true) := get_put_self
    have gh2 := (e2.get h.nxt (by omega)).trans gh
    simp (disch := omega) only [go_sem, seval, hlt, hg1, hr1, ht1, Int.toNat_natCast]
    have u2 : Upd (· = h.nxt + 1) h1 ((hh.add (.cells [.bool false, .int .i64 0] true)).put hh.nxt (.cells [.bool s.tok, .int .i64 (k : Nat)] true)) := u.trans (e2.upd _)
    have B2 := B.ext e2
    have n2 : ((hh.add (.cells [.bool false, .int .i64 0] true)).put hh.nxt (.cells [.bool s.tok, .int .i64 (k : Nat)] true)).nxt = hh.nxt + 1 := by simp
    generalize ((hh.add (.cells [.bool false, .int .i64 0] true)).put hh.nxt (.cells [.bool s.tok, .int .i64 (k : Nat)] true)) = h2 at *
    cases htk : s.tok with
    | true =>
      rw [htk] at g2
      rw [htk, if_pos rfl] at hbg
      have q1 : ¬ (k : Int) ≥ (tn : Int) := by have := s1 htk; omega
      have q2 : (k : Int) < (tn : Int) := by omega
      have gB := B2.2.2
      have hroom : k * 1 + 1 ≤ (zs.map AV.bool).length := by simp; omega
      simp (disch := omega) only [go_sem, seval, g2, gh2, q0, q1, q2, gB, hroom, Int.toNat_natCast]
      have B3 := B2.set k true
      rw [Nat.mul_one]
      have u3 : Upd (· = h.nxt + 1) h2 (h2.put (h.nxt + 1) (.cells ((zs.map AV.bool).set k (.bool true)) true)) := Upd.put _ rfl fun cs e => by rw [gB] at e; simp at e
      obtain ⟨h9, l9, n9, L9, u9⟩ := B3.frz
      refine hQ _ _ h9 l9 ⟨((((e1.upd (h.nxt ≤ ·)).trans' u2 fun b e _ => by omega).trans' u3 fun b e _ => by omega).trans' u9 fun b e _ => by omega).ext fun b hb => by omega, _, by rw [hbg], by rw [hbg]; exact L9, _, rfl⟩
    | false =>
      rw [htk] at g2
      rw [htk, if_neg (by simp)] at hbg
      have q1 : ¬ (k : Int) ≥ (nn : Int) := by have := s2 htk; omega
      have hkn : k < rows.length := by omega
      have hkb : k < bl.length := by have := tb.len; omega
      have q2 : (k : Int) < (rows.length : Nat) := by omega
      have tb2 := (tb.ext e1).upd u2 (by omega) fun b hb => by have := hbl b hb; omega
      have gO := tb2.get
      have cO : (bl.map fun b => AV.slc (some (b, 0)) tn (some tn) 1)[k * 1]? = some (.slc (some (bl[k], 0)) tn (some tn) 1) := by rw [Nat.mul_one, List.getElem?_map, List.getElem?_eq_getElem hkb]; rfl
      obtain ⟨hrl, hrB⟩ := tb2.row k bl[k] rows[k] (List.getElem?_eq_getElem hkb) (List.getElem?_eq_getElem hkn)
      have hfi : rows.getD k [] = rows[k] := by rw [List.getD_eq_getElem?_getD, List.getElem?_eq_getElem hkn]; rfl
      rw [hfi] at hbg
      have hkbl := hbl bl[k] (List.getElem_mem hkb)
      generalize rows[k] = ys at *
      generalize bl[k] = yb at *
      simp (disch := omega) only [go_sem, seval, g2, gh2, q0, q1, q2, gO, cO, Int.toNat_natCast]
      refine callV_ofU F_92 rfl ((union_uf B2 (hrB.rdb (by omega)) (by omega) (by omega)).mono ?_)
      rintro v3 h3 ⟨u3, B3, rfl⟩
      simp (disch := omega) only [go_sem, seval]
      have hkun : k < nu.length := by omega
      have q3 : (k : Int) < (un : Int) := by omega
      obtain ⟨b5, o5, cs5, l5, rfl, rfl, hb5, hg5, rfl, hr5, ht5, hc5⟩ := (((su.ext e1).pst u2.pst).pst u3.pst).at_ (i := k) (x := nu[k]) (List.getElem?_eq_getElem hkun) (k := 1) rfl
      have c5 : cs5[o5 + k * 1]? = some (.bool nu[k]) := hc5 0 (by decide)
      have g23 := (u3.get hh.nxt (by omega) (by omega)).trans g2
      have hnd : nu.getD k false = nu[k] := by rw [List.getD_eq_getElem?_getD, List.getElem?_eq_getElem hkun]; rfl
      rw [hnd] at hbg
      have hol := orT_len zs ys ys.length
      cases hnk : nu[k] with
      | true =>
        rw [hnk] at c5
        rw [hnk, if_pos rfl] at hbg
        simp (disch := omega) only [go_sem, seval, g23, q3, hg5, c5, Int.toNat_natCast]
        exact AgainK.mk (rs.length - (i + 1)) (by simp only; omega) ⟨i + 1, _, by omega, rfl, u2.trans u3, B3, by omega, hbg, rfl, by simp [Has]⟩
      | false =>
        rw [hnk] at c5
        rw [hnk, if_neg (by simp)] at hbg
        simp (disch := omega) only [go_sem, seval, g23, q3, hg5, c5, Int.toNat_natCast]
        obtain ⟨h9, l9, n9, L9, u9⟩ := B3.frz
        refine hQ _ _ h9 l9 ⟨((((e1.upd (h.nxt ≤ ·)).trans' u2 fun b e _ => by omega).trans' u3 fun b e _ => by omega).trans' u9 fun b e _ => by omega).ext fun b hb => by omega, _, by rw [hbg], by rw [hbg]; exact L9, _, rfl⟩
  · simp (disch := omega) only [go_sem, seval, hlt]
    have hie : i = rs.length := by omega
    subst hie
    rw [List.drop_length, begF] at hbg
    obtain ⟨h9, l9, n9, L9, u9⟩ := B.frz
    refine hQ _ _ h9 l9 ⟨(((e1.upd (h.nxt ≤ ·)).trans' u fun b e _ => by omega).trans' u9 fun b e _ => by omega).ext fun b hb => by omega, _, by rw [hbg], by rw [hbg]; exact L9, _, rfl⟩

end Go.Proofs.Ytaockkmmjinhpaa

/-
  Layer first: what can be nothing.
-/
namespace Go.Proofs.Ytaockkmmjinhpaa
open Go Go.Am
set_option maxRecDepth 100000
set_option maxHeartbeats 4000000
set_option linter.unusedSimpArgs false
set_option linter.unusedVariables false

def okS (nu : List Bool) (s : GSym) : Bool := !s.tok && nu.getD s.at_.toNat false
/-- A box of a set. -/
def SBox (h : Heap) (xb nb : Nat) (nu : List Bool) : Prop := xb < h.nxt ∧ h.get xb = some (.cells [.slc (some (nb, 0)) nu.length (some nu.length) 1] true) ∧ Bits h nb (.slc (some (nb, 0)) nu.length (some nu.length) 1) nu
theorem SBox.ext {h h' : Heap} {xb nb : Nat} {nu : List Bool} (x : SBox h xb nb nu) (e : Ext h h') : SBox h' xb nb nu := ⟨Nat.lt_of_lt_of_le x.1 e.nxt, (e.get _ x.1).trans x.2.1, x.2.2.ext e⟩
theorem null1_uf {h : Heap} {xb nb : Nat} {nu : List Bool} {s : GSym} {t : Nat} (x : SBox h xb nb nu) (hs : SymOk t nu.length s) : UF T F 87 [.agg [.bool s.tok, .int .i64 s.at_], .ptr (some (xb, 0))] h fun v' h' => Ext h h' ∧ v' = .bool (!okS nu s) := by
  obtain ⟨x1, x2, x3⟩ := x
  obtain ⟨s0, s1, s2⟩ := hs
  refine UF.gen fun Q hQ => UF.of (F_87) (c := _) rfl ?_
  unfold Try.f87
  simp only [List.length, Nat.reduceSub, Nat.reduceAdd, List.replicate, List.cons_append, List.nil_append]
  simp (disch := omega) only [go_sem, seval]
  have e1 : Ext h (h.add (.cells [.bool s.tok, .int .i64 s.at_] true)) := Ext.add _ _
  cases htk : s.tok with
  | true =>
    simp (disch := omega) only [go_sem, seval, htk]
    exact hQ _ _ ⟨by rw [htk] at e1; exact e1, by simp [okS, htk]⟩
  | false =>
    have hat := s2 htk
    obtain ⟨k, hk0⟩ : ∃ k : Nat, s.at_ = k := ⟨s.at_.toNat, by omega⟩
    rw [htk] at e1
    rw [hk0] at hat e1
    have hkl : k < nu.length := by omega
    have hki : (k : Int) < (nu.length : Nat) := by omega
    have gB := x3.2.2
    have hnb := x3.2.1
    have gB2 := (e1.get nb hnb).trans gB
    have cB : (nu.map AV.bool)[k * 1]? = some (.bool nu[k]) := by rw [Nat.mul_one, List.getElem?_map, List.getElem?_eq_getElem hkl]; rfl
    simp (disch := omega) only [go_sem, seval, htk, hk0, x2, gB, gB2, cB, hki, Int.toNat_natCast]
    refine hQ _ _ ⟨e1, ?_⟩
    simp [okS, htk, hk0, List.getD_eq_getElem?_getD, List.getElem?_eq_getElem hkl]
theorem IndexN_uf {h : Heap} {xb nb : Nat} {nu : List Bool} {v : AV} {ss : List GSym} {t : Nat} (x : SBox h xb nb nu) (sl : Lst h v ss) (hl : ss.length ≤ 1000) (hs : ∀ s ∈ ss, SymOk t nu.length s) : UF T F 112 [v, .func (.func 87) [.ptr (some (xb, 0))]] h fun v' h' => Ext h h' ∧ ∃ r : Int, v' = .int .i64 r ∧ ((r ≥ 0) ↔ ss.all (okS nu) = false) := by
  obtain ⟨a, n, c, z, rfl, hnn⟩ := sl.form
  refine UF.gen fun Q hQ => UF.of (F_112) (c := _) rfl ?_
  unfold Try.f112
  simp only [List.length, Nat.reduceSub, Nat.reduceAdd, List.replicate, List.cons_append, List.nil_append]
  simp (disch := omega) only [go_sem, seval]
  refine LoopU_while (fun m st hh => ∃ (i : Nat), i ≤ ss.length ∧ m = ss.length - i ∧ Ext h hh ∧ ss.all (okS nu) = (ss.drop i).all (okS nu) ∧ Keep st 19 [(0, .slc a n c z), (1, .func (.func 87) [.ptr (some (xb, 0))]), (7, .int .i64 (n : Nat)), (8, .int .i64 (i : Nat))]) ss.length
    ⟨0, by omega, by omega, Ext.refl _, rfl, rfl, by simp [Has]⟩ ?_
  rintro m st hh ⟨i, hi, rfl, eh, hall, hk0⟩
  rw [hk0.eq]
  obtain ⟨k0, k1, k7, k8, -⟩ := hk0.2
  simp only [slotsFrom, Nat.reduceAdd] at k0 k1 k7 k8 ⊢
  simp only [k0, k1, k7, k8]
  simp (disch := omega) only [go_sem, seval]
  by_cases hlt : (i : Int) < (n : Int)
  · have hil : i < ss.length := by omega
    obtain ⟨b1, o1, cs1, l1, rfl, rfl, hb1, hg1, rfl, hr1, ht1, hc1⟩ := (sl.ext eh).at_ (i := i) (x := ss[i]) (List.getElem?_eq_getElem hil) (k := 2) rfl
    have hni := hs ss[i] (List.getElem_mem hil)
    rw [List.drop_eq_getElem_cons hil, List.all_cons] at hall
    simp (disch := omega) only [go_sem, seval, hlt, hg1, hr1, ht1, Int.toNat_natCast]
    refine callV_ofU F_87 rfl ((null1_uf (x.ext eh) hni).mono ?_)
    rintro v2 h2 ⟨e2, rfl⟩
    simp (disch := omega) only [go_sem, seval]
    cases hok : okS nu ss[i] with
    | true =>
      rw [hok, Bool.true_and] at hall
      simp (disch := omega) only [go_sem, seval]
      exact AgainK.mk (ss.length - (i + 1)) (by simp only; omega) ⟨i + 1, by omega, rfl, eh.trans e2, hall, rfl, by simp [Has]⟩
    | false =>
      rw [hok, Bool.false_and] at hall
      simp (disch := omega) only [go_sem, seval]
      exact hQ _ _ ⟨eh.trans e2, (i : Int), rfl, by rw [hall]; simp⟩
  · simp (disch := omega) only [go_sem, seval, hlt]
    have hie : i = ss.length := by omega
    subst hie
    rw [List.drop_length, List.all_nil] at hall
    exact hQ _ _ ⟨eh, -1, rfl, by rw [hall]; simp⟩
theorem ContN_uf {h : Heap} {xb nb : Nat} {nu : List Bool} {v : AV} {ss : List GSym} {t : Nat} (x : SBox h xb nb nu) (sl : Lst h v ss) (hl : ss.length ≤ 1000) (hs : ∀ s ∈ ss, SymOk t nu.length s) : UF T F 86 [v, .func (.func 87) [.ptr (some (xb, 0))]] h fun v' h' => Ext h h' ∧ v' = .bool (!ss.all (okS nu)) := by
  obtain ⟨a, n, c, z, rfl, hnn⟩ := sl.form
  refine UF.gen fun Q hQ => UF.of (F_86) (c := _) rfl ?_
  unfold Try.f86
  simp only [List.length, Nat.reduceSub, Nat.reduceAdd, List.replicate, List.cons_append, List.nil_append]
  simp (disch := omega) only [go_sem, seval]
  refine callV_ofU F_112 rfl ((IndexN_uf x sl hl hs).mono ?_)
  rintro v2 h2 ⟨e2, r, rfl, hr⟩
  simp (disch := omega) only [go_sem, seval]
  refine hQ _ _ ⟨e2, ?_⟩
  cases ha : ss.all (okS nu) with
  | true => rw [ha] at hr; simp at hr ⊢; omega
  | false => rw [ha] at hr; simp at hr ⊢; omega

/-- What can be nothing, and whether something is new, as of the first so many productions. -/
def stN (nu : List Bool) (ps : List GProd) : Nat → List Bool × Bool
  | 0 => (nu, false)
  | i + 1 => match ps[i]? with
    | some p => if p.right.all (okS (stN nu ps i).1) = true then ((stN nu ps i).1.set p.left.toNat true, if (stN nu ps i).1.getD p.left.toNat false = true then (stN nu ps i).2 else true) else stN nu ps i
    | none => stN nu ps i
theorem stN_len (nu : List Bool) (ps : List GProd) : ∀ i, (stN nu ps i).1.length = nu.length
  | 0 => rfl
  | i + 1 => by
    rw [stN]
    split
    · split
      · rw [List.length_set, stN_len nu ps i]
      · exact stN_len nu ps i
    · exact stN_len nu ps i

theorem nullS_uf {h : Heap} {gb xb nb tn : Nat} {tv nv pv : AV} {ta na : Option (Nat × Nat)} {t0 nn : Nat} {tc nc : Option Nat} {tz nz : Nat} {ps : List GProd} {nu : List Bool} (hg : gb < h.nxt ∧ h.get gb = some (.cells [.slc ta t0 tc tz, .slc na nn nc nz, pv] true)) (sp : Lst h pv ps) (x : SBox h xb nb nu) (hl : ps.length ≤ 1000)
    (hp : ∀ p ∈ ps, PrOk nu.length tn p) (hne : gb ≠ nb ∧ xb ≠ nb) : UF T F 85 [.ptr (some (gb, 0)), .ptr (some (xb, 0))] h fun v' h' => Upd (· = nb) h h' ∧ Bits h' nb (.slc (some (nb, 0)) nu.length (some nu.length) 1) (stN nu ps ps.length).1 ∧ v' = .bool (stN nu ps ps.length).2 := by
  obtain ⟨pa, pn, pc, pz, rfl, hpn⟩ := sp.form
  obtain ⟨hg1, hg2⟩ := hg
  obtain ⟨x1, x2, x3⟩ := x
  refine UF.gen fun Q hQ => UF.of (F_85) (c := _) rfl ?_
  unfold Try.f85
  simp only [List.length, Nat.reduceSub, Nat.reduceAdd, List.replicate, List.cons_append, List.nil_append]
  simp (disch := omega) only [go_sem, seval]
  simp (disch := omega) only [go_sem, seval, hg2]
  refine LoopU_while (fun m st hh => ∃ (i : Nat), i ≤ ps.length ∧ m = ps.length - i ∧ Upd (· = nb) h hh ∧ Bits hh nb (.slc (some (nb, 0)) nu.length (some nu.length) 1) (stN nu ps i).1 ∧
      Keep st 25 [(0, .ptr (some (gb, 0))), (1, .ptr (some (xb, 0))), (2, .bool (stN nu ps i).2), (6, .slc pa pn pc pz), (7, .int .i64 (pn : Nat)), (8, .int .i64 (i : Nat))]) ps.length
    ⟨0, by omega, by omega, Upd.refl _ _, x3, rfl, by simp [Has, stN]⟩ ?_
  rintro m st hh ⟨i, hi, rfl, u, B, hk⟩
  rw [hk.eq]
  obtain ⟨k0, k1, k2, k6, k7, k8, -⟩ := hk.2
  simp only [slotsFrom, Nat.reduceAdd] at k0 k1 k2 k6 k7 k8 ⊢
  simp only [k0, k1, k2, k6, k7, k8]
  have hnl := stN_len nu ps i
  have hnh := u.nxt
  simp (disch := omega) only [go_sem, seval]
  by_cases hlt : (i : Int) < (pn : Int)
  · have hil : i < ps.length := by omega
    obtain ⟨b1, o1, cs1, l1, rfl, rfl, hb1, hg1', ⟨ra, xa, rfl, sr, sx⟩, hr1, ht1, hc1⟩ := (sp.pst u.pst).at_ (i := i) (x := ps[i]) (List.getElem?_eq_getElem hil) (k := 3) rfl
    obtain ⟨⟨q1, q2⟩, q3, q4⟩ := hp ps[i] (List.getElem_mem hil)
    have hst : stN nu ps (i + 1) = if ps[i].right.all (okS (stN nu ps i).1) = true then ((stN nu ps i).1.set ps[i].left.toNat true, if (stN nu ps i).1.getD ps[i].left.toNat false = true then (stN nu ps i).2 else true) else stN nu ps i := by rw [stN, List.getElem?_eq_getElem hil]
    generalize ps[i] = p at *
    generalize stN nu ps i = S at *
    obtain ⟨mu, gr⟩ := S
    simp only at B hnl hst ⊢
    obtain ⟨ra, rn, rc, rz, rfl, hrn⟩ := sr.form
    obtain ⟨xa, xn, xc, xz, rfl, hxn⟩ := sx.form
    obtain ⟨k, hk0⟩ : ∃ k : Nat, p.left = k := ⟨p.left.toNat, by omega⟩
    rw [hk0] at ht1 hst q2
    rw [Int.toNat_natCast] at hst
    have e2 : Ext hh ((hh.add (.cells [.int .i64 0, .slc none 0 (some 0) 0, .slc none 0 (some 0) 0] true)).put hh.nxt (.cells [.int .i64 (k : Nat), .slc ra rn rc rz, .slc xa xn xc xz] true)) := (Ext.add _ _).put (Nat.le_refl _)
    have g2 : ((hh.add (.cells [.int .i64 0, .slc none 0 (some 0) 0, .slc none 0 (some 0) 0] true)).put hh.nxt (.cells [.int .i64 (k : Nat), .slc ra rn rc rz, .slc xa xn xc xz] true)).get hh.nxt = some (.cells [.int .i64 (k : Nat), .slc ra rn rc rz, .slc xa xn xc xz] true) := get_put_self
    have n2 : ((hh.add (.cells [.int .i64 0, .slc none 0 (some 0) 0, .slc none 0 (some 0) 0] true)).put hh.nxt (.cells [.int .i64 (k : Nat), .slc ra rn rc rz, .slc xa xn xc xz] true)).nxt = hh.nxt + 1 := by simp
    simp (disch := omega) only [go_sem, seval, hlt, hg1', hr1, ht1, Int.toNat_natCast]
    generalize ((hh.add (.cells [.int .i64 0, .slc none 0 (some 0) 0, .slc none 0 (some 0) 0] true)).put hh.nxt (.cells [.int .i64 (k : Nat), .slc ra rn rc rz, .slc xa xn xc xz] true)) = h2 at *
    have gx := ((u.trans (e2.upd _)).get xb x1 hne.2).trans x2
    have SB : SBox h2 xb nb mu := by rw [← hnl] at gx; exact ⟨by omega, gx, by rw [hnl]; exact B.ext e2⟩
    refine callV_ofU F_86 rfl ((ContN_uf SB (sr.ext e2) (by omega) (fun s hs => by rw [hnl]; exact q4 s hs)).mono ?_)
    rintro v3 h3 ⟨e3, rfl⟩
    simp (disch := omega) only [go_sem, seval]
    have gx3 := (e3.get _ (by omega)).trans gx
    have g3 := (e3.get _ (by omega)).trans g2
    have B3 := (B.ext e2).ext e3
    cases hall : p.right.all (okS mu) with
    | true =>
      rw [hall, if_pos rfl] at hst
      simp (disch := omega) only [go_sem, seval, gx3, g3]
      refine callV_ofU F_88 rfl ((set_uf (i := k) B3 (by omega)).mono ?_)
      rintro v4 h4 ⟨u4, B4, rfl⟩
      simp (disch := omega) only [go_sem, seval]
      have hgd : mu.getD k false = mu[k]'(by omega) := by rw [List.getD_eq_getElem?_getD, List.getElem?_eq_getElem (by omega)]; rfl
      rw [hgd] at hst
      have uu := (u.trans ((e2.trans e3).upd _)).trans u4
      cases hmk : mu[k]'(by omega) with
      | true =>
        rw [hmk, if_pos rfl] at hst
        simp (disch := omega) only [go_sem, seval]
        exact AgainK.mk (ps.length - (i + 1)) (by simp only; omega) ⟨i + 1, by omega, rfl, uu, by rw [hst]; exact B4, rfl, by simp [Has, hst]⟩
      | false =>
        rw [hmk, if_neg (by simp)] at hst
        simp (disch := omega) only [go_sem, seval]
        exact AgainK.mk (ps.length - (i + 1)) (by simp only; omega) ⟨i + 1, by omega, rfl, uu, by rw [hst]; exact B4, rfl, by simp [Has, hst]⟩
    | false =>
      rw [hall, if_neg (by simp)] at hst
      simp (disch := omega) only [go_sem, seval]
      exact AgainK.mk (ps.length - (i + 1)) (by simp only; omega) ⟨i + 1, by omega, rfl, u.trans ((e2.trans e3).upd _), by rw [hst]; exact B3, rfl, by simp [Has, hst]⟩
  · simp (disch := omega) only [go_sem, seval, hlt]
    have hie : i = ps.length := by omega
    subst hie
    exact hQ _ _ ⟨u, B, rfl⟩

end Go.Proofs.Ytaockkmmjinhpaa

/-
  Layer first: what can be nothing, all rounds.
-/
namespace Go.Proofs.Ytaockkmmjinhpaa
open Go Go.Am
set_option maxRecDepth 100000
set_option maxHeartbeats 4000000
set_option linter.unusedSimpArgs false
set_option linter.unusedVariables false

def cntF : List Bool → Nat
  | [] => 0
  | b :: l => cntF l + if b = false then 1 else 0
theorem cntF_set : ∀ (l : List Bool) (k : Nat), cntF (l.set k true) ≤ cntF l ∧ (l[k]? = some false → cntF (l.set k true) < cntF l)
  | [], k => by simp [cntF]
  | b :: l, 0 => by cases b <;> simp [cntF]
  | b :: l, k + 1 => by
    have := cntF_set l k
    simp only [List.set_cons_succ, cntF, List.getElem?_cons_succ]
    exact ⟨by omega, fun h => by have := this.2 h; omega⟩
theorem cntF_le : ∀ l : List Bool, cntF l ≤ l.length
  | [] => by simp [cntF]
  | b :: l => by have := cntF_le l; simp only [cntF, List.length_cons]; split <;> omega
theorem stN_cnt (nu : List Bool) (ps : List GProd) (hp : ∀ p ∈ ps, p.left.toNat < nu.length) : ∀ i, cntF (stN nu ps i).1 ≤ cntF nu ∧ ((stN nu ps i).2 = true → cntF (stN nu ps i).1 < cntF nu)
  | 0 => ⟨Nat.le_refl _, fun h => by simp [stN] at h⟩
  | i + 1 => by
    have ih := stN_cnt nu ps hp i
    have hl := stN_len nu ps i
    rw [stN]
    split
    · rename_i p hpi
      have hpl := hp p (List.mem_of_getElem? hpi)
      split
      · have hc := cntF_set (stN nu ps i).1 p.left.toNat
        refine ⟨by simp only; omega, fun h => ?_⟩
        simp only at h ⊢
        split at h
        · have := ih.2 h; omega
        · rename_i hgd
          have : (stN nu ps i).1[p.left.toNat]? = some false := by
            rw [List.getD_eq_getElem?_getD, List.getElem?_eq_getElem (by omega)] at hgd
            rw [List.getElem?_eq_getElem (by omega)]
            simpa using hgd
          have := hc.2 this
          omega
      · exact ih
    · exact ih
/-- All rounds. -/
def fixN (ps : List GProd) : Nat → List Bool → List Bool
  | 0, nu => nu
  | f + 1, nu => if (stN nu ps ps.length).2 = true then fixN ps f (stN nu ps ps.length).1 else (stN nu ps ps.length).1
theorem fixN_len (ps : List GProd) : ∀ (f : Nat) (nu : List Bool), (fixN ps f nu).length = nu.length
  | 0, nu => rfl
  | f + 1, nu => by
    rw [fixN]
    split
    · rw [fixN_len ps f, stN_len]
    · exact stN_len _ _ _
def nulL (n : Nat) (ps : List GProd) : List Bool := fixN ps (n + 1) (List.replicate n false)

theorem growsN_uf {h : Heap} {gb xb nb tn : Nat} {pv : AV} {ta na : Option (Nat × Nat)} {t0 nn : Nat} {tc nc : Option Nat} {tz nz : Nat} {ps : List GProd} {nu : List Bool} {f : Nat} (hg : gb < h.nxt ∧ h.get gb = some (.cells [.slc ta t0 tc tz, .slc na nn nc nz, pv] true)) (sp : Lst h pv ps) (x : SBox h xb nb nu) (hl : ps.length ≤ 1000)
    (hp : ∀ p ∈ ps, PrOk nu.length tn p) (hne : gb ≠ nb ∧ xb ≠ nb) (hf : cntF nu < f) : UF T F 84 [.func (.func 85) [.ptr (some (gb, 0)), .ptr (some (xb, 0))]] h fun v' h' => Upd (· = nb) h h' ∧ Bits h' nb (.slc (some (nb, 0)) nu.length (some nu.length) 1) (fixN ps f nu) := by
  refine UF.gen fun Q hQ => UF.of (F_84) (c := _) rfl ?_
  unfold Try.f84
  simp only [List.length, Nat.reduceSub, Nat.reduceAdd, List.replicate, List.cons_append, List.nil_append]
  simp (disch := omega) only [go_sem, seval]
  refine LoopU_while (fun m st hh => ∃ (mu : List Bool) (e : Nat), m = cntF mu ∧ Upd (· = nb) h hh ∧ Bits hh nb (.slc (some (nb, 0)) nu.length (some nu.length) 1) mu ∧ mu.length = nu.length ∧ cntF mu < e ∧ fixN ps f nu = fixN ps e mu ∧
      Keep st 4 [(0, .func (.func 85) [.ptr (some (gb, 0)), .ptr (some (xb, 0))])]) (cntF nu)
    ⟨nu, f, rfl, Upd.refl _ _, x.2.2, rfl, hf, rfl, rfl, by simp [Has]⟩ ?_
  rintro m st hh ⟨mu, e, rfl, u, B, hml, hc, hfx, hk⟩
  rw [hk.eq]
  obtain ⟨k0, -⟩ := hk.2
  simp only [slotsFrom, Nat.reduceAdd] at k0 ⊢
  simp only [k0]
  simp (disch := omega) only [go_sem, seval]
  obtain ⟨e, rfl⟩ : ∃ d, e = d + 1 := ⟨e - 1, by omega⟩
  rw [fixN] at hfx
  have hnh := u.nxt
  have gx := (u.get xb x.1 hne.2).trans x.2.1
  rw [← hml] at gx B
  have hlt : ∀ p ∈ ps, p.left.toNat < mu.length := fun p hp' => by obtain ⟨⟨q1, q2⟩, _⟩ := hp p hp'; omega
  have hcs := stN_cnt mu ps hlt ps.length
  have hsl := stN_len mu ps ps.length
  have hx1 := x.1
  refine callV_ofU F_85 rfl ((nullS_uf (tv := .nilFn) (nv := .nilFn) ⟨by omega, (u.get gb hg.1 hne.1).trans hg.2⟩ (sp.pst u.pst) ⟨by omega, gx, B⟩ hl (fun p hp' => by rw [hml]; exact hp p hp') hne).mono ?_)
  rintro v2 h2 ⟨u2, B2, rfl⟩
  simp (disch := omega) only [go_sem, seval]
  rw [hml] at B2
  cases hgr : (stN mu ps ps.length).2 with
  | true =>
    rw [hgr, if_pos rfl] at hfx
    have := hcs.2 hgr
    simp (disch := omega) only [go_sem, seval]
    exact AgainK.mk (cntF (stN mu ps ps.length).1) (by simp only; omega) ⟨_, e, rfl, u.trans u2, B2, by omega, by omega, hfx, rfl, by simp [Has]⟩
  | false =>
    rw [hgr, if_neg (by simp)] at hfx
    simp (disch := omega) only [go_sem, seval]
    exact hQ _ _ ⟨u.trans u2, by rw [hfx]; exact B2⟩

theorem Nullable_uf {h : Heap} {tv nv pv : AV} {g : Gm} (lt : Lst h tv g.toks) (sn : Lst h nv g.nts) (sp : Lst h pv g.prods) (M : MayG g) : UF T F 37 [.agg [tv, nv, pv]] h fun v' h' => Ext h h' ∧ Lst h' v' (nulL g.nts.length g.prods) := by
  obtain ⟨ta, tn, tc, tz, rfl, htn⟩ := lt.form
  obtain ⟨na, nn, nc, nz, rfl, hnn⟩ := sn.form
  obtain ⟨pa, pn, pc, pz, rfl, hpn⟩ := sp.form
  refine UF.genq fun Q hQ => UF.of (F_37) (c := _) rfl ?_
  unfold Try.f37
  simp only [List.length, Nat.reduceSub, Nat.reduceAdd, List.replicate, List.cons_append, List.nil_append]
  simp (disch := omega) only [go_sem, seval]
  have e1 : Ext h (h.add (.cells [.slc ta tn tc tz, .slc na nn nc nz, .slc pa pn pc pz] true)) := Ext.add _ _
  have g1 : (h.add (.cells [.slc ta tn tc tz, .slc na nn nc nz, .slc pa pn pc pz] true)).get h.nxt = some (.cells [.slc ta tn tc tz, .slc na nn nc nz, .slc pa pn pc pz] true) := get_add_self
  have n1 : (h.add (.cells [.slc ta tn tc tz, .slc na nn nc nz, .slc pa pn pc pz] true)).nxt = h.nxt + 1 := by simp
  generalize (h.add (.cells [.slc ta tn tc tz, .slc na nn nc nz, .slc pa pn pc pz] true)) = h1 at *
  refine callV_ofU F_28 rfl ((May_uf (lt.ext e1) (sn.ext e1) (sp.ext e1) M).mono ?_)
  rintro v2 h2 ⟨e2, rfl⟩
  simp (disch := omega) only [go_sem, seval]
  have g2 := (e2.get _ (by omega)).trans g1
  have hn2 := e2.nxt
  have hnl := M.nl
  simp (disch := omega) only [go_sem, seval, g2]
  refine mk_bits T_73 (by omega) ?_
  have gz : ((h2.add (.cells ((List.replicate nn false).map AV.bool) true)).add (.cells [.slc none 0 (some 0) 0] true)).get (h2.nxt + 1) = some (.cells [.slc none 0 (some 0) 0] true) := by
    rw [← Heap.add_nxt h2 (.cells ((List.replicate nn false).map AV.bool) true)]; exact get_add_self
  have e3 : Ext h2 (((h2.add (.cells ((List.replicate nn false).map AV.bool) true)).add (.cells [.slc none 0 (some 0) 0] true)).put (h2.nxt + 1) (.cells [.slc (some (h2.nxt, 0)) nn (some nn) 1] true)) := ((Ext.add _ _).trans (Ext.add _ _)).put (by omega)
  have gx : (((h2.add (.cells ((List.replicate nn false).map AV.bool) true)).add (.cells [.slc none 0 (some 0) 0] true)).put (h2.nxt + 1) (.cells [.slc (some (h2.nxt, 0)) nn (some nn) 1] true)).get (h2.nxt + 1) = some (.cells [.slc (some (h2.nxt, 0)) nn (some nn) 1] true) := get_put_self
  have B3 : Bits (((h2.add (.cells ((List.replicate nn false).map AV.bool) true)).add (.cells [.slc none 0 (some 0) 0] true)).put (h2.nxt + 1) (.cells [.slc (some (h2.nxt, 0)) nn (some nn) 1] true)) h2.nxt (.slc (some (h2.nxt, 0)) nn (some nn) 1) (List.replicate nn false) :=
    (bits_new.ext (Ext.add _ _)).upd (Upd.put (S := (· = h2.nxt + 1)) _ rfl fun cs e => by rw [gz] at e; simp at e) (by omega)
  have n3 : (((h2.add (.cells ((List.replicate nn false).map AV.bool) true)).add (.cells [.slc none 0 (some 0) 0] true)).put (h2.nxt + 1) (.cells [.slc (some (h2.nxt, 0)) nn (some nn) 1] true)).nxt = h2.nxt + 2 := by simp
  simp (disch := omega) only [go_sem, seval, gz]
  generalize (((h2.add (.cells ((List.replicate nn false).map AV.bool) true)).add (.cells [.slc none 0 (some 0) 0] true)).put (h2.nxt + 1) (.cells [.slc (some (h2.nxt, 0)) nn (some nn) 1] true)) = h3 at *
  have g3 := (e3.get _ (by omega)).trans g2
  have hrl : (List.replicate nn false).length = nn := List.length_replicate
  have hps := M.pr
  have hc := cntF_le (List.replicate nn false)
  have w84 := growsN_uf (tn := g.toks.length) (f := nn + 1) ⟨by omega, g3⟩ (((sp.ext e1).ext e2).ext e3) (x := (⟨by omega, by rw [hrl]; exact gx, by rw [hrl]; exact B3⟩ : SBox h3 (h2.nxt + 1) h2.nxt (List.replicate nn false))) (by have := M.pl; omega) (fun p hp => by rw [hrl, hnn]; exact hps p hp) ⟨by omega, by omega⟩ (by omega)
  refine callV_ofU F_84 rfl (w84.mono ?_)
  rintro v4 h4 ⟨u4, B4⟩
  have gx4 := (u4.get _ (by omega) (by omega)).trans gx
  simp (disch := omega) only [go_sem, seval, gx4]
  rw [hrl] at B4
  obtain ⟨h9, l9, n9, L9, u9⟩ := B4.frz
  have hfl := fixN_len g.prods (nn + 1) (List.replicate nn false)
  exact hQ _ _ h9 l9 ⟨(((((e1.trans e2).trans e3).upd (h.nxt ≤ ·)).trans' u4 fun b e _ => by omega).trans' u9 fun b e _ => by omega).ext fun b hb => by omega, by rw [nulL, ← hnn]; exact L9⟩

end Go.Proofs.Ytaockkmmjinhpaa

/-
  Layer first: as many sets of so many; sets that are written.
-/
namespace Go.Proofs.Ytaockkmmjinhpaa
open Go Go.Am
set_option maxRecDepth 100000
set_option maxHeartbeats 4000000
set_option linter.unusedSimpArgs false
set_option linter.unusedVariables false

theorem zero_slcs (n : Nat) : zeroRow [.slc none 0 (some 0) 0] n = List.replicate n (.slc none 0 (some 0) 0) := by
  refine List.ext_getElem (by simp [zeroRow]) fun i h1 h2 => ?_
  simp [zeroRow, Nat.mod_one]
theorem mk_slcs {K : KH} {h : Heap} {n : Nat} (hn : n ≤ 1000000) (k : K.k (.slc (some (h.nxt, 0)) n (some n) 1) (h.add (.cells (List.replicate n (.slc none 0 (some 0) 0)) true))) : @OBk (makeSliceA T 74 (.int .i64 n) (.int .i64 n) h) K := by
  have e : makeSliceA T 74 (.int .i64 n) (.int .i64 n) h = some (.slc (some (h.nxt, 0)) n (some n) 1, h.add (.cells (List.replicate n (.slc none 0 (some 0) 0)) true)) := by
    simp only [makeSliceA, T_74, T_73]
    rw [if_pos (by omega), Int.toNat_natCast, Nat.mul_one, zero_slcs]
  exact OBk_of e k
def rowV (m b : Nat) : AV := .slc (some (b, 0)) m (some m) 1
theorem sets_uf {h : Heap} {n m : Nat} (hn : n ≤ 1000) (hm : m ≤ 1000) : UF T F 89 [.int .i64 (n : Nat), .int .i64 (m : Nat)] h fun v' h' => Ext h h' ∧ v' = .slc (some (h.nxt, 0)) n (some n) 1 ∧ ∃ bl, Tbl h' h.nxt m bl (List.replicate n (List.replicate m false)) ∧ ∀ b ∈ bl, h.nxt < b := by
  refine UF.gen fun Q hQ => UF.of (F_89) (c := _) rfl ?_
  unfold Try.f89
  simp only [List.length, Nat.reduceSub, Nat.reduceAdd, List.replicate, List.cons_append, List.nil_append]
  simp (disch := omega) only [go_sem, seval]
  refine mk_slcs (by omega) ?_
  have e1 : Ext h (h.add (.cells (List.replicate n (.slc none 0 (some 0) 0)) true)) := Ext.add _ _
  have g1 : (h.add (.cells (List.replicate n (.slc none 0 (some 0) 0)) true)).get h.nxt = some (.cells (List.replicate n (.slc none 0 (some 0) 0)) true) := get_add_self
  have n1 : (h.add (.cells (List.replicate n (.slc none 0 (some 0) 0)) true)).nxt = h.nxt + 1 := by simp
  simp (disch := omega) only [go_sem, seval]
  generalize (h.add (.cells (List.replicate n (.slc none 0 (some 0) 0)) true)) = h1 at *
  refine LoopU_while (fun q st hh => ∃ (i : Nat) (bl : List Nat), i ≤ n ∧ q = n - i ∧ Ext h hh ∧ h.nxt < hh.nxt ∧ hh.get h.nxt = some (.cells (bl.map (rowV m) ++ List.replicate (n - i) (.slc none 0 (some 0) 0)) true) ∧ bl.length = i ∧ bl.Nodup ∧ (∀ b ∈ bl, h.nxt < b ∧ Bits hh b (rowV m b) (List.replicate m false)) ∧
      Keep st 21 [(1, .int .i64 (m : Nat)), (5, .slc (some (h.nxt, 0)) n (some n) 1), (10, .int .i64 (n : Nat)), (11, .int .i64 (i : Nat))]) n
    ⟨0, [], by omega, by omega, e1, by omega, by simpa using g1, rfl, by simp, by simp, rfl, by simp [Has]⟩ ?_
  rintro q st hh ⟨i, bl, hi, rfl, eh, hnh, gh, hbl, hnd, hrow, hk⟩
  rw [hk.eq]
  obtain ⟨k1, k5, k10, k11, -⟩ := hk.2
  simp only [slotsFrom, Nat.reduceAdd] at k1 k5 k10 k11 ⊢
  simp only [k1, k5, k10, k11]
  simp (disch := omega) only [go_sem, seval]
  by_cases hlt : (i : Int) < (n : Int)
  · simp (disch := omega) only [go_sem, seval, hlt]
    refine mk_bits T_73 (by omega) ?_
    have e2 : Ext hh (hh.add (.cells ((List.replicate m false).map AV.bool) true)) := Ext.add _ _
    have gh2 := (e2.get _ hnh).trans gh
    have B2 : Bits (hh.add (.cells ((List.replicate m false).map AV.bool) true)) hh.nxt (rowV m hh.nxt) (List.replicate m false) := by
      have := bits_new (h := hh) (n := m)
      exact this
    have n2 : (hh.add (.cells ((List.replicate m false).map AV.bool) true)).nxt = hh.nxt + 1 := by simp
    have hroom : i * 1 + 1 ≤ (bl.map (rowV m) ++ List.replicate (n - i) (AV.slc none 0 (some 0) 0)).length := by simp; omega
    have hroom2 : i * 1 + 1 ≤ (bl.map (rowV m)).length + (List.replicate (n - i) (AV.slc none 0 (some 0) 0)).length := by simp; omega
    have hset : ∀ x, (bl.map (rowV m) ++ List.replicate (n - i) (AV.slc none 0 (some 0) 0)).set (i * 1) x = bl.map (rowV m) ++ [x] ++ List.replicate (n - (i + 1)) (.slc none 0 (some 0) 0) := fun x => by
      rw [Nat.mul_one, List.set_append_right _ _ (by simp; omega), List.length_map, hbl, Nat.sub_self, show n - i = n - (i + 1) + 1 by omega, List.replicate_succ, List.set_cons_zero, List.append_assoc]; rfl
    simp (disch := omega) only [go_sem, seval, hlt, gh2, hroom, hroom2, hset, Int.toNat_natCast]
    generalize (hh.add (.cells ((List.replicate m false).map AV.bool) true)) = h2 at *
    have u3 : Upd (· = h.nxt) h2 (h2.put h.nxt (.cells (bl.map (rowV m) ++ [.slc (some (hh.nxt, 0)) m (some m) 1] ++ List.replicate (n - (i + 1)) (.slc none 0 (some 0) 0)) true)) := Upd.put _ rfl fun cs e => by rw [gh2] at e; simp at e
    refine AgainK.mk (n - (i + 1)) (by simp only; omega) ⟨i + 1, bl ++ [hh.nxt], by omega, rfl, (((eh.trans e2).upd (h.nxt ≤ ·)).trans' u3 fun b e _ => by omega).ext fun b hb => by omega, by simp; omega, ?_, by simp [hbl], ?_, fun b hb => ?_, rfl, by simp [Has]⟩
    · rw [get_put_self, List.map_append]; rfl
    · rw [List.nodup_append]
      refine ⟨hnd, by simp, fun a ha b hb => ?_⟩
      simp only [List.mem_singleton] at hb
      have := (hrow a ha).2.2.1
      omega
    · rcases List.mem_append.1 hb with hb | hb
      · exact ⟨(hrow b hb).1, ((hrow b hb).2.ext e2).upd u3 (by have := (hrow b hb).1; omega)⟩
      · simp only [List.mem_singleton] at hb
        subst hb
        exact ⟨hnh, B2.upd u3 (by omega)⟩
  · simp (disch := omega) only [go_sem, seval, hlt]
    have hie : i = n := by omega
    subst hie
    rw [Nat.sub_self, List.replicate_zero, List.append_nil] at gh
    refine hQ _ _ ⟨eh, rfl, bl, ⟨hnh, gh, by simp [hbl], fun j b r h1 h2 => ?_, hnd, fun hin => by have := (hrow _ hin).1; omega⟩, fun b hb => (hrow b hb).1⟩
    have hr : r = List.replicate m false := List.eq_of_mem_replicate (List.mem_of_getElem? h2)
    subst hr
    exact ⟨List.length_replicate, (hrow b (List.mem_of_getElem? h1)).2⟩

/-- One of the sets is written. -/
theorem Tbl.write {h h' : Heap} {ob m k : Nat} {bl : List Nat} {rows : List (List Bool)} {b : Nat} {r : List Bool} (t : Tbl h ob m bl rows) (hb : bl[k]? = some b) (u : Upd (· = b) h h') (hr : r.length = m) (B : Bits h' b (.slc (some (b, 0)) m (some m) 1) r) : Tbl h' ob m bl (rows.set k r) := by
  have hne : ob ≠ b := fun e => t.ne (e ▸ List.mem_of_getElem? hb)
  refine ⟨Nat.lt_of_lt_of_le t.lt u.nxt, (u.get _ t.lt hne).trans t.get, by rw [List.length_set]; exact t.len, fun i c q h1 h2 => ?_, t.nd, t.ne⟩
  by_cases hik : k = i
  · subst hik
    rw [hb] at h1
    simp only [Option.some.injEq] at h1
    subst h1
    have hk : k < rows.length := by have := (List.getElem?_eq_some_iff.1 h2).1; rwa [List.length_set] at this
    rw [List.getElem?_set_self hk] at h2
    simp only [Option.some.injEq] at h2
    subst h2
    exact ⟨hr, B⟩
  · rw [List.getElem?_set_ne hik] at h2
    obtain ⟨q1, q2⟩ := t.row i c q h1 h2
    refine ⟨q1, q2.upd u fun e => hik ?_⟩
    subst e
    obtain ⟨l1, e1⟩ := List.getElem?_eq_some_iff.1 hb
    obtain ⟨l2, e2⟩ := List.getElem?_eq_some_iff.1 h1
    exact (List.getElem_inj t.nd).1 (e1.trans e2.symm)

end Go.Proofs.Ytaockkmmjinhpaa

/-
  Layer first: what nonterminals may begin with.
-/
namespace Go.Proofs.Ytaockkmmjinhpaa
open Go Go.Am
set_option maxRecDepth 100000
set_option maxHeartbeats 4000000
set_option linter.unusedSimpArgs false
set_option linter.unusedVariables false

theorem begF_len {t : Nat} {nu : List Bool} {fi : List (List Bool)} : ∀ {rs : List GSym} {o : List Bool}, o.length = t → (begF nu fi rs o).1.length = t
  | [], o, h => h
  | s :: r, o, h => by
    rw [begF]
    split
    · simp only [List.length_set]; exact h
    · split
      · exact begF_len (by rw [orT_len]; exact h)
      · simp only; rw [orT_len]; exact h
theorem begL_len (t : Nat) (nu : List Bool) (fi : List (List Bool)) (rs : List GSym) : (begL t nu fi rs).1.length = t := begF_len List.length_replicate
/-- One round: as of the first so many productions. -/
def stF (t : Nat) (nu : List Bool) (fi : List (List Bool)) (ps : List GProd) : Nat → List (List Bool) × Bool
  | 0 => (fi, false)
  | i + 1 => match ps[i]? with
    | some p => let F := stF t nu fi ps i
      ((F.1).set p.left.toNat (orT (F.1.getD p.left.toNat []) (begL t nu F.1 p.right).1 t), if grw (F.1.getD p.left.toNat []) (begL t nu F.1 p.right).1 t = true then true else F.2)
    | none => stF t nu fi ps i
def totF : List (List Bool) → Nat
  | [] => 0
  | r :: l => cntF r + totF l
theorem totF_set : ∀ (l : List (List Bool)) (k : Nat) (r x : List Bool), l[k]? = some x → totF (l.set k r) + cntF x = totF l + cntF r
  | [], k, r, x, h => by simp at h
  | a :: l, 0, r, x, h => by simp only [List.getElem?_cons_zero, Option.some.injEq] at h; subst h; simp only [List.set_cons_zero, totF]; omega
  | a :: l, k + 1, r, x, h => by
    have := totF_set l k r x (by simpa using h)
    simp only [List.set_cons_succ, totF]; omega
theorem orT_cnt (xs ys : List Bool) : ∀ i, i ≤ xs.length → cntF (orT xs ys i) ≤ cntF xs ∧ (grw xs ys i = true → cntF (orT xs ys i) < cntF xs)
  | 0, _ => ⟨Nat.le_refl _, fun h => by simp [grw] at h⟩
  | i + 1, hi => by
    obtain ⟨h1, h2⟩ := orT_cnt xs ys i (by omega)
    have hl := orT_len xs ys i
    have hc := cntF_set (orT xs ys i) i
    rw [orT, grw]
    by_cases hy : ys.getD i false = true
    · rw [if_pos hy]
      refine ⟨by omega, fun h => ?_⟩
      split at h
      · rename_i hc2
        have : (orT xs ys i)[i]? = some false := by
          have := hc2.2
          rw [List.getD_eq_getElem?_getD, List.getElem?_eq_getElem (by omega)] at this
          rw [List.getElem?_eq_getElem (by omega)]
          simpa using this
        have := hc.2 this
        omega
      · have := h2 h; omega
    · rw [if_neg hy, if_neg (fun h => hy h.1)]
      exact ⟨h1, h2⟩
structure Rows (t n : Nat) (fi : List (List Bool)) : Prop where
  len : fi.length = n
  row : ∀ r ∈ fi, r.length = t
theorem Rows.getD {t n : Nat} {fi : List (List Bool)} (R : Rows t n fi) {k : Nat} (hk : k < n) : ∃ r, fi[k]? = some r ∧ fi.getD k [] = r ∧ r.length = t := by
  have hk' : k < fi.length := by have := R.len; omega
  exact ⟨fi[k], List.getElem?_eq_getElem hk', by rw [List.getD_eq_getElem?_getD, List.getElem?_eq_getElem hk']; rfl, R.row _ (List.getElem_mem hk')⟩
theorem stF_ok {t n : Nat} {nu : List Bool} {fi : List (List Bool)} {ps : List GProd} (R : Rows t n fi) (hp : ∀ p ∈ ps, p.left.toNat < n) : ∀ i, Rows t n (stF t nu fi ps i).1 ∧ totF (stF t nu fi ps i).1 ≤ totF fi ∧ ((stF t nu fi ps i).2 = true → totF (stF t nu fi ps i).1 < totF fi)
  | 0 => ⟨R, Nat.le_refl _, fun h => by simp [stF] at h⟩
  | i + 1 => by
    obtain ⟨R1, t1, t2⟩ := stF_ok (nu := nu) R hp i
    rw [stF]
    split
    · rename_i p hpi
      have hpl := hp p (List.mem_of_getElem? hpi)
      obtain ⟨r, hr1, hr2, hr3⟩ := R1.getD hpl
      simp only [hr2]
      have hs := totF_set (stF t nu fi ps i).1 p.left.toNat (orT r (begL t nu (stF t nu fi ps i).1 p.right).1 t) r hr1
      have hc := orT_cnt r (begL t nu (stF t nu fi ps i).1 p.right).1 t (by omega)
      refine ⟨⟨by rw [List.length_set]; exact R1.len, fun x hx => ?_⟩, by omega, fun h => ?_⟩
      · rcases List.mem_or_eq_of_mem_set hx with hx | rfl
        · exact R1.row x hx
        · rw [orT_len]; exact hr3
      · split at h
        · rename_i hg
          have := hc.2 hg; omega
        · have := t2 h; omega
    · exact ⟨R1, t1, t2⟩
def fixF (t : Nat) (nu : List Bool) (ps : List GProd) : Nat → List (List Bool) → List (List Bool)
  | 0, fi => fi
  | f + 1, fi => if (stF t nu fi ps ps.length).2 = true then fixF t nu ps f (stF t nu fi ps ps.length).1 else (stF t nu fi ps ps.length).1
theorem fixF_ok {t n : Nat} {nu : List Bool} {ps : List GProd} (hp : ∀ p ∈ ps, p.left.toNat < n) : ∀ (f : Nat) {fi : List (List Bool)}, Rows t n fi → Rows t n (fixF t nu ps f fi)
  | 0, fi, R => R
  | f + 1, fi, R => by
    have := (stF_ok (nu := nu) R hp ps.length).1
    rw [fixF]
    split
    · exact fixF_ok hp f this
    · exact this
def firL (t n : Nat) (ps : List GProd) : List (List Bool) := fixF t (nulL n ps) ps (t * n + 1) (List.replicate n (List.replicate t false))

theorem firS_uf {h : Heap} {gb ub xb ob tn : Nat} {nv pv uv : AV} {ta pa : Option (Nat × Nat)} {tc pc : Option Nat} {tz pz : Nat} {bl : List Nat} {ns : List GNt} {ps : List GProd} {nu : List Bool} {fi : List (List Bool)}
    (hg : gb < h.nxt ∧ h.get gb = some (.cells [.slc ta tn tc tz, nv, pv] true)) (hu : ub < h.nxt ∧ h.get ub = some (.cells [uv] true)) (hx : xb < h.nxt ∧ h.get xb = some (.cells [.slc (some (ob, 0)) fi.length (some fi.length) 1] true))
    (sn : Lst h nv ns) (sp : Lst h pv ps) (su : Lst h uv nu) (tb : Tbl h ob tn bl fi) (R : Rows tn ns.length fi) (hul : nu.length = ns.length) (hl : ps.length ≤ 1000) (hn : ns.length ≤ 100) (ht : 0 < tn ∧ tn ≤ 100)
    (hp : ∀ p ∈ ps, PrOk ns.length tn p) (hne : gb ∉ bl ∧ ub ∉ bl ∧ xb ∉ bl) : UF T F 90 [.ptr (some (gb, 0)), .ptr (some (ub, 0)), .ptr (some (xb, 0))] h fun v' h' => Upd (· ∈ bl) h h' ∧ Tbl h' ob tn bl (stF tn nu fi ps ps.length).1 ∧ v' = .bool (stF tn nu fi ps ps.length).2 := by
  obtain ⟨na, nn, nc, nz, rfl, hnn⟩ := sn.form
  obtain ⟨pa', pn, pc', pz', rfl, hpn⟩ := sp.form
  obtain ⟨ua, un, uc, uz, rfl, hun⟩ := su.form
  obtain ⟨hg1, hg2⟩ := hg
  obtain ⟨hu1, hu2⟩ := hu
  obtain ⟨hx1, hx2⟩ := hx
  have hpl : ∀ p ∈ ps, p.left.toNat < ns.length := fun p hp' => by obtain ⟨⟨q1, q2⟩, _⟩ := hp p hp'; omega
  refine UF.gen fun Q hQ => UF.of (F_90) (c := _) rfl ?_
  unfold Try.f90
  simp only [List.length, Nat.reduceSub, Nat.reduceAdd, List.replicate, List.cons_append, List.nil_append]
  simp (disch := omega) only [go_sem, seval]
  simp (disch := omega) only [go_sem, seval, hg2]
  refine LoopU_while (fun m st hh => ∃ (i : Nat), i ≤ ps.length ∧ m = ps.length - i ∧ Upd (· ∈ bl) h hh ∧ Tbl hh ob tn bl (stF tn nu fi ps i).1 ∧
      Keep st 33 [(0, .ptr (some (gb, 0))), (1, .ptr (some (ub, 0))), (2, .ptr (some (xb, 0))), (3, .bool (stF tn nu fi ps i).2), (9, .slc pa' pn pc' pz'), (10, .int .i64 (pn : Nat)), (11, .int .i64 (i : Nat))]) ps.length
    ⟨0, by omega, by omega, Upd.refl _ _, tb, rfl, by simp [Has, stF]⟩ ?_
  rintro m st hh ⟨i, hi, rfl, u, tbi, hk⟩
  rw [hk.eq]
  obtain ⟨k0, k1, k2, k3, k9, k10, k11, -⟩ := hk.2
  simp only [slotsFrom, Nat.reduceAdd] at k0 k1 k2 k3 k9 k10 k11 ⊢
  simp only [k0, k1, k2, k3, k9, k10, k11]
  have hnh := u.nxt
  have RI := (stF_ok (nu := nu) R hpl i).1
  simp (disch := omega) only [go_sem, seval]
  by_cases hlt : (i : Int) < (pn : Int)
  · have hil : i < ps.length := by omega
    obtain ⟨b1, o1, cs1, l1, rfl, rfl, hb1, hg1', ⟨ra, xa, rfl, sr, sx⟩, hr1, ht1, hc1⟩ := (sp.pst u.pst).at_ (i := i) (x := ps[i]) (List.getElem?_eq_getElem hil) (k := 3) rfl
    obtain ⟨⟨q1, q2⟩, q3, q4⟩ := hp ps[i] (List.getElem_mem hil)
    have hst : stF tn nu fi ps (i + 1) = (((stF tn nu fi ps i).1).set ps[i].left.toNat (orT ((stF tn nu fi ps i).1.getD ps[i].left.toNat []) (begL tn nu (stF tn nu fi ps i).1 ps[i].right).1 tn), if grw ((stF tn nu fi ps i).1.getD ps[i].left.toNat []) (begL tn nu (stF tn nu fi ps i).1 ps[i].right).1 tn = true then true else (stF tn nu fi ps i).2) := by rw [stF, List.getElem?_eq_getElem hil]
    generalize ps[i] = p at *
    generalize stF tn nu fi ps i = S at *
    obtain ⟨mu, gr⟩ := S
    simp only at tbi RI hst ⊢
    obtain ⟨ra, rn, rc, rz, rfl, hrn⟩ := sr.form
    obtain ⟨xa, xn, xc, xz, rfl, hxn⟩ := sx.form
    obtain ⟨k, hk0⟩ : ∃ k : Nat, p.left = k := ⟨p.left.toNat, by omega⟩
    rw [hk0] at ht1 hst q2
    rw [Int.toNat_natCast] at hst
    have e2 : Ext hh ((hh.add (.cells [.int .i64 0, .slc none 0 (some 0) 0, .slc none 0 (some 0) 0] true)).put hh.nxt (.cells [.int .i64 (k : Nat), .slc ra rn rc rz, .slc xa xn xc xz] true)) := (Ext.add _ _).put (Nat.le_refl _)
    have g2 : ((hh.add (.cells [.int .i64 0, .slc none 0 (some 0) 0, .slc none 0 (some 0) 0] true)).put hh.nxt (.cells [.int .i64 (k : Nat), .slc ra rn rc rz, .slc xa xn xc xz] true)).get hh.nxt = some (.cells [.int .i64 (k : Nat), .slc ra rn rc rz, .slc xa xn xc xz] true) := get_put_self
    have n2 : ((hh.add (.cells [.int .i64 0, .slc none 0 (some 0) 0, .slc none 0 (some 0) 0] true)).put hh.nxt (.cells [.int .i64 (k : Nat), .slc ra rn rc rz, .slc xa xn xc xz] true)).nxt = hh.nxt + 1 := by simp
    simp (disch := omega) only [go_sem, seval, hlt, hg1', hr1, ht1, Int.toNat_natCast]
    generalize ((hh.add (.cells [.int .i64 0, .slc none 0 (some 0) 0, .slc none 0 (some 0) 0] true)).put hh.nxt (.cells [.int .i64 (k : Nat), .slc ra rn rc rz, .slc xa xn xc xz] true)) = h2 at *
    have u2 : Upd (· ∈ bl) h h2 := u.trans (e2.upd _)
    have gg2 := (u2.get gb hg1 hne.1).trans hg2
    have gu2 := (u2.get ub hu1 hne.2.1).trans hu2
    have gx2 := (u2.get xb hx1 hne.2.2).trans hx2
    have hfl : fi.length = mu.length := R.len.trans RI.len.symm
    rw [hfl] at gx2
    have ggh := (u.get gb hg1 hne.1).trans hg2
    have guh := (u.get ub hu1 hne.2.1).trans hu2
    have gxh := (u.get xb hx1 hne.2.2).trans hx2
    rw [hfl] at gxh
    simp (disch := omega) only [go_sem, seval, gg2, gu2, gx2, g2, ggh, guh, gxh]
    have tb2 := tbi.ext e2
    refine callV_ofU F_91 rfl ((begins_uf (sn.pst u2.pst) (su.pst u2.pst) tb2 (sr.ext e2) hul RI.len q4 (by omega) ht.2 hn).mono ?_)
    rintro v3 h3 ⟨e3, w, rfl, L3, _⟩
    have hbl3 := begL_len tn nu mu p.right
    obtain ⟨wa, wn, wc, wz, rfl, hwn⟩ := L3.form
    have gx3 := (e3.get _ (by have := u2.nxt; omega)).trans gx2
    have g3 := (e3.get _ (by omega)).trans g2
    have tb3 := tb2.ext e3
    have hkn : k < mu.length := by have := RI.len; omega
    have hkb : k < bl.length := by have := tb3.len; omega
    have q5 : (k : Int) < (mu.length : Nat) := by omega
    have gO := tb3.get
    have cO : (bl.map fun b => AV.slc (some (b, 0)) tn (some tn) 1)[k * 1]? = some (.slc (some (bl[k], 0)) tn (some tn) 1) := by rw [Nat.mul_one, List.getElem?_map, List.getElem?_eq_getElem hkb]; rfl
    obtain ⟨hrl, hrB⟩ := tb3.row k bl[k] mu[k] (List.getElem?_eq_getElem hkb) (List.getElem?_eq_getElem hkn)
    have hfi : mu.getD k [] = mu[k] := by rw [List.getD_eq_getElem?_getD, List.getElem?_eq_getElem hkn]; rfl
    rw [hfi] at hst
    simp (disch := omega) only [go_sem, seval, gx3, g3, q5, gO, cO, Int.toNat_natCast]
    refine callV_ofU F_92 rfl ((union_uf hrB (Lst.rdb L3 (fun e => by rw [e] at hbl3; simp at hbl3; omega)) (by omega) (by omega)).mono ?_)
    rintro v4 h4 ⟨u4, B4, rfl⟩
    simp (disch := omega) only [go_sem, seval]
    rw [hbl3] at B4
    have tb4 := tb3.write (List.getElem?_eq_getElem hkb) u4 (by rw [orT_len]; exact hrl) B4
    have uu : Upd (· ∈ bl) h h4 := (u2.trans (e3.upd _)).trans (u4.weak fun b _ e => by rw [e]; exact List.getElem_mem hkb)
    rw [hbl3]
    cases hgr : grw mu[k] (begL tn nu mu p.right).1 tn with
    | true =>
      rw [hgr, if_pos rfl] at hst
      simp (disch := omega) only [go_sem, seval]
      exact AgainK.mk (ps.length - (i + 1)) (by simp only; omega) ⟨i + 1, by omega, rfl, uu, by rw [hst]; exact tb4, rfl, by simp [Has, hst]⟩
    | false =>
      rw [hgr, if_neg (by simp)] at hst
      simp (disch := omega) only [go_sem, seval]
      exact AgainK.mk (ps.length - (i + 1)) (by simp only; omega) ⟨i + 1, by omega, rfl, uu, by rw [hst]; exact tb4, rfl, by simp [Has, hst]⟩
  · simp (disch := omega) only [go_sem, seval, hlt]
    have hie : i = ps.length := by omega
    subst hie
    exact hQ _ _ ⟨u, tbi, rfl⟩

end Go.Proofs.Ytaockkmmjinhpaa

/-
  Layer first: First, Row.
-/
namespace Go.Proofs.Ytaockkmmjinhpaa
open Go Go.Am
set_option maxRecDepth 100000
set_option maxHeartbeats 4000000
set_option linter.unusedSimpArgs false
set_option linter.unusedVariables false

theorem growsF_uf {h : Heap} {gb ub xb ob tn f : Nat} {nv pv uv : AV} {ta : Option (Nat × Nat)} {tc : Option Nat} {tz : Nat} {bl : List Nat} {ns : List GNt} {ps : List GProd} {nu : List Bool} {fi : List (List Bool)}
    (hg : gb < h.nxt ∧ h.get gb = some (.cells [.slc ta tn tc tz, nv, pv] true)) (hu : ub < h.nxt ∧ h.get ub = some (.cells [uv] true)) (hx : xb < h.nxt ∧ h.get xb = some (.cells [.slc (some (ob, 0)) ns.length (some ns.length) 1] true))
    (sn : Lst h nv ns) (sp : Lst h pv ps) (su : Lst h uv nu) (tb : Tbl h ob tn bl fi) (R : Rows tn ns.length fi) (hul : nu.length = ns.length) (hl : ps.length ≤ 1000) (hn : ns.length ≤ 100) (ht : 0 < tn ∧ tn ≤ 100)
    (hp : ∀ p ∈ ps, PrOk ns.length tn p) (hne : gb ∉ bl ∧ ub ∉ bl ∧ xb ∉ bl) (hf : totF fi < f) : UF T F 84 [.func (.func 90) [.ptr (some (gb, 0)), .ptr (some (ub, 0)), .ptr (some (xb, 0))]] h fun v' h' => Upd (· ∈ bl) h h' ∧ Tbl h' ob tn bl (fixF tn nu ps f fi) := by
  have hpl : ∀ p ∈ ps, p.left.toNat < ns.length := fun p hp' => by obtain ⟨⟨q1, q2⟩, _⟩ := hp p hp'; omega
  refine UF.gen fun Q hQ => UF.of (F_84) (c := _) rfl ?_
  unfold Try.f84
  simp only [List.length, Nat.reduceSub, Nat.reduceAdd, List.replicate, List.cons_append, List.nil_append]
  simp (disch := first | ((try simp only [heapN]) <;> omega) | fail) only [go_sem, seval]
  refine LoopU_while (fun m st hh => ∃ (mu : List (List Bool)) (e : Nat), m = totF mu ∧ Upd (· ∈ bl) h hh ∧ Tbl hh ob tn bl mu ∧ Rows tn ns.length mu ∧ totF mu < e ∧ fixF tn nu ps f fi = fixF tn nu ps e mu ∧
      Keep st 4 [(0, .func (.func 90) [.ptr (some (gb, 0)), .ptr (some (ub, 0)), .ptr (some (xb, 0))])]) (totF fi)
    ⟨fi, f, rfl, Upd.refl _ _, tb, R, hf, rfl, rfl, by simp [Has]⟩ ?_
  rintro m st hh ⟨mu, e, rfl, u, tbm, RM, hc, hfx, hk⟩
  rw [hk.eq]
  obtain ⟨k0, -⟩ := hk.2
  simp only [slotsFrom, Nat.reduceAdd] at k0 ⊢
  simp only [k0]
  simp (disch := first | ((try simp only [heapN]) <;> omega) | fail) only [go_sem, seval]
  obtain ⟨e, rfl⟩ : ∃ d, e = d + 1 := ⟨e - 1, by omega⟩
  rw [fixF] at hfx
  have hnh := u.nxt
  have hok := stF_ok (nu := nu) RM hpl ps.length
  refine callV_ofU F_90 rfl ((firS_uf (pa := none) (pc := none) (pz := 0) ⟨by omega, (u.get gb hg.1 hne.1).trans hg.2⟩ ⟨by omega, (u.get ub hu.1 hne.2.1).trans hu.2⟩ ⟨by omega, by rw [RM.len]; exact (u.get xb hx.1 hne.2.2).trans hx.2⟩ (sn.pst u.pst) (sp.pst u.pst) (su.pst u.pst) tbm RM hul hl hn ht hp hne).mono ?_)
  rintro v2 h2 ⟨u2, tb2, rfl⟩
  simp (disch := first | ((try simp only [heapN]) <;> omega) | fail) only [go_sem, seval]
  cases hgr : (stF tn nu mu ps ps.length).2 with
  | true =>
    rw [hgr, if_pos rfl] at hfx
    have := hok.2.2 hgr
    simp (disch := first | ((try simp only [heapN]) <;> omega) | fail) only [go_sem, seval]
    exact AgainK.mk (totF (stF tn nu mu ps ps.length).1) (by simp only; omega) ⟨_, e, rfl, u.trans u2, tb2, hok.1, by omega, hfx, rfl, by simp [Has]⟩
  | false =>
    rw [hgr, if_neg (by simp)] at hfx
    simp (disch := first | ((try simp only [heapN]) <;> omega) | fail) only [go_sem, seval]
    exact hQ _ _ ⟨u.trans u2, by rw [hfx]; exact tb2⟩

theorem totF_rep (t : Nat) : ∀ n, totF (List.replicate n (List.replicate t false)) ≤ t * n
  | 0 => by simp [totF]
  | n + 1 => by
    have := totF_rep t n
    have h2 := cntF_le (List.replicate t false)
    rw [List.length_replicate] at h2
    rw [List.replicate_succ, totF, Nat.mul_succ]; omega
theorem rows_rep (t n : Nat) : Rows t n (List.replicate n (List.replicate t false)) := ⟨List.length_replicate, fun r hr => by rw [List.eq_of_mem_replicate hr]; exact List.length_replicate⟩

theorem del_le (h : Heap) (b : Nat) : Le (h.del b) h := ⟨rfl, fun c x e => by
  rw [Heap.get_del] at e
  split at e
  · cases e
  · exact ⟨x, e, x.le_refl⟩⟩
theorem del_ext {h : Heap} {b : Nat} (hb : h.nxt ≤ b) : Ext h (h.del b) := ⟨Nat.le_refl _, fun c hc => by rw [Heap.get_del, if_neg (by omega)]⟩
/-- What may stand at two numbers that are not yet given is forgotten. -/
theorem UF_clean {f : Nat} {args : List AV} {h : Heap} {x : AV} {i j : Nat} (w : UF T F f args h fun v h' => Ext h h' ∧ v = x) : UF T F f args h fun v h' => (Ext h h' ∧ v = x) ∧ h'.get (h'.nxt + i) = none ∧ h'.get (h'.nxt + j) = none := by
  refine UF.lessQ (w.mono ?_)
  rintro v h' ⟨e, rfl⟩
  refine ⟨(h'.del (h'.nxt + i)).del (h'.nxt + j), (del_le _ _).trans (del_le _ _), ⟨(e.trans (del_ext (by omega))).trans (del_ext (by show h'.nxt ≤ _; omega)), rfl⟩, ?_, ?_⟩
  · show ((h'.del (h'.nxt + i)).del (h'.nxt + j)).get (h'.nxt + i) = none
    rw [Heap.get_del, Heap.get_del, if_pos rfl]
    split <;> rfl
  · show ((h'.del (h'.nxt + i)).del (h'.nxt + j)).get (h'.nxt + j) = none
    rw [Heap.get_del, if_pos rfl]

theorem First_uf {h : Heap} {tv nv pv : AV} {g : Gm} (lt : Lst h tv g.toks) (sn : Lst h nv g.nts) (sp : Lst h pv g.prods) (M : MayG g) : UF T F 39 [.agg [tv, nv, pv]] h fun v' h' => Ext h h' ∧ ∃ ob bl, v' = .slc (some (ob, 0)) g.nts.length (some g.nts.length) 1 ∧ Tbl h' ob g.toks.length bl (firL g.toks.length g.nts.length g.prods) ∧ h.nxt ≤ ob ∧ ∀ b ∈ bl, h.nxt ≤ b := by
  obtain ⟨ta, tn, tc, tz, rfl, htn⟩ := lt.form
  obtain ⟨na, nn, nc, nz, rfl, hnn⟩ := sn.form
  obtain ⟨pa, pn, pc, pz, rfl, hpn⟩ := sp.form
  refine UF.gen fun Q hQ => UF.of (F_39) (c := _) rfl ?_
  unfold Try.f39
  simp only [List.length, Nat.reduceSub, Nat.reduceAdd, List.replicate, List.cons_append, List.nil_append]
  simp (disch := first | ((try simp only [heapN]) <;> omega) | fail) only [go_sem, seval]
  have e1 : Ext h (h.add (.cells [.slc ta tn tc tz, .slc na nn nc nz, .slc pa pn pc pz] true)) := Ext.add _ _
  have g1 : (h.add (.cells [.slc ta tn tc tz, .slc na nn nc nz, .slc pa pn pc pz] true)).get h.nxt = some (.cells [.slc ta tn tc tz, .slc na nn nc nz, .slc pa pn pc pz] true) := get_add_self
  have n1 : (h.add (.cells [.slc ta tn tc tz, .slc na nn nc nz, .slc pa pn pc pz] true)).nxt = h.nxt + 1 := by simp
  generalize (h.add (.cells [.slc ta tn tc tz, .slc na nn nc nz, .slc pa pn pc pz] true)) = h1 at *
  have hnl := M.nl
  have htl := M.tl
  refine callV_ofU F_28 rfl ((UF_clean (i := 9) (j := 10) (May_uf (lt.ext e1) (sn.ext e1) (sp.ext e1) M)).mono ?_)
  rintro v2 h2 ⟨⟨e2, rfl⟩, z9, z10⟩
  simp (disch := first | ((try simp only [heapN]) <;> omega) | fail) only [go_sem, seval]
  have g2 := (e2.get _ (by omega)).trans g1
  have hn2 := e2.nxt
  refine DrawU_of' (fun b => b = h.nxt) [0, 1, 0, 4, 12, 0, 32, 96, 255, 0, 0, 2047, 4095] (by rfl) (by rfl) (fun b hb => by subst hb; omega) ?_
  simp (disch := first | ((try simp only [heapN]) <;> omega) | fail) only [go_sem, seval]
  refine LoadK_ofU rfl rfl ?_
  have e12 := e1.trans e2
  simp (disch := first | ((try simp only [heapN]) <;> omega) | fail) only [go_sem, seval, g2]
  refine callV_ofU F_37 rfl ((Nullable_uf ((lt.ext e12).ext (Ext.bump _ _)) ((sn.ext e12).ext (Ext.bump _ _)) ((sp.ext e12).ext (Ext.bump _ _)) M).mono ?_)
  rintro v3 h3 ⟨e3, L3⟩
  simp (disch := first | ((try simp only [heapN]) <;> omega) | fail) only [go_sem, seval]
  have hn3 := e3.nxt
  simp only [bump_nxt] at hn3
  have g3 := (e3.get h.nxt (by simp; omega)).trans ((bump_get ..).trans g2)
  refine ⟨fun b hb => by subst hb; exact g3.trans g2.symm, ?_⟩
  refine LoadK_ofU rfl rfl ?_
  simp (disch := first | ((try simp only [heapN]) <;> omega) | fail) only [go_sem, seval, g3]
  refine LoadK_ofU rfl rfl ?_
  simp (disch := first | ((try simp only [heapN]) <;> omega) | fail) only [go_sem, seval, g3]
  refine callV_ofU F_89 rfl ((sets_uf (n := nn) (m := tn) (by omega) (by omega)).mono ?_)
  rintro v4 h4 ⟨e4, rfl, bl, tb4, hbl⟩
  simp (disch := first | ((try simp only [heapN]) <;> omega) | fail) only [go_sem, seval]
  have g4 := (e4.get _ (by omega)).trans g3
  have hn4 := e4.nxt
  refine ⟨fun b hb => by subst hb; exact g4.trans g3.symm, ?_⟩
  obtain ⟨ua, un, uc, uz, rfl, hun⟩ := L3.form
  simp (disch := first | ((try simp only [heapN]) <;> omega) | fail) only [go_sem, seval]
  have y9 : h4.get (h2.nxt + 9) = none := (e4.get _ (by omega)).trans ((e3.get _ (by simp)).trans ((bump_get ..).trans z9))
  have y10 : h4.get (h2.nxt + 10) = none := (e4.get _ (by omega)).trans ((e3.get _ (by simp)).trans ((bump_get ..).trans z10))
  refine ⟨fun b hb => by subst hb; rw [get_put_ne (by omega), get_put_ne (by omega), get_put_ne (by omega)], fun b hb => by subst hb; rw [get_put_ne (by omega)], ?_⟩
  have uP : ∀ x1 x2 x3 x4, Upd (fun b => b = h2.nxt + 9 ∨ b = h2.nxt + 10) h4 ((((h4.put (h2.nxt + 9) (.cells x1 true)).put (h2.nxt + 10) (.cells x2 true)).put (h2.nxt + 9) (.cells x3 true)).put (h2.nxt + 10) (.cells x4 true)) := fun x1 x2 x3 x4 => by
    refine (((Upd.put _ (.inl rfl) fun cs e => by rw [y9] at e; cases e).trans (Upd.put _ (.inr rfl) fun cs e => by rw [get_put_ne (by omega), y10] at e; cases e)).trans (Upd.put _ (.inl rfl) fun cs e => by rw [get_put_ne (by omega), get_put_self] at e; simp at e)).trans (Upd.put _ (.inr rfl) fun cs e => by rw [get_put_ne (by omega), get_put_self] at e; simp at e)
  have uH := uP [.slc none 0 (some 0) 0] [.slc none 0 (some 0) 0] [.slc ua un uc uz] [.slc (some (h3.nxt, 0)) nn (some nn) 1]
  have gu : ((((h4.put (h2.nxt + 9) (.cells [.slc none 0 (some 0) 0] true)).put (h2.nxt + 10) (.cells [.slc none 0 (some 0) 0] true)).put (h2.nxt + 9) (.cells [.slc ua un uc uz] true)).put (h2.nxt + 10) (.cells [.slc (some (h3.nxt, 0)) nn (some nn) 1] true)).get (h2.nxt + 9) = some (.cells [.slc ua un uc uz] true) := (get_put_ne (by omega)).trans get_put_self
  have gx : ((((h4.put (h2.nxt + 9) (.cells [.slc none 0 (some 0) 0] true)).put (h2.nxt + 10) (.cells [.slc none 0 (some 0) 0] true)).put (h2.nxt + 9) (.cells [.slc ua un uc uz] true)).put (h2.nxt + 10) (.cells [.slc (some (h3.nxt, 0)) nn (some nn) 1] true)).get (h2.nxt + 10) = some (.cells [.slc (some (h3.nxt, 0)) nn (some nn) 1] true) := get_put_self
  generalize ((((h4.put (h2.nxt + 9) (.cells [.slc none 0 (some 0) 0] true)).put (h2.nxt + 10) (.cells [.slc none 0 (some 0) 0] true)).put (h2.nxt + 9) (.cells [.slc ua un uc uz] true)).put (h2.nxt + 10) (.cells [.slc (some (h3.nxt, 0)) nn (some nn) 1] true)) = H at *
  have e24 : Ext h2 h4 := ((Ext.bump _ _).trans e3).trans e4
  have eH : Ext h2 H := ((e24.upd (h2.nxt ≤ ·)).trans (uH.weak fun b _ e => by omega)).ext fun b hb => by omega
  have gH := (eH.get _ (by omega)).trans g2
  have hnH := uH.nxt
  have tbH := tb4.upd uH (by omega) fun b hb => by have := hbl b hb; omega
  have e1H := e12.trans eH
  have hbl' : ∀ b, b ≤ h3.nxt → b ∉ bl := fun b hb hin => by have := hbl b hin; omega
  have w84 := growsF_uf (ns := g.nts) (f := tn * nn + 1) ⟨by omega, gH⟩ ⟨by omega, gu⟩ ⟨by omega, by rw [← hnn]; exact gx⟩ (sn.ext e1H) (sp.ext e1H) ((L3.ext e4).pst uH.pst) tbH (by rw [← hnn]; exact rows_rep tn nn) (by rw [nulL, fixN_len, List.length_replicate]) (by have := M.pl; omega) (by omega) ⟨by omega, by omega⟩ (fun p hp => by rw [htn]; exact M.pr p hp) ⟨hbl' h.nxt (by omega), hbl' (h2.nxt + 9) (by omega), hbl' (h2.nxt + 10) (by omega)⟩ (by have := totF_rep tn nn; omega)
  refine callV_ofU F_84 rfl (w84.mono ?_)
  rintro v5 h5 ⟨u5, tb5⟩
  have gx5 := (u5.get (h2.nxt + 10) (by omega) (hbl' _ (by omega))).trans gx
  simp (disch := first | ((try simp only [heapN]) <;> omega) | fail) only [go_sem, seval, gx5]
  refine hQ _ _ ⟨((e1H.upd (h.nxt ≤ ·)).trans' u5 fun b e hb => by have := hbl b e; omega).ext fun b hb => by omega, h3.nxt, bl, by rw [hnn], ?_, by omega, fun b hb => by have := hbl b hb; omega⟩
  rw [firL, ← htn]
  rw [← hnn] at tb5 ⊢
  exact tb5

end Go.Proofs.Ytaockkmmjinhpaa

/-
  Layer first: Row.
-/
namespace Go.Proofs.Ytaockkmmjinhpaa
open Go Go.Am
set_option maxRecDepth 100000
set_option maxHeartbeats 4000000
set_option linter.unusedSimpArgs false
set_option linter.unusedVariables false

section
variable {T : TT} {F : Nat → Option Func} {P : Nat → Prop} {all l : List Oper} {bf : List Nat} {base i msk : Nat} {s : List AV} {h : Heap} {nb : List (Nat × Blk)} {Q : List AV → Heap → Prop} {d : Option Nat} {ty : TypeId} {pos : String} {after : Array Edge}
@[go_sem ↓] theorem UE_part {x : Operand} {j : Nat} : UE T F P all bf base (⟨d, .extract x j, ty, pos, after, none⟩ :: l) i s h nb msk Q = @OBk (opA T (evalO s) (.extract x j) h) ⟨fun v _ => @SetK (putA s d v) h ⟨fun s h => UE T F P all bf base l (i + 1) s h nb msk Q⟩⟩ := UE_pure rfl rfl
end
theorem nulL_len (n : Nat) (ps : List GProd) : (nulL n ps).length = n := by rw [nulL, fixN_len, List.length_replicate]
theorem firL_rows {g : Gm} (M : MayG g) : Rows g.toks.length g.nts.length (firL g.toks.length g.nts.length g.prods) :=
  fixF_ok (fun p hp => by have := (M.pr p hp).1; omega) _ (rows_rep _ _)
/-- What symbols may begin with, by a grammar. -/
def rowL (g : Gm) (rs : List GSym) : List Bool × Bool := begL g.toks.length (nulL g.nts.length g.prods) (firL g.toks.length g.nts.length g.prods) rs
theorem rowL_len (g : Gm) (rs : List GSym) : (rowL g rs).1.length = g.toks.length := begL_len _ _ _ _

theorem Row_uf {h : Heap} {tv nv pv rv : AV} {g : Gm} {rs : List GSym} (lt : Lst h tv g.toks) (sn : Lst h nv g.nts) (sp : Lst h pv g.prods) (sr : Lst h rv rs) (M : MayG g) (hs : ∀ s ∈ rs, SymOk g.toks.length g.nts.length s) (hr : rs.length ≤ 100) : UF T F 41 [.agg [tv, nv, pv], rv] h fun v' h' => Ext h h' ∧ ∃ w, v' = .tup [w, .bool (rowL g rs).2] ∧ Lst h' w (rowL g rs).1 ∧ ∃ b, w = .slc (some (b, 0)) g.toks.length (some g.toks.length) 1 := by
  obtain ⟨ta, tn, tc, tz, rfl, htn⟩ := lt.form
  obtain ⟨na, nn, nc, nz, rfl, hnn⟩ := sn.form
  obtain ⟨pa, pn, pc, pz, rfl, hpn⟩ := sp.form
  obtain ⟨ra, rn, rc, rz, rfl, hrn⟩ := sr.form
  refine UF.gen fun Q hQ => UF.of (F_41) (c := _) rfl ?_
  unfold Try.f41
  simp only [List.length, Nat.reduceSub, Nat.reduceAdd, List.replicate, List.cons_append, List.nil_append]
  simp (disch := first | ((try simp only [heapN]) <;> omega) | fail) only [go_sem, seval]
  have e1 : Ext h (h.add (.cells [.slc ta tn tc tz, .slc na nn nc nz, .slc pa pn pc pz] true)) := Ext.add _ _
  have g1 : (h.add (.cells [.slc ta tn tc tz, .slc na nn nc nz, .slc pa pn pc pz] true)).get h.nxt = some (.cells [.slc ta tn tc tz, .slc na nn nc nz, .slc pa pn pc pz] true) := get_add_self
  have n1 : (h.add (.cells [.slc ta tn tc tz, .slc na nn nc nz, .slc pa pn pc pz] true)).nxt = h.nxt + 1 := by simp
  generalize (h.add (.cells [.slc ta tn tc tz, .slc na nn nc nz, .slc pa pn pc pz] true)) = h1 at *
  have hnl := M.nl
  have htl := M.tl
  refine callV_ofU F_28 rfl ((May_uf (lt.ext e1) (sn.ext e1) (sp.ext e1) M).mono ?_)
  rintro v2 h2 ⟨e2, rfl⟩
  simp (disch := first | ((try simp only [heapN]) <;> omega) | fail) only [go_sem, seval]
  have g2 := (e2.get _ (by omega)).trans g1
  have hn2 := e2.nxt
  refine DrawU_of' (fun b => b = h.nxt) [0, 0, 2, 0, 14, 0, 63, 127, 127, 511, 1023] (by rfl) (by rfl) (fun b hb => by subst hb; omega) ?_
  simp (disch := first | ((try simp only [heapN]) <;> omega) | fail) only [go_sem, seval]
  have e12 := e1.trans e2
  refine LoadK_ofU rfl rfl ?_
  simp (disch := first | ((try simp only [heapN]) <;> omega) | fail) only [go_sem, seval, g2]
  refine LoadK_ofU rfl rfl ?_
  simp (disch := first | ((try simp only [heapN]) <;> omega) | fail) only [go_sem, seval, g2]
  refine callV_ofU F_37 rfl ((Nullable_uf ((lt.ext e12).ext (Ext.bump _ _)) ((sn.ext e12).ext (Ext.bump _ _)) ((sp.ext e12).ext (Ext.bump _ _)) M).mono ?_)
  rintro v3 h3 ⟨e3, L3⟩
  simp (disch := first | ((try simp only [heapN]) <;> omega) | fail) only [go_sem, seval]
  have hn3 := e3.nxt
  simp only [bump_nxt] at hn3
  have g3 := (e3.get h.nxt (by simp; omega)).trans ((bump_get ..).trans g2)
  refine ⟨fun b hb => by subst hb; exact g3.trans g2.symm, ?_⟩
  refine LoadK_ofU rfl rfl ?_
  simp (disch := first | ((try simp only [heapN]) <;> omega) | fail) only [go_sem, seval, g3]
  have e13 := e12.trans ((Ext.bump _ _).trans e3)
  refine callV_ofU F_39 rfl ((First_uf (lt.ext e13) (sn.ext e13) (sp.ext e13) M).mono ?_)
  rintro v4 h4 ⟨e4, ob, bl, rfl, tb4, _, _⟩
  simp (disch := first | ((try simp only [heapN]) <;> omega) | fail) only [go_sem, seval]
  have g4 := (e4.get _ (by omega)).trans g3
  have hn4 := e4.nxt
  refine ⟨fun b hb => by subst hb; exact g4.trans g3.symm, ?_⟩
  have e14 := e13.trans e4
  have hR := firL_rows M
  rw [← hR.len]
  refine callV_ofU F_91 rfl ((begins_uf (sn.ext e14) (L3.ext e4) (by rw [htn]; exact tb4) (sr.ext e14) (nulL_len _ _) hR.len (by rw [htn]; exact hs) hr (by omega) (by omega)).mono ?_)
  rintro v5 h5 ⟨e5, w, rfl, L5, wb, hwb⟩
  have g5 := (e5.get _ (by omega)).trans g4
  refine ⟨fun b hb => by subst hb; exact g5.trans g4.symm, ?_⟩
  rw [htn] at L5
  rw [htn]
  simp (disch := first | ((try simp only [heapN]) <;> omega) | fail) only [go_sem, seval]
  exact hQ _ _ ⟨e14.trans e5, w, rfl, L5, wb, by rw [hwb, htn]⟩

theorem getD_set (l : List Bool) (k t : Nat) (y : Bool) : (l.set k y).getD t false = if t = k ∧ k < l.length then y else l.getD t false := by
  rw [List.getD_eq_getElem?_getD, List.getD_eq_getElem?_getD, List.getElem?_set]
  by_cases h : k = t
  · subst h
    rw [if_pos rfl]
    by_cases h2 : k < l.length
    · rw [if_pos h2, if_pos ⟨rfl, h2⟩]; rfl
    · rw [if_neg h2, if_neg (by omega), List.getElem?_eq_none (by omega)]
  · rw [if_neg h, if_neg (by omega)]
theorem getD_or {l : List Bool} {t : Nat} (h : l.length ≤ t) : l.getD t false = false := by
  rw [List.getD_eq_getElem?_getD, List.getElem?_eq_none h]; rfl
theorem orT_getD (xs ys : List Bool) (t : Nat) (ht : t < xs.length) : ∀ i, (orT xs ys i).getD t false = (xs.getD t false || (decide (t < i) && ys.getD t false))
  | 0 => by simp [orT]
  | i + 1 => by
    rw [orT]
    have ih := orT_getD xs ys t ht i
    have hl := orT_len xs ys i
    split
    · rename_i hy
      rw [getD_set, ih]
      by_cases hti : t = i
      · subst hti
        rw [if_pos ⟨rfl, by omega⟩, hy]; simp
      · rw [if_neg (by omega)]
        by_cases h2 : t < i
        · simp [h2, Nat.lt_succ_of_lt h2]
        · simp [h2, show ¬ t < i + 1 by omega]
    · rename_i hy
      rw [ih]
      by_cases hti : t = i
      · subst hti
        have : ys.getD t false = false := by simpa using hy
        rw [this]; simp
      · by_cases h2 : t < i
        · simp [h2, Nat.lt_succ_of_lt h2]
        · simp [h2, show ¬ t < i + 1 by omega]
theorem orT_all {xs ys : List Bool} {t : Nat} (ht : t < xs.length) : (orT xs ys ys.length).getD t false = (xs.getD t false || ys.getD t false) := by
  rw [orT_getD xs ys t ht]
  by_cases h : t < ys.length
  · simp [h]
  · rw [getD_or (l := ys) (by omega)]; simp
end Go.Proofs.Ytaockkmmjinhpaa
