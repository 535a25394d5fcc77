/-
  Layer first: what symbols may begin with.
-/
import Derived.Test.YtaockkmmjinhpaaFstA
namespace Go.Proofs.Ytaockkmmjinhpaa
open Go Go.Am
set_option maxRecDepth 100000
set_option maxHeartbeats 4000000
set_option linter.unusedSimpArgs false
set_option linter.unusedVariables false

theorem flat_bools (bs : List Bool) : (bs.map fun b => [AV.bool b]).flatten = bs.map AV.bool := by
  induction bs with
  | nil => rfl
  | cons b bs ih => simp only [List.map_cons, List.flatten_cons, ih]; rfl
theorem reps_bool (h : Heap) : ∀ bs : List Bool, Reps h bs (bs.map fun b => [AV.bool b])
  | [] => .nil
  | b :: bs => .cons rfl (reps_bool h bs)
/-- A set is frozen. -/
theorem Bits.frz {h : Heap} {b : Nat} {v : AV} {bs : List Bool} (B : Bits h b v bs) : ∃ h', Le h' h ∧ h'.nxt = h.nxt ∧ Lst h' v bs ∧ Upd (· = b) h h' := by
  obtain ⟨rfl, hb, hg⟩ := B
  have sl : LSlc h (.slc (some (b, 0)) bs.length (some bs.length) 1) bs := LSlc.lit (ls := bs.map fun b => [AV.bool b]) hb hg (flat_bools bs).symm (reps_bool h bs) (by simp) rfl
  exact ⟨h.frz b, frz_le _ _, by simp, sl.frz, frz_upd rfl⟩
theorem zero_bools (n : Nat) : zeroRow [.bool false] n = (List.replicate n false).map AV.bool := by
  refine List.ext_getElem (by simp [zeroRow]) fun i h1 h2 => ?_
  simp [zeroRow, Nat.mod_one]
/-- A new set. -/
theorem mk_bits {K : KH} {h : Heap} {n : Nat} {t : Nat} {zr : List AV} (ht : T t = some ⟨.slc 4, 1, 24, zr, false⟩) (hn : n ≤ 1000000) (k : K.k (.slc (some (h.nxt, 0)) n (some n) 1) (h.add (.cells ((List.replicate n false).map AV.bool) true))) : @OBk (makeSliceA T t (.int .i64 n) (.int .i64 n) h) K := by
  have e : makeSliceA T t (.int .i64 n) (.int .i64 n) h = some (.slc (some (h.nxt, 0)) n (some n) 1, h.add (.cells ((List.replicate n false).map AV.bool) true)) := by
    simp only [makeSliceA, ht, T_4]
    rw [if_pos (by omega), Int.toNat_natCast, Nat.mul_one, zero_bools]
  exact OBk_of e k
theorem bits_new {h : Heap} {n : Nat} : Bits (h.add (.cells ((List.replicate n false).map AV.bool) true)) h.nxt (.slc (some (h.nxt, 0)) n (some n) 1) (List.replicate n false) := ⟨by simp, by simp, get_add_self⟩

/-- Sets, each in a block of its own. -/
structure Tbl (h : Heap) (ob m : Nat) (bl : List Nat) (rows : List (List Bool)) : Prop where
  lt : ob < h.nxt
  get : h.get ob = some (.cells (bl.map fun b => .slc (some (b, 0)) m (some m) 1) true)
  len : bl.length = rows.length
  row : ∀ (i b : Nat) (r : List Bool), bl[i]? = some b → rows[i]? = some r → r.length = m ∧ Bits h b (.slc (some (b, 0)) m (some m) 1) r
  nd : bl.Nodup
  ne : ob ∉ bl
theorem Tbl.upd {h h' : Heap} {ob m : Nat} {bl : List Nat} {rows : List (List Bool)} {S : Nat → Prop} (t : Tbl h ob m bl rows) (u : Upd S h h') (ho : ¬ S ob) (hb : ∀ b ∈ bl, ¬ S b) : Tbl h' ob m bl rows :=
  ⟨Nat.lt_of_lt_of_le t.lt u.nxt, (u.get _ t.lt ho).trans t.get, t.len, fun i b r h1 h2 => ⟨(t.row i b r h1 h2).1, (t.row i b r h1 h2).2.upd u (hb b (List.mem_of_getElem? h1))⟩, t.nd, t.ne⟩
theorem Tbl.ext {h h' : Heap} {ob m : Nat} {bl : List Nat} {rows : List (List Bool)} (t : Tbl h ob m bl rows) (e : Ext h h') : Tbl h' ob m bl rows := t.upd (e.upd fun _ => False) (fun f => f) fun _ _ f => f
/-- What symbols may begin with, and whether they can be nothing. -/
def begF (nu : List Bool) (fi : List (List Bool)) : List GSym → List Bool → List Bool × Bool
  | [], o => (o, true)
  | s :: r, o => if s.tok = true then (o.set s.at_.toNat true, false) else
      if nu.getD s.at_.toNat false = true then begF nu fi r (orT o (fi.getD s.at_.toNat []) (fi.getD s.at_.toNat []).length) else (orT o (fi.getD s.at_.toNat []) (fi.getD s.at_.toNat []).length, false)
def begL (t : Nat) (nu : List Bool) (fi : List (List Bool)) (r : List GSym) : List Bool × Bool := begF nu fi r (List.replicate t false)

theorem begins_uf {h : Heap} {nv uv rv : AV} {ta pa : Option (Nat × Nat)} {tn pn : Nat} {tc pc : Option Nat} {tz pz ob : Nat} {bl : List Nat} {ns : List GNt} {nu : List Bool} {rows : List (List Bool)} {rs : List GSym}
    (sn : Lst h nv ns) (su : Lst h uv nu) (tb : Tbl h ob tn bl rows) (sr : Lst h rv rs) (hu : nu.length = ns.length) (hrow : rows.length = ns.length) (hs : ∀ s ∈ rs, SymOk tn ns.length s) (hr : rs.length ≤ 100) (ht : tn ≤ 100) (hn : ns.length ≤ 100) :
    UF T F 91 [.agg [.slc ta tn tc tz, nv, .slc pa pn pc pz], uv, .slc (some (ob, 0)) rows.length (some rows.length) 1, rv] h fun v' h' => Ext h h' ∧ ∃ w, v' = .tup [w, .bool (begL tn nu rows rs).2] ∧ Lst h' w (begL tn nu rows rs).1 := by
  obtain ⟨na, nn, nc, nz, rfl, hnn⟩ := sn.form
  obtain ⟨ua, un, uc, uz, rfl, hun⟩ := su.form
  obtain ⟨ra, rn, rc, rz, rfl, hrn⟩ := sr.form
  refine UF.genq fun Q hQ => UF.of (F_91) (c := _) rfl ?_
  unfold Try.f91
  simp only [List.length, Nat.reduceSub, Nat.reduceAdd, List.replicate, List.cons_append, List.nil_append]
  simp (disch := omega) only [go_sem, seval]
  refine mk_bits T_73 (by omega) ?_
  have e1 : Ext h ((h.add (.cells [.slc ta tn tc tz, .slc na nn nc nz, .slc pa pn pc pz] true)).add (.cells ((List.replicate tn false).map AV.bool) true)) := (Ext.add _ _).trans (Ext.add _ _)
  have g0 : ((h.add (.cells [.slc ta tn tc tz, .slc na nn nc nz, .slc pa pn pc pz] true)).add (.cells ((List.replicate tn false).map AV.bool) true)).get h.nxt = some (.cells [.slc ta tn tc tz, .slc na nn nc nz, .slc pa pn pc pz] true) := by rw [get_add_lt (by simp), get_add_self]
  have B0 : Bits ((h.add (.cells [.slc ta tn tc tz, .slc na nn nc nz, .slc pa pn pc pz] true)).add (.cells ((List.replicate tn false).map AV.bool) true)) (h.nxt + 1) (.slc (some (h.nxt + 1, 0)) tn (some tn) 1) (List.replicate tn false) := by
    have := bits_new (h := h.add (.cells [.slc ta tn tc tz, .slc na nn nc nz, .slc pa pn pc pz] true)) (n := tn)
    rwa [Heap.add_nxt] at this
  have n1 : ((h.add (.cells [.slc ta tn tc tz, .slc na nn nc nz, .slc pa pn pc pz] true)).add (.cells ((List.replicate tn false).map AV.bool) true)).nxt = h.nxt + 2 := by simp
  simp (disch := omega) only [go_sem, seval]
  generalize ((h.add (.cells [.slc ta tn tc tz, .slc na nn nc nz, .slc pa pn pc pz] true)).add (.cells ((List.replicate tn false).map AV.bool) true)) = h1 at *
  have hbl : ∀ b ∈ bl, b < h.nxt := fun b hb => by
    obtain ⟨i, hi, rfl⟩ := List.getElem_of_mem hb
    have hl := tb.len
    exact (tb.row i bl[i] rows[i] (List.getElem?_eq_getElem hi) (List.getElem?_eq_getElem (by omega))).2.2.1
  have hob := tb.lt
  refine LoopU_while (fun m st hh => ∃ (i : Nat) (zs : List Bool), i ≤ rs.length ∧ m = rs.length - i ∧ Upd (· = h.nxt + 1) h1 hh ∧ Bits hh (h.nxt + 1) (.slc (some (h.nxt + 1, 0)) tn (some tn) 1) zs ∧ zs.length = tn ∧ begL tn nu rows rs = begF nu rows (rs.drop i) zs ∧
      Keep st 77 [(1, .slc ua un uc uz), (2, .slc (some (ob, 0)) rows.length (some rows.length) 1), (4, .ptr (some (h.nxt, 0))), (10, .slc (some (h.nxt + 1, 0)) tn (some tn) 1), (17, .slc ra rn rc rz), (18, .int .i64 (rn : Nat)), (19, .int .i64 (i : Nat))]) rs.length
    ⟨0, _, by omega, by omega, Upd.refl _ _, B0, by simp, rfl, rfl, by simp [Has]⟩ ?_
  rintro m st hh ⟨i, zs, hi, rfl, u, B, hzl, hbg, hk⟩
  rw [hk.eq]
  obtain ⟨k1, k2, k4, k10, k17, k18, k19, -⟩ := hk.2
  simp only [slotsFrom, Nat.reduceAdd] at k1 k2 k4 k10 k17 k18 k19 ⊢
  simp only [k1, k2, k4, k10, k17, k18, k19]
  have hnh := u.nxt
  have gh := (u.get h.nxt (by omega) (by omega)).trans g0
  simp (disch := omega) only [go_sem, seval]
  by_cases hlt : (i : Int) < (rn : Int)
  · have hil : i < rs.length := by omega
    obtain ⟨b1, o1, cs1, l1, rfl, rfl, hb1, hg1, rfl, hr1, ht1, hc1⟩ := ((sr.ext e1).pst u.pst).at_ (i := i) (x := rs[i]) (List.getElem?_eq_getElem hil) (k := 2) rfl
    obtain ⟨s0, s1, s2⟩ := hs rs[i] (List.getElem_mem hil)
    rw [List.drop_eq_getElem_cons hil, begF] at hbg
    generalize rs[i] = s at *
    obtain ⟨k, hk0⟩ : ∃ k : Nat, s.at_ = k := ⟨s.at_.toNat, by omega⟩
    rw [hk0] at ht1 s1 s2 hbg
    rw [Int.toNat_natCast] at hbg
    have q0 : ¬ (k : Int) < 0 := by omega
    have e2 : Ext hh ((hh.add (.cells [.bool false, .int .i64 0] true)).put hh.nxt (.cells [.bool s.tok, .int .i64 (k : Nat)] true)) := (Ext.add _ _).put (Nat.le_refl _)
    have g2 : ((hh.add (.cells [.bool false, .int .i64 0] true)).put hh.nxt (.cells [.bool s.tok, .int .i64 (k : Nat)] true)).get hh.nxt = some (.cells [.bool s.tok, .int .i64 (k : Nat)] true) := get_put_self
    have gh2 := (e2.get h.nxt (by omega)).trans gh
    simp (disch := omega) only [go_sem, seval, hlt, hg1, hr1, ht1, Int.toNat_natCast]
    have u2 : Upd (· = h.nxt + 1) h1 ((hh.add (.cells [.bool false, .int .i64 0] true)).put hh.nxt (.cells [.bool s.tok, .int .i64 (k : Nat)] true)) := u.trans (e2.upd _)
    have B2 := B.ext e2
    have n2 : ((hh.add (.cells [.bool false, .int .i64 0] true)).put hh.nxt (.cells [.bool s.tok, .int .i64 (k : Nat)] true)).nxt = hh.nxt + 1 := by simp
    generalize ((hh.add (.cells [.bool false, .int .i64 0] true)).put hh.nxt (.cells [.bool s.tok, .int .i64 (k : Nat)] true)) = h2 at *
    cases htk : s.tok with
    | true =>
      rw [htk] at g2
      rw [htk, if_pos rfl] at hbg
      have q1 : ¬ (k : Int) ≥ (tn : Int) := by have := s1 htk; omega
      have q2 : (k : Int) < (tn : Int) := by omega
      have gB := B2.2.2
      have hroom : k * 1 + 1 ≤ (zs.map AV.bool).length := by simp; omega
      simp (disch := omega) only [go_sem, seval, g2, gh2, q0, q1, q2, gB, hroom, Int.toNat_natCast]
      have B3 := B2.set k true
      rw [Nat.mul_one]
      have u3 : Upd (· = h.nxt + 1) h2 (h2.put (h.nxt + 1) (.cells ((zs.map AV.bool).set k (.bool true)) true)) := Upd.put _ rfl fun cs e => by rw [gB] at e; simp at e
      obtain ⟨h9, l9, n9, L9, u9⟩ := B3.frz
      refine hQ _ _ h9 l9 ⟨((((e1.upd (h.nxt ≤ ·)).trans' u2 fun b e _ => by omega).trans' u3 fun b e _ => by omega).trans' u9 fun b e _ => by omega).ext fun b hb => by omega, _, by rw [hbg], by rw [hbg]; exact L9⟩
    | false =>
      rw [htk] at g2
      rw [htk, if_neg (by simp)] at hbg
      have q1 : ¬ (k : Int) ≥ (nn : Int) := by have := s2 htk; omega
      have hkn : k < rows.length := by omega
      have hkb : k < bl.length := by have := tb.len; omega
      have q2 : (k : Int) < (rows.length : Nat) := by omega
      have tb2 := (tb.ext e1).upd u2 (by omega) fun b hb => by have := hbl b hb; omega
      have gO := tb2.get
      have cO : (bl.map fun b => AV.slc (some (b, 0)) tn (some tn) 1)[k * 1]? = some (.slc (some (bl[k], 0)) tn (some tn) 1) := by rw [Nat.mul_one, List.getElem?_map, List.getElem?_eq_getElem hkb]; rfl
      obtain ⟨hrl, hrB⟩ := tb2.row k bl[k] rows[k] (List.getElem?_eq_getElem hkb) (List.getElem?_eq_getElem hkn)
      have hfi : rows.getD k [] = rows[k] := by rw [List.getD_eq_getElem?_getD, List.getElem?_eq_getElem hkn]; rfl
      rw [hfi] at hbg
      have hkbl := hbl bl[k] (List.getElem_mem hkb)
      generalize rows[k] = ys at *
      generalize bl[k] = yb at *
      simp (disch := omega) only [go_sem, seval, g2, gh2, q0, q1, q2, gO, cO, Int.toNat_natCast]
      refine callV_ofU F_92 rfl ((union_uf B2 (hrB.rdb (by omega)) (by omega) (by omega)).mono ?_)
      rintro v3 h3 ⟨u3, B3, rfl⟩
      simp (disch := omega) only [go_sem, seval]
      have hkun : k < nu.length := by omega
      have q3 : (k : Int) < (un : Int) := by omega
      obtain ⟨b5, o5, cs5, l5, rfl, rfl, hb5, hg5, rfl, hr5, ht5, hc5⟩ := (((su.ext e1).pst u2.pst).pst u3.pst).at_ (i := k) (x := nu[k]) (List.getElem?_eq_getElem hkun) (k := 1) rfl
      have c5 : cs5[o5 + k * 1]? = some (.bool nu[k]) := hc5 0 (by decide)
      have g23 := (u3.get hh.nxt (by omega) (by omega)).trans g2
      have hnd : nu.getD k false = nu[k] := by rw [List.getD_eq_getElem?_getD, List.getElem?_eq_getElem hkun]; rfl
      rw [hnd] at hbg
      have hol := orT_len zs ys ys.length
      cases hnk : nu[k] with
      | true =>
        rw [hnk] at c5
        rw [hnk, if_pos rfl] at hbg
        simp (disch := omega) only [go_sem, seval, g23, q3, hg5, c5, Int.toNat_natCast]
        exact AgainK.mk (rs.length - (i + 1)) (by simp only; omega) ⟨i + 1, _, by omega, rfl, u2.trans u3, B3, by omega, hbg, rfl, by simp [Has]⟩
      | false =>
        rw [hnk] at c5
        rw [hnk, if_neg (by simp)] at hbg
        simp (disch := omega) only [go_sem, seval, g23, q3, hg5, c5, Int.toNat_natCast]
        obtain ⟨h9, l9, n9, L9, u9⟩ := B3.frz
        refine hQ _ _ h9 l9 ⟨((((e1.upd (h.nxt ≤ ·)).trans' u2 fun b e _ => by omega).trans' u3 fun b e _ => by omega).trans' u9 fun b e _ => by omega).ext fun b hb => by omega, _, by rw [hbg], by rw [hbg]; exact L9⟩
  · simp (disch := omega) only [go_sem, seval, hlt]
    have hie : i = rs.length := by omega
    subst hie
    rw [List.drop_length, begF] at hbg
    obtain ⟨h9, l9, n9, L9, u9⟩ := B.frz
    refine hQ _ _ h9 l9 ⟨(((e1.upd (h.nxt ≤ ·)).trans' u fun b e _ => by omega).trans' u9 fun b e _ => by omega).ext fun b hb => by omega, _, by rw [hbg], by rw [hbg]; exact L9⟩

end Go.Proofs.Ytaockkmmjinhpaa
