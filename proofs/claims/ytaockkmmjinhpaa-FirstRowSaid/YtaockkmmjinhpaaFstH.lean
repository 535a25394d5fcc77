/-
  Layer first: Row.
-/
import Derived.Test.YtaockkmmjinhpaaFstG
namespace Go.Proofs.Ytaockkmmjinhpaa
open Go Go.Am
set_option maxRecDepth 100000
set_option maxHeartbeats 4000000
set_option linter.unusedSimpArgs false
set_option linter.unusedVariables false

section
variable {T : TT} {F : Nat → Option Func} {P : Nat → Prop} {all l : List Oper} {bf : List Nat} {base i msk : Nat} {s : List AV} {h : Heap} {nb : List (Nat × Blk)} {Q : List AV → Heap → Prop} {d : Option Nat} {ty : TypeId} {pos : String} {after : Array Edge}
@[go_sem ↓] theorem UE_part {x : Operand} {j : Nat} : UE T F P all bf base (⟨d, .extract x j, ty, pos, after, none⟩ :: l) i s h nb msk Q = @OBk (opA T (evalO s) (.extract x j) h) ⟨fun v _ => @SetK (putA s d v) h ⟨fun s h => UE T F P all bf base l (i + 1) s h nb msk Q⟩⟩ := UE_pure rfl rfl
end
theorem nulL_len (n : Nat) (ps : List GProd) : (nulL n ps).length = n := by rw [nulL, fixN_len, List.length_replicate]
theorem firL_rows {g : Gm} (M : MayG g) : Rows g.toks.length g.nts.length (firL g.toks.length g.nts.length g.prods) :=
  fixF_ok (fun p hp => by have := (M.pr p hp).1; omega) _ (rows_rep _ _)
/-- What symbols may begin with, by a grammar. -/
def rowL (g : Gm) (rs : List GSym) : List Bool × Bool := begL g.toks.length (nulL g.nts.length g.prods) (firL g.toks.length g.nts.length g.prods) rs
theorem rowL_len (g : Gm) (rs : List GSym) : (rowL g rs).1.length = g.toks.length := begL_len _ _ _ _

theorem Row_uf {h : Heap} {tv nv pv rv : AV} {g : Gm} {rs : List GSym} (lt : Lst h tv g.toks) (sn : Lst h nv g.nts) (sp : Lst h pv g.prods) (sr : Lst h rv rs) (M : MayG g) (hs : ∀ s ∈ rs, SymOk g.toks.length g.nts.length s) (hr : rs.length ≤ 100) : UF T F 41 [.agg [tv, nv, pv], rv] h fun v' h' => Ext h h' ∧ ∃ w, v' = .tup [w, .bool (rowL g rs).2] ∧ Lst h' w (rowL g rs).1 := by
  obtain ⟨ta, tn, tc, tz, rfl, htn⟩ := lt.form
  obtain ⟨na, nn, nc, nz, rfl, hnn⟩ := sn.form
  obtain ⟨pa, pn, pc, pz, rfl, hpn⟩ := sp.form
  obtain ⟨ra, rn, rc, rz, rfl, hrn⟩ := sr.form
  refine UF.gen fun Q hQ => UF.of (F_41) (c := _) rfl ?_
  unfold Try.f41
  simp only [List.length, Nat.reduceSub, Nat.reduceAdd, List.replicate, List.cons_append, List.nil_append]
  simp (disch := first | ((try simp only [heapN]) <;> omega) | fail) only [go_sem, seval]
  have e1 : Ext h (h.add (.cells [.slc ta tn tc tz, .slc na nn nc nz, .slc pa pn pc pz] true)) := Ext.add _ _
  have g1 : (h.add (.cells [.slc ta tn tc tz, .slc na nn nc nz, .slc pa pn pc pz] true)).get h.nxt = some (.cells [.slc ta tn tc tz, .slc na nn nc nz, .slc pa pn pc pz] true) := get_add_self
  have n1 : (h.add (.cells [.slc ta tn tc tz, .slc na nn nc nz, .slc pa pn pc pz] true)).nxt = h.nxt + 1 := by simp
  generalize (h.add (.cells [.slc ta tn tc tz, .slc na nn nc nz, .slc pa pn pc pz] true)) = h1 at *
  have hnl := M.nl
  have htl := M.tl
  refine callV_ofU F_28 rfl ((May_uf (lt.ext e1) (sn.ext e1) (sp.ext e1) M).mono ?_)
  rintro v2 h2 ⟨e2, rfl⟩
  simp (disch := first | ((try simp only [heapN]) <;> omega) | fail) only [go_sem, seval]
  have g2 := (e2.get _ (by omega)).trans g1
  have hn2 := e2.nxt
  refine DrawU_of' (fun b => b = h.nxt) [0, 0, 2, 0, 14, 0, 63, 127, 127, 511, 1023] (by rfl) (by rfl) (fun b hb => by subst hb; omega) ?_
  simp (disch := first | ((try simp only [heapN]) <;> omega) | fail) only [go_sem, seval]
  have e12 := e1.trans e2
  refine LoadK_ofU rfl rfl ?_
  simp (disch := first | ((try simp only [heapN]) <;> omega) | fail) only [go_sem, seval, g2]
  refine LoadK_ofU rfl rfl ?_
  simp (disch := first | ((try simp only [heapN]) <;> omega) | fail) only [go_sem, seval, g2]
  refine callV_ofU F_37 rfl ((Nullable_uf ((lt.ext e12).ext (Ext.bump _ _)) ((sn.ext e12).ext (Ext.bump _ _)) ((sp.ext e12).ext (Ext.bump _ _)) M).mono ?_)
  rintro v3 h3 ⟨e3, L3⟩
  simp (disch := first | ((try simp only [heapN]) <;> omega) | fail) only [go_sem, seval]
  have hn3 := e3.nxt
  simp only [bump_nxt] at hn3
  have g3 := (e3.get h.nxt (by simp; omega)).trans ((bump_get ..).trans g2)
  refine ⟨fun b hb => by subst hb; exact g3.trans g2.symm, ?_⟩
  refine LoadK_ofU rfl rfl ?_
  simp (disch := first | ((try simp only [heapN]) <;> omega) | fail) only [go_sem, seval, g3]
  have e13 := e12.trans ((Ext.bump _ _).trans e3)
  refine callV_ofU F_39 rfl ((First_uf (lt.ext e13) (sn.ext e13) (sp.ext e13) M).mono ?_)
  rintro v4 h4 ⟨e4, ob, bl, rfl, tb4⟩
  simp (disch := first | ((try simp only [heapN]) <;> omega) | fail) only [go_sem, seval]
  have g4 := (e4.get _ (by omega)).trans g3
  have hn4 := e4.nxt
  refine ⟨fun b hb => by subst hb; exact g4.trans g3.symm, ?_⟩
  have e14 := e13.trans e4
  have hR := firL_rows M
  rw [← hR.len]
  refine callV_ofU F_91 rfl ((begins_uf (sn.ext e14) (L3.ext e4) (by rw [htn]; exact tb4) (sr.ext e14) (nulL_len _ _) hR.len (by rw [htn]; exact hs) hr (by omega) (by omega)).mono ?_)
  rintro v5 h5 ⟨e5, w, rfl, L5⟩
  have g5 := (e5.get _ (by omega)).trans g4
  refine ⟨fun b hb => by subst hb; exact g5.trans g4.symm, ?_⟩
  rw [htn] at L5
  rw [htn]
  simp (disch := first | ((try simp only [heapN]) <;> omega) | fail) only [go_sem, seval]
  exact hQ _ _ ⟨e14.trans e5, w, rfl, L5⟩

theorem getD_set (l : List Bool) (k t : Nat) (y : Bool) : (l.set k y).getD t false = if t = k ∧ k < l.length then y else l.getD t false := by
  rw [List.getD_eq_getElem?_getD, List.getD_eq_getElem?_getD, List.getElem?_set]
  by_cases h : k = t
  · subst h
    rw [if_pos rfl]
    by_cases h2 : k < l.length
    · rw [if_pos h2, if_pos ⟨rfl, h2⟩]; rfl
    · rw [if_neg h2, if_neg (by omega), List.getElem?_eq_none (by omega)]
  · rw [if_neg h, if_neg (by omega)]
theorem getD_or {l : List Bool} {t : Nat} (h : l.length ≤ t) : l.getD t false = false := by
  rw [List.getD_eq_getElem?_getD, List.getElem?_eq_none h]; rfl
theorem orT_getD (xs ys : List Bool) (t : Nat) (ht : t < xs.length) : ∀ i, (orT xs ys i).getD t false = (xs.getD t false || (decide (t < i) && ys.getD t false))
  | 0 => by simp [orT]
  | i + 1 => by
    rw [orT]
    have ih := orT_getD xs ys t ht i
    have hl := orT_len xs ys i
    split
    · rename_i hy
      rw [getD_set, ih]
      by_cases hti : t = i
      · subst hti
        rw [if_pos ⟨rfl, by omega⟩, hy]; simp
      · rw [if_neg (by omega)]
        by_cases h2 : t < i
        · simp [h2, Nat.lt_succ_of_lt h2]
        · simp [h2, show ¬ t < i + 1 by omega]
    · rename_i hy
      rw [ih]
      by_cases hti : t = i
      · subst hti
        have : ys.getD t false = false := by simpa using hy
        rw [this]; simp
      · by_cases h2 : t < i
        · simp [h2, Nat.lt_succ_of_lt h2]
        · simp [h2, show ¬ t < i + 1 by omega]
theorem orT_all {xs ys : List Bool} {t : Nat} (ht : t < xs.length) : (orT xs ys ys.length).getD t false = (xs.getD t false || ys.getD t false) := by
  rw [orT_getD xs ys t ht]
  by_cases h : t < ys.length
  · simp [h]
  · rw [getD_or (l := ys) (by omega)]; simp
theorem begF_app (nu : List Bool) (fi : List (List Bool)) (y : List GSym) : ∀ (x : List GSym) (o : List Bool), begF nu fi (x ++ y) o = if (begF nu fi x o).2 = true then begF nu fi y (begF nu fi x o).1 else begF nu fi x o
  | [], o => by simp [begF]
  | s :: x, o => by
    rw [List.cons_append, begF, begF]
    by_cases h1 : s.tok = true
    · rw [if_pos h1, if_pos h1]; simp
    · rw [if_neg h1, if_neg h1]
      by_cases h2 : nu.getD s.at_.toNat false = true
      · rw [if_pos h2, if_pos h2, begF_app nu fi y x]
      · rw [if_neg h2, if_neg h2]; simp
theorem begF_two (nu : List Bool) (fi : List (List Bool)) : ∀ (y : List GSym) (o o' : List Bool), (begF nu fi y o).2 = (begF nu fi y o').2
  | [], o, o' => rfl
  | s :: x, o, o' => by
    rw [begF, begF]
    by_cases h1 : s.tok = true
    · rw [if_pos h1, if_pos h1]
    · rw [if_neg h1, if_neg h1]
      by_cases h2 : nu.getD s.at_.toNat false = true
      · rw [if_pos h2, if_pos h2]; exact begF_two nu fi x _ _
      · rw [if_neg h2, if_neg h2]
theorem begF_one (nu : List Bool) (fi : List (List Bool)) {n t : Nat} (ht : t < n) : ∀ (y : List GSym) (o : List Bool), o.length = n → (begF nu fi y o).1.getD t false = (o.getD t false || (begF nu fi y (List.replicate n false)).1.getD t false)
  | [], o, _ => by
    have : (List.replicate n false).getD t false = false := by
      rw [List.getD_eq_getElem?_getD, List.getElem?_replicate, if_pos ht]; rfl
    simp only [begF]
    rw [this, Bool.or_false]
  | s :: x, o, hl => by
    have hz : (List.replicate n false).getD t false = false := by
      rw [List.getD_eq_getElem?_getD, List.getElem?_replicate, if_pos ht]; rfl
    rw [begF, begF]
    by_cases h1 : s.tok = true
    · rw [if_pos h1, if_pos h1]
      simp only
      rw [getD_set, getD_set, hl, List.length_replicate, hz]
      split
      · rename_i h2
        simp
      · simp
    · rw [if_neg h1, if_neg h1]
      by_cases h2 : nu.getD s.at_.toNat false = true
      · rw [if_pos h2, if_pos h2, begF_one nu fi ht x _ (by rw [orT_len, hl]), begF_one nu fi ht x (orT _ _ _) (by rw [orT_len, List.length_replicate]), orT_all (by omega), orT_all (by rw [List.length_replicate]; exact ht), hz, Bool.false_or, Bool.or_assoc]
      · rw [if_neg h2, if_neg h2]
        simp only
        rw [orT_all (by omega), orT_all (by rw [List.length_replicate]; exact ht), hz, Bool.false_or]
/-- Two rows, one behind the other. -/
theorem rowL_app (g : Gm) (x y : List GSym) : (rowL g (x ++ y)).2 = ((rowL g x).2 && (rowL g y).2) ∧ ∀ t, t < g.toks.length → (rowL g (x ++ y)).1.getD t false = ((rowL g x).1.getD t false || ((rowL g x).2 && (rowL g y).1.getD t false)) := by
  unfold rowL begL
  rw [begF_app]
  cases h : (begF (nulL g.nts.length g.prods) (firL g.toks.length g.nts.length g.prods) x (List.replicate g.toks.length false)).2 with
  | true =>
    rw [if_pos rfl]
    refine ⟨by rw [Bool.true_and]; exact begF_two _ _ _ _ _, fun t ht => ?_⟩
    rw [begF_one _ _ ht _ _ (begF_len List.length_replicate), Bool.true_and]
  | false =>
    rw [if_neg (by simp), h]
    exact ⟨rfl, fun t ht => by simp⟩

end Go.Proofs.Ytaockkmmjinhpaa
