/-
  slices.Concat of two rows of texts.
-/
import Derived.Test.YtaockkmmjinhpaaGMay
import Derived.KernelRfl
namespace Go.Proofs.Ytaockkmmjinhpaa
open Go Go.Am
set_option maxRecDepth 100000
set_option maxHeartbeats 4000000
set_option linter.unusedSimpArgs false
set_option linter.unusedVariables false

theorem Grow_uf {h : Heap} {n : Nat} (hn : n ≤ 1000) : UF T F 103 [.slc none 0 (some 0) 0, .int .i64 (n : Nat)] h fun v' h' => Ext h h' ∧ LFresh (α := Str) h.nxt h' v' [] := by
  refine UF.gen fun Q hQ => UF.of (F_103) (c := _) rfl ?_
  unfold Try.f103
  simp only [List.length, Nat.reduceSub, Nat.reduceAdd, List.replicate, List.cons_append, List.nil_append]
  simp (disch := omega) only [go_sem, seval]
  have q0 : ¬ (n : Int) < 0 := by omega
  by_cases hz : (n : Int) - 0 > 0
  · have hsl : sliceA T 41 (.slc none 0 (some 0) 0) none (some (.int .i64 0)) none = some (.slc none 0 (some 0) 0) := by kernel_rfl
    have hn0 : (n : Int) - 0 = (n : Nat) := by omega
    have hap : appendZ T 41 (.slc none 0 (some 0) 0) (.int .i64 (n : Nat)) h = some (.slc (some (h.nxt, 0)) n none 1, h.add (.cells (zeroRow [.str []] (n * 1)) true)) := by
      have h1 : ¬ (n : Int) = 0 := by omega
      have h2 : 0 < (n : Int) ∧ (n : Int) ≤ 16777216 := ⟨by omega, by omega⟩
      simp only [appendZ, T_41, T_9]
      rw [if_neg (by simp), if_neg h1, if_pos ⟨h2.1, h2.2, by decide, by decide, by decide⟩, Int.toNat_natCast]
    have hs2 : sliceA T 41 (.slc (some (h.nxt, 0)) n none 1) none (some (.int .i64 0)) none = some (.slc (some (h.nxt, 0)) 0 none 1) := by
      simp only [sliceA, T_41, T_9]
      rw [show (AV.int .i64 0) = AV.int .i64 ((0 : Nat) : Int) from rfl, sbounds_hi (by omega) (by omega)]
      simp
    have hz2 : (n : Int) > 0 := by omega
    simp (disch := omega) only [go_sem, seval, q0, hz2, hsl, hn0, hap, hs2]
    exact hQ _ _ ⟨Ext.add _ _, [], .inr ⟨h.nxt, 0, _, rfl, Nat.le_refl _, ⟨by simp, get_add_self, by simp, by simp, by simp⟩⟩, .nil⟩
  · simp (disch := omega) only [go_sem, seval, q0, hz]
    exact hQ _ _ ⟨Ext.refl _, LFresh.nil⟩

def sumL (L : List (List Str)) : Nat := (L.map List.length).sum
theorem sumL_take {L : List (List Str)} {i : Nat} (hi : i < L.length) : sumL (L.take (i + 1)) = sumL (L.take i) + L[i].length := by
  unfold sumL
  rw [List.take_add_one, List.getElem?_eq_getElem hi, Option.toList_some, List.map_append, List.sum_append]; simp
theorem sumL_le : ∀ (L : List (List Str)) (i : Nat), sumL (L.take i) ≤ sumL L
  | [], i => by simp [sumL]
  | x :: L, 0 => by simp [sumL]
  | x :: L, i + 1 => by
    have := sumL_le L i
    simp only [sumL, List.take_succ_cons, List.map_cons, List.sum_cons] at this ⊢
    omega
theorem Concat_uf {h : Heap} {v : AV} {L : List (List Str)} (sl : Lst h v L) (hl : L.length ≤ 100) (hs : sumL L ≤ 1000) : UF T F 68 [v] h fun v' h' => Ext h h' ∧ Lst h' v' L.flatten := by
  obtain ⟨a, n, c, z, rfl, hn⟩ := sl.form
  refine UF.genq fun Q hQ => UF.of (F_68) (c := _) rfl ?_
  unfold Try.f68
  simp only [List.length, Nat.reduceSub, Nat.reduceAdd, List.replicate, List.cons_append, List.nil_append]
  simp (disch := omega) only [go_sem, seval]
  refine LoopU_while (fun m st hh => ∃ (i : Nat), i ≤ L.length ∧ m = L.length - i ∧ Ext h hh ∧ Keep st 36 [(0, .slc a n c z), (3, .int .i64 (sumL (L.take i) : Nat)), (9, .slc a n c z), (10, .int .i64 (n : Nat)), (11, .int .i64 (i : Nat))]) L.length
    ⟨0, by omega, by omega, Ext.refl _, rfl, by simp [Has, sumL]⟩ ?_
  rintro m st hh ⟨i, hi, rfl, eh, hk⟩
  rw [hk.eq]
  obtain ⟨k0, k3, k9, k10, k11, -⟩ := hk.2
  simp only [slotsFrom, Nat.reduceAdd] at k0 k3 k9 k10 k11 ⊢
  simp only [k0, k3, k9, k10, k11]
  have hle := sumL_le L i
  simp (disch := omega) only [go_sem, seval]
  by_cases hlt : (i : Int) < (n : Int)
  · have hil : i < L.length := by omega
    obtain ⟨b1, o1, cs1, l1, rfl, rfl, hb1, hg1, ⟨w, rfl, sw⟩, hr1, ht1, hc1⟩ := (sl.ext eh).at_ (i := i) (x := L[i]) (List.getElem?_eq_getElem hil) (k := 1) rfl
    obtain ⟨wa, wn, wc, wz, rfl, hwn⟩ := sw.form
    have c1 : cs1[o1 + i * 1]? = some (.slc wa wn wc wz) := hc1 0 (by decide)
    have hst := sumL_take hil
    have hle2 := sumL_le L (i + 1)
    have hsum : ((sumL (L.take i) : Nat) : Int) + (wn : Nat) = ((sumL (L.take (i + 1)) : Nat) : Int) := by omega
    have hneg : ¬ ((sumL (L.take (i + 1)) : Nat) : Int) < 0 := by omega
    simp (disch := omega) only [go_sem, seval, hlt, hg1, c1, Int.toNat_natCast, hsum, hneg]
    exact AgainK.mk (L.length - (i + 1)) (by simp only; omega) ⟨i + 1, by omega, rfl, eh, rfl, by simp [Has]⟩
  · have hie : i = L.length := by omega
    subst hie
    simp (disch := omega) only [go_sem, seval, hlt]
    rw [List.take_length]
    refine callV_ofU F_103 rfl ((Grow_uf (n := sumL L) hs).mono ?_)
    rintro v2 h2 ⟨e2, G2⟩
    simp (disch := omega) only [go_sem, seval]
    obtain ⟨ga, gn, gc, gz, rfl, hgn⟩ := G2.form
    clear hk k0 k3 k9 k10 k11
    refine LoopU_while (fun m st hx => ∃ (i : Nat) (ov : AV), i ≤ L.length ∧ m = L.length - i ∧ Ext hh hx ∧ LGrow hh.nxt hx ov (L.take i).flatten ∧ Keep st 36 [(6, ov), (25, .slc a n c z), (26, .int .i64 (n : Nat)), (27, .int .i64 (i : Nat))]) L.length
      ⟨0, _, by omega, by omega, e2, .inl G2, rfl, by simp [Has]⟩ ?_
    rintro m st hx ⟨i, ov, hi2, rfl, ex, O, hk⟩
    obtain ⟨oa, on, oc, oz, rfl, hon⟩ := O.form
    rw [hk.eq]
    obtain ⟨k6, k25, k26, k27, -⟩ := hk.2
    simp only [slotsFrom, Nat.reduceAdd] at k6 k25 k26 k27 ⊢
    simp only [k6, k25, k26, k27]
    simp (disch := omega) only [go_sem, seval]
    have hnh := e2.nxt
    by_cases hlt2 : (i : Int) < (n : Int)
    · have hil : i < L.length := by omega
      obtain ⟨b1, o1, cs1, l1, rfl, rfl, hb1, hg1, ⟨w, rfl, sw⟩, hr1, ht1, hc1⟩ := ((sl.ext eh).ext ex).at_ (i := i) (x := L[i]) (List.getElem?_eq_getElem hil) (k := 1) rfl
      have c1 : cs1[o1 + i * 1]? = some w := hc1 0 (by decide)
      have hst := sumL_take hil
      have hle2 := sumL_le L (i + 1)
      have hfl : ∀ i, (L.take i).flatten.length = sumL (L.take i) := fun i => List.length_flatten
      have hfi := hfl i
      simp (disch := omega) only [go_sem, seval, hlt2, hg1, c1, Int.toNat_natCast]
      have hnx := ex.nxt
      refine gappend (m := hh.nxt) (xs := (L.take i).flatten) (ys := L[i]) T_41 rfl T_9 rfl (by decide) (by decide) O sw.slc (by omega) (by rw [hfi]; exact Nat.le_trans (Nat.mul_le_mul_right _ (show sumL (L.take i) + L[i].length ≤ 1000 by omega)) (by decide)) ?_
      intro v5 h5 O5 u5 b5
      simp (disch := omega) only [go_sem, seval]
      refine AgainK.mk (L.length - (i + 1)) (by simp only; omega) ⟨i + 1, v5, by omega, rfl, ?_, ?_, rfl, by simp [Has]⟩
      · exact ((ex.upd (hh.nxt ≤ ·)).trans' u5 fun b h1 h2 => O.blk h1).ext fun b hb => by omega
      · rw [List.take_add_one, List.getElem?_eq_getElem hil, Option.toList_some, List.flatten_append]
        simpa using O5
    · simp (disch := omega) only [go_sem, seval, hlt2]
      have hie : i = L.length := by omega
      subst hie
      rw [List.take_length] at O
      obtain ⟨h9, l9, n9, O9, u9⟩ := O.frz
      exact hQ _ _ h9 l9 ⟨(((eh.trans ex).upd (h.nxt ≤ ·)).trans' u9 fun b e _ => by have := e.1; have := eh.nxt; omega).ext fun b hb => by omega, O9⟩

end Go.Proofs.Ytaockkmmjinhpaa
