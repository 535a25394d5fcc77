/-
  Layer undo: begun tells true.
-/
import Derived.Test.YtibehogiobencaaUndo
namespace Go.Proofs.Ytibehogiobencaa
open Go Go.Am
set_option maxRecDepth 100000
set_option maxHeartbeats 4000000
set_option linter.unusedSimpArgs false
set_option linter.unusedVariables false

theorem form1 {m : Nat} {h : Heap} {v : AV} {xs : List Int} (s : Fresh m h v 1 (I1 xs)) : ∃ a c z, v = .slc a xs.length c z := by
  obtain ⟨a, c, z, e⟩ := s.slc.form
  rw [I1_len] at e; exact ⟨a, c, z, e⟩

theorem form2 {m : Nat} {h : Heap} {v : AV} {xs : List Int} (s : Fresh m h v 1 (I1 xs)) : ∃ a n c z, v = .slc a n c z ∧ n = xs.length := by
  obtain ⟨a, c, z, e⟩ := form1 s
  exact ⟨a, _, c, z, e, rfl⟩
theorem fresh_lt {m : Nat} {h : Heap} {v : AV} {sz : Nat} {ls : List (List AV)} (s : Fresh m h v sz ls) {b : Nat} (e : v.blk = some b) : b < h.nxt := by
  rcases s with ⟨_, a, z, rfl, _⟩ | ⟨b', o, cs, rfl, hm, hb⟩
  · cases a <;> simp [AV.blk] at e
  · simp [AV.blk] at e; subst e; exact hb.lt
theorem fresh_app {m : Nat} {H h4 : Heap} {w pv : AV} {sz : Nat} {ls : List (List AV)} (s : Fresh m H w sz ls) (hn : H.nxt ≤ h4.nxt) (hk : ∀ b, b < H.nxt → pv.blk ≠ some b → h4.get b = H.get b) (hd : ∀ b, w.blk = some b → pv.blk ≠ some b) : Fresh m h4 w sz ls :=
  s.keep hn fun b _ hb hw => hk b hb (hd b hw)
theorem ne_of_lt {m : Nat} {h : Heap} {v : AV} {sz : Nat} {ls : List (List AV)} (s : Fresh m h v sz ls) {b : Nat} (hb : b < m) : v.blk ≠ some b := fun e => by have := s.blk e; omega

theorem begun_wf {h : Heap} : WF T F 14 [] h fun v h' => Ext h h' ∧ v = .bool true := by
  refine WF.gen fun Q hQ => WF.of (F_14) (c := _) rfl ?_
  unfold Try.f14
  simp only [List.length, Nat.reduceSub, Nat.reduceAdd, List.replicate, List.cons_append, List.nil_append]
  simp (disch := first | done | ((try simp only [Heap.add_nxt, Heap.put_nxt, Heap.del_nxt, bump_nxt]) <;> omega) | fail) only [go_sem, Nat.reduceAdd, Nat.reduceSub, Nat.reduceMul, Nat.reduceMod, Nat.reduceGT, Nat.reduceLeDiff, Nat.reduceEqDiff, Nat.reduceBEq, Nat.reduceBNe, Nat.reduceShiftRight, Nat.reduceAnd, Nat.reduceOr, Nat.reduceBneDiff, bne_self_eq_false, Nat.reduceLT, ↓reduceIte, reduceCtorEq, Int.reduceToNat, Int.reduceNeg, Int.reduceLT, Int.reduceLE, decide_true, decide_false, Int.cast_ofNat_Int, Int.reduceEq, Int.reduceNe, Int.reduceGT, Int.reduceGE, Int.reduceAdd, Int.reduceSub, Int.reduceMul, Bool.and_true, Bool.true_and, Bool.and_false, Bool.false_and, Bool.not_true, Bool.not_false]
  refine callV_of F_15 rfl ((Do_wf (ps := []) (ns := []) Hi.nil (by simp)).mono ?_)
  rintro v1 h1 ⟨e1, hi1⟩
  simp at hi1
  simp (disch := first | done | ((try simp only [Heap.add_nxt, Heap.put_nxt, Heap.del_nxt, bump_nxt]) <;> omega) | fail) only [go_sem, Nat.reduceAdd, Nat.reduceSub, Nat.reduceMul, Nat.reduceMod, Nat.reduceGT, Nat.reduceLeDiff, Nat.reduceEqDiff, Nat.reduceBEq, Nat.reduceBNe, Nat.reduceShiftRight, Nat.reduceAnd, Nat.reduceOr, Nat.reduceBneDiff, bne_self_eq_false, Nat.reduceLT, ↓reduceIte, reduceCtorEq, Int.reduceToNat, Int.reduceNeg, Int.reduceLT, Int.reduceLE, decide_true, decide_false, Int.cast_ofNat_Int, Int.reduceEq, Int.reduceNe, Int.reduceGT, Int.reduceGE, Int.reduceAdd, Int.reduceSub, Int.reduceMul, Bool.and_true, Bool.true_and, Bool.and_false, Bool.false_and, Bool.not_true, Bool.not_false]
  refine callV_of F_16 rfl ((Undo_wf (hi1.le (Nat.zero_le _)) (by simp) (by simp)).mono ?_)
  rintro v2 h2 ⟨e2, hc⟩
  rcases hc with ⟨h0, _⟩ | ⟨was, x, hw, rfl, hi2⟩
  · simp at h0
  simp at hw hi2
  subst hw
  obtain ⟨p, q, rfl, sp, sq⟩ := hi2
  obtain ⟨pa, pc, pz, rfl⟩ := form1 sp
  obtain ⟨qa, qc, qz, rfl⟩ := form1 sq
  simp (disch := first | done | ((try simp only [Heap.add_nxt, Heap.put_nxt, Heap.del_nxt, bump_nxt]) <;> omega) | fail) only [go_sem, Nat.reduceAdd, Nat.reduceSub, Nat.reduceMul, Nat.reduceMod, Nat.reduceGT, Nat.reduceLeDiff, Nat.reduceEqDiff, Nat.reduceBEq, Nat.reduceBNe, Nat.reduceShiftRight, Nat.reduceAnd, Nat.reduceOr, Nat.reduceBneDiff, bne_self_eq_false, Nat.reduceLT, ↓reduceIte, reduceCtorEq, Int.reduceToNat, Int.reduceNeg, Int.reduceLT, Int.reduceLE, decide_true, decide_false, Int.cast_ofNat_Int, Int.reduceEq, Int.reduceNe, Int.reduceGT, Int.reduceGE, Int.reduceAdd, Int.reduceSub, Int.reduceMul, Bool.and_true, Bool.true_and, Bool.and_false, Bool.false_and, Bool.not_true, Bool.not_false]
  have x2 : Ext h2 ((h2.add (Blk.cells [AV.slc none 0 (some 0) 0, AV.slc none 0 (some 0) 0] true)).put h2.nxt (Blk.cells [AV.slc pa 0 pc pz, AV.slc qa 1 qc qz] true)) := (Ext.add _ _).put (by simp)
  refine callV_of F_17 rfl ((Redo_wf (ps := []) (ns := [5]) ⟨_, _, rfl, (sp.ext x2).le (Nat.zero_le _), (sq.ext x2).le (Nat.zero_le _)⟩ (by simp) (by simp)).mono ?_)
  rintro v3 h3 ⟨e3, hc⟩
  rcases hc with ⟨h0, _⟩ | ⟨was, x, hw, rfl, hi3⟩
  · simp at h0
  simp at hw hi3
  subst hw
  obtain ⟨p3, q3, rfl, sp3, sq3⟩ := hi3
  obtain ⟨p3a, p3c, p3z, rfl⟩ := form1 sp3
  obtain ⟨q3a, q3c, q3z, rfl⟩ := form1 sq3
  simp (disch := first | done | ((try simp only [Heap.add_nxt, Heap.put_nxt, Heap.del_nxt, bump_nxt]) <;> omega) | fail) only [go_sem, Nat.reduceAdd, Nat.reduceSub, Nat.reduceMul, Nat.reduceMod, Nat.reduceGT, Nat.reduceLeDiff, Nat.reduceEqDiff, Nat.reduceBEq, Nat.reduceBNe, Nat.reduceShiftRight, Nat.reduceAnd, Nat.reduceOr, Nat.reduceBneDiff, bne_self_eq_false, Nat.reduceLT, ↓reduceIte, reduceCtorEq, Int.reduceToNat, Int.reduceNeg, Int.reduceLT, Int.reduceLE, decide_true, decide_false, Int.cast_ofNat_Int, Int.reduceEq, Int.reduceNe, Int.reduceGT, Int.reduceGE, Int.reduceAdd, Int.reduceSub, Int.reduceMul, Bool.and_true, Bool.true_and, Bool.and_false, Bool.false_and, Bool.not_true, Bool.not_false]
  refine callV_of F_16 rfl ((Undo_wf (ps := []) (ns := []) Hi.nil (by simp) (by simp)).mono ?_)
  rintro v4 h4 ⟨e4, hc⟩
  rcases hc with ⟨_, x, rfl, hi4⟩ | ⟨was, x, hw, rfl, hi4⟩
  · obtain ⟨p4, q4, rfl, sp4, sq4⟩ := hi4
    obtain ⟨p4a, p4c, p4z, rfl⟩ := form1 sp4
    obtain ⟨q4a, q4c, q4z, rfl⟩ := form1 sq4
    have n3 := e3.nxt
    have n4 := e4.nxt
    simp at n3 n4
    have g : h4.get h2.nxt = some (Blk.cells [AV.slc pa 0 pc pz, AV.slc qa 1 qc qz] true) := by
      rw [e4.get _ (by simp; omega), Heap.get_put, if_neg (by omega), Heap.get_add, if_neg (by omega), e3.get _ (by simp), Heap.get_put, if_pos rfl]
    simp (disch := first | done | ((try simp only [Heap.add_nxt, Heap.put_nxt, Heap.del_nxt, bump_nxt]) <;> omega) | fail) only [go_sem, Nat.reduceAdd, Nat.reduceSub, Nat.reduceMul, Nat.reduceMod, Nat.reduceGT, Nat.reduceLeDiff, Nat.reduceEqDiff, Nat.reduceBEq, Nat.reduceBNe, Nat.reduceShiftRight, Nat.reduceAnd, Nat.reduceOr, Nat.reduceBneDiff, bne_self_eq_false, Nat.reduceLT, ↓reduceIte, reduceCtorEq, Int.reduceToNat, Int.reduceNeg, Int.reduceLT, Int.reduceLE, decide_true, decide_false, Int.cast_ofNat_Int, Int.reduceEq, Int.reduceNe, Int.reduceGT, Int.reduceGE, Int.reduceAdd, Int.reduceSub, Int.reduceMul, Bool.and_true, Bool.true_and, Bool.and_false, Bool.false_and, Bool.not_true, Bool.not_false, g]
    refine hQ _ _ ⟨?_, rfl⟩
    exact (((((e1.trans e2).trans x2).trans e3).trans ((Ext.add _ _).put (by simp))).trans e4).trans ((Ext.add _ _).put (by simp))
  · simp at hw
end Go.Proofs.Ytibehogiobencaa
