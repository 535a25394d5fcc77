/-
  The law UndoBack: what it comes to.
-/
import Derived.Test.YtibehogiobencaaUndoBegun
namespace Go.Proofs.Ytibehogiobencaa
open Go Go.Am
set_option maxRecDepth 100000
set_option maxHeartbeats 4000000
set_option linter.unusedSimpArgs false
set_option linter.unusedVariables false

theorem fresh_put' {m : Nat} {h : Heap} {v : AV} {sz : Nat} {ls : List (List AV)} (s : Fresh m h v sz ls) {b : Nat} (hb : v.blk ≠ some b) (x : Blk) : Fresh m (h.put b x) v sz ls :=
  s.keep (Nat.le_refl _) fun c _ _ hc => by rw [Heap.get_put, if_neg (fun e => by subst e; exact hb hc)]

/-- A box with a history. -/
structure HBox (k : Nat) (p q : AV) (P N : List Int) (h2 : Heap) : Prop where
  lt : k < h2.nxt
  box : h2.get k = some (.cells [p, q] true)
  fp : Fresh 0 h2 p 1 (I1 P)
  fq : Fresh 0 h2 q 1 (I1 N)
theorem HBox.ext {k : Nat} {p q : AV} {P N : List Int} {h2 h3 : Heap} (B : HBox k p q P N h2) (e : Ext h2 h3) : HBox k p q P N h3 :=
  ⟨Nat.lt_of_lt_of_le B.lt e.nxt, (e.get _ B.lt).trans B.box, B.fp.ext e, B.fq.ext e⟩
theorem HBox.put {k : Nat} {p q : AV} {P N : List Int} {h2 : Heap} (B : HBox k p q P N h2) {b : Nat} (x : Blk) (h1 : b ≠ k) (h3 : p.blk ≠ some b) (h4 : q.blk ≠ some b) : HBox k p q P N (h2.put b x) :=
  ⟨B.lt, by rw [Heap.get_put, if_neg h1]; exact B.box, fresh_put' B.fp h3 _, fresh_put' B.fq h4 _⟩

theorem UndoBack_wf {h : Heap} {v : AV} {xs : List Int} {n more : Int} (hv : Slc h v 1 (I1 xs)) (hn0 : 0 ≤ n) (hn1 : n < 256) : WF T F 5 [v, .int .u8 n, .int .i64 more] h fun v' h' => v' = .bool true := by
  obtain ⟨a, c, z, rfl⟩ := hv.form
  rw [I1_len] at hv
  refine WF.gen fun Q hQ => WF.of (F_5) (c := _) rfl ?_
  unfold Try.f5
  simp only [List.length, Nat.reduceSub, Nat.reduceAdd, List.replicate, List.cons_append, List.nil_append]
  simp (disch := first | done | ((try simp only [Heap.add_nxt, Heap.put_nxt, Heap.del_nxt, bump_nxt]) <;> omega) | fail) only [go_sem, Nat.reduceAdd, Nat.reduceSub, Nat.reduceMul, Nat.reduceMod, Nat.reduceGT, Nat.reduceLeDiff, Nat.reduceEqDiff, Nat.reduceBEq, Nat.reduceBNe, Nat.reduceShiftRight, Nat.reduceAnd, Nat.reduceOr, Nat.reduceBneDiff, bne_self_eq_false, Nat.reduceLT, ↓reduceIte, reduceCtorEq, Int.reduceToNat, Int.reduceNeg, Int.reduceLT, Int.reduceLE, decide_true, decide_false, Int.cast_ofNat_Int, Int.reduceEq, Int.reduceNe, Int.reduceGT, Int.reduceGE, Int.reduceAdd, Int.reduceSub, Int.reduceMul, Bool.and_true, Bool.true_and, Bool.and_false, Bool.false_and, Bool.not_true, Bool.not_false]
  refine callV_of F_14 rfl (begun_wf.mono ?_)
  rintro v1 h1 ⟨e1, rfl⟩
  simp (disch := first | done | ((try simp only [Heap.add_nxt, Heap.put_nxt, Heap.del_nxt, bump_nxt]) <;> omega) | fail) only [go_sem, Nat.reduceAdd, Nat.reduceSub, Nat.reduceMul, Nat.reduceMod, Nat.reduceGT, Nat.reduceLeDiff, Nat.reduceEqDiff, Nat.reduceBEq, Nat.reduceBNe, Nat.reduceShiftRight, Nat.reduceAnd, Nat.reduceOr, Nat.reduceBneDiff, bne_self_eq_false, Nat.reduceLT, ↓reduceIte, reduceCtorEq, Int.reduceToNat, Int.reduceNeg, Int.reduceLT, Int.reduceLE, decide_true, decide_false, Int.cast_ofNat_Int, Int.reduceEq, Int.reduceNe, Int.reduceGT, Int.reduceGE, Int.reduceAdd, Int.reduceSub, Int.reduceMul, Bool.and_true, Bool.true_and, Bool.and_false, Bool.false_and, Bool.not_true, Bool.not_false]
  refine condK_dec (fun hlen => ?_) (fun hlen => ?_)
  · simp (disch := first | done | ((try simp only [Heap.add_nxt, Heap.put_nxt, Heap.del_nxt, bump_nxt]) <;> omega) | fail) only [go_sem, Nat.reduceAdd, Nat.reduceSub, Nat.reduceMul, Nat.reduceMod, Nat.reduceGT, Nat.reduceLeDiff, Nat.reduceEqDiff, Nat.reduceBEq, Nat.reduceBNe, Nat.reduceShiftRight, Nat.reduceAnd, Nat.reduceOr, Nat.reduceBneDiff, bne_self_eq_false, Nat.reduceLT, ↓reduceIte, reduceCtorEq, Int.reduceToNat, Int.reduceNeg, Int.reduceLT, Int.reduceLE, decide_true, decide_false, Int.cast_ofNat_Int, Int.reduceEq, Int.reduceNe, Int.reduceGT, Int.reduceGE, Int.reduceAdd, Int.reduceSub, Int.reduceMul, Bool.and_true, Bool.true_and, Bool.and_false, Bool.false_and, Bool.not_true, Bool.not_false]
    exact hQ _ _ rfl
  · simp (disch := first | done | ((try simp only [Heap.add_nxt, Heap.put_nxt, Heap.del_nxt, bump_nxt]) <;> omega) | fail) only [go_sem, Nat.reduceAdd, Nat.reduceSub, Nat.reduceMul, Nat.reduceMod, Nat.reduceGT, Nat.reduceLeDiff, Nat.reduceEqDiff, Nat.reduceBEq, Nat.reduceBNe, Nat.reduceShiftRight, Nat.reduceAnd, Nat.reduceOr, Nat.reduceBneDiff, bne_self_eq_false, Nat.reduceLT, ↓reduceIte, reduceCtorEq, Int.reduceToNat, Int.reduceNeg, Int.reduceLT, Int.reduceLE, decide_true, decide_false, Int.cast_ofNat_Int, Int.reduceEq, Int.reduceNe, Int.reduceGT, Int.reduceGE, Int.reduceAdd, Int.reduceSub, Int.reduceMul, Bool.and_true, Bool.true_and, Bool.and_false, Bool.false_and, Bool.not_true, Bool.not_false]
    have hv1 := hv.ext e1
    refine LoopK_while (fun m s h2 => ∃ (i : Nat) (p q : AV), HBox h1.nxt p q (xs.take i) [] h2 ∧ (∀ b, b < h1.nxt → h2.get b = h1.get b) ∧ i ≤ xs.length ∧ m = xs.length - i ∧
      Keep s 140 [(0, .slc a xs.length c z), (1, .int .u8 n), (2, .int .i64 more), (6, .bool false), (7, .ptr (some (h1.nxt, 0))), (8, .int .i64 i)]) xs.length ?_ ?_
    · refine ⟨0, _, _, ⟨by simp, by rw [Heap.get_put, if_pos rfl], Fresh.nil, Fresh.nil⟩, fun b hb => ?_, by simp, rfl, rfl, by simp [Has]⟩
      rw [Heap.get_put, if_neg (by omega), Heap.get_add, if_neg (by omega)]
    rintro m s h2 ⟨i, p, q, B, old, hi, rfl, hk⟩
    rw [hk.eq]
    obtain ⟨k0, k1, k2, k6, k7, k8, -⟩ := hk.2
    simp only [slotsFrom, Nat.reduceAdd] at k0 k1 k2 k6 k7 k8 ⊢
    simp only [k0, k1, k2, k6, k7, k8]
    simp (disch := first | done | ((try simp only [Heap.add_nxt, Heap.put_nxt, Heap.del_nxt, bump_nxt]) <;> omega) | fail) only [go_sem, Nat.reduceAdd, Nat.reduceSub, Nat.reduceMul, Nat.reduceMod, Nat.reduceGT, Nat.reduceLeDiff, Nat.reduceEqDiff, Nat.reduceBEq, Nat.reduceBNe, Nat.reduceShiftRight, Nat.reduceAnd, Nat.reduceOr, Nat.reduceBneDiff, bne_self_eq_false, Nat.reduceLT, ↓reduceIte, reduceCtorEq, Int.reduceToNat, Int.reduceNeg, Int.reduceLT, Int.reduceLE, decide_true, decide_false, Int.cast_ofNat_Int, Int.reduceEq, Int.reduceNe, Int.reduceGT, Int.reduceGE, Int.reduceAdd, Int.reduceSub, Int.reduceMul, Bool.and_true, Bool.true_and, Bool.and_false, Bool.false_and, Bool.not_true, Bool.not_false]
    refine condK_dec (fun hlt => ?_) (fun hge => ?_)
    · have hlt : i < xs.length := by omega
      obtain ⟨b1, o1, cs1, wr1, rfl, rfl, hb1, hg1, hc1⟩ := hv1.at1 (by simp; omega)
      have g1 : h2.get b1 = _ := (old _ hb1).trans hg1
      have c1 := hc1 i (.int .i64 xs[i]) (by simp [I1, hlt])
      simp (disch := first | done | ((try simp only [Heap.add_nxt, Heap.put_nxt, Heap.del_nxt, bump_nxt]) <;> omega) | fail) only [go_sem, Nat.reduceAdd, Nat.reduceSub, Nat.reduceMul, Nat.reduceMod, Nat.reduceGT, Nat.reduceLeDiff, Nat.reduceEqDiff, Nat.reduceBEq, Nat.reduceBNe, Nat.reduceShiftRight, Nat.reduceAnd, Nat.reduceOr, Nat.reduceBneDiff, bne_self_eq_false, Nat.reduceLT, ↓reduceIte, reduceCtorEq, Int.reduceToNat, Int.reduceNeg, Int.reduceLT, Int.reduceLE, decide_true, decide_false, Int.cast_ofNat_Int, Int.reduceEq, Int.reduceNe, Int.reduceGT, Int.reduceGE, Int.reduceAdd, Int.reduceSub, Int.reduceMul, Bool.and_true, Bool.true_and, Bool.and_false, Bool.false_and, Bool.not_true, Bool.not_false]
      refine DrawK_of' (fun _ => False) [0, 0, 0, 6, 14, 31, 63] (by rfl) (by rfl) (fun b hb => hb.elim) ?_
      simp (disch := first | done | ((try simp only [Heap.add_nxt, Heap.put_nxt, Heap.del_nxt, bump_nxt]) <;> omega) | fail) only [go_sem, Nat.reduceAdd, Nat.reduceSub, Nat.reduceMul, Nat.reduceMod, Nat.reduceGT, Nat.reduceLeDiff, Nat.reduceEqDiff, Nat.reduceBEq, Nat.reduceBNe, Nat.reduceShiftRight, Nat.reduceAnd, Nat.reduceOr, Nat.reduceBneDiff, bne_self_eq_false, Nat.reduceLT, ↓reduceIte, reduceCtorEq, Int.reduceToNat, Int.reduceNeg, Int.reduceLT, Int.reduceLE, decide_true, decide_false, Int.cast_ofNat_Int, Int.reduceEq, Int.reduceNe, Int.reduceGT, Int.reduceGE, Int.reduceAdd, Int.reduceSub, Int.reduceMul, Bool.and_true, Bool.true_and, Bool.and_false, Bool.false_and, Bool.not_true, Bool.not_false]
      refine LoadK_safe (by rfl) ?_
      simp (disch := first | done | ((try simp only [Heap.add_nxt, Heap.put_nxt, Heap.del_nxt, bump_nxt]) <;> omega) | fail) only [go_sem, Nat.reduceAdd, Nat.reduceSub, Nat.reduceMul, Nat.reduceMod, Nat.reduceGT, Nat.reduceLeDiff, Nat.reduceEqDiff, Nat.reduceBEq, Nat.reduceBNe, Nat.reduceShiftRight, Nat.reduceAnd, Nat.reduceOr, Nat.reduceBneDiff, bne_self_eq_false, Nat.reduceLT, ↓reduceIte, reduceCtorEq, Int.reduceToNat, Int.reduceNeg, Int.reduceLT, Int.reduceLE, decide_true, decide_false, Int.cast_ofNat_Int, Int.reduceEq, Int.reduceNe, Int.reduceGT, Int.reduceGE, Int.reduceAdd, Int.reduceSub, Int.reduceMul, Bool.and_true, Bool.true_and, Bool.and_false, Bool.false_and, Bool.not_true, Bool.not_false, B.box]
      refine LoadK_safe (by rfl) ?_
      simp (disch := first | done | ((try simp only [Heap.add_nxt, Heap.put_nxt, Heap.del_nxt, bump_nxt]) <;> omega) | fail) only [go_sem, Nat.reduceAdd, Nat.reduceSub, Nat.reduceMul, Nat.reduceMod, Nat.reduceGT, Nat.reduceLeDiff, Nat.reduceEqDiff, Nat.reduceBEq, Nat.reduceBNe, Nat.reduceShiftRight, Nat.reduceAnd, Nat.reduceOr, Nat.reduceBneDiff, bne_self_eq_false, Nat.reduceLT, ↓reduceIte, reduceCtorEq, Int.reduceToNat, Int.reduceNeg, Int.reduceLT, Int.reduceLE, decide_true, decide_false, Int.cast_ofNat_Int, Int.reduceEq, Int.reduceNe, Int.reduceGT, Int.reduceGE, Int.reduceAdd, Int.reduceSub, Int.reduceMul, Bool.and_true, Bool.true_and, Bool.and_false, Bool.false_and, Bool.not_true, Bool.not_false, g1, c1, Int.toNat_natCast]
      refine callV_of F_15 rfl ((Do_wf (ps := xs.take i) (ns := []) ⟨_, _, rfl, B.fp.ext (Ext.bump _ _), B.fq.ext (Ext.bump _ _)⟩ (by simp; omega)).mono ?_)
      rintro v3 h3 ⟨e3, p3, q3, rfl, fp3, fq3⟩
      obtain ⟨p3a, p3n, p3c, p3z, rfl, hp3⟩ := form2 fp3
      obtain ⟨q3a, q3n, q3c, q3z, rfl, hq3⟩ := form2 fq3
      have hlt2 := B.lt
      have g3 : h3.get h1.nxt = _ := (e3.get _ (by simp; omega)).trans B.box
      have n3 := e3.nxt
      simp only [bump_nxt] at n3
      refine ⟨fun b hb => hb.elim, ?_⟩
      simp (disch := first | done | ((try simp only [Heap.add_nxt, Heap.put_nxt, Heap.del_nxt, bump_nxt]) <;> omega) | fail) only [go_sem, Nat.reduceAdd, Nat.reduceSub, Nat.reduceMul, Nat.reduceMod, Nat.reduceGT, Nat.reduceLeDiff, Nat.reduceEqDiff, Nat.reduceBEq, Nat.reduceBNe, Nat.reduceShiftRight, Nat.reduceAnd, Nat.reduceOr, Nat.reduceBneDiff, bne_self_eq_false, Nat.reduceLT, ↓reduceIte, reduceCtorEq, Int.reduceToNat, Int.reduceNeg, Int.reduceLT, Int.reduceLE, decide_true, decide_false, Int.cast_ofNat_Int, Int.reduceEq, Int.reduceNe, Int.reduceGT, Int.reduceGE, Int.reduceAdd, Int.reduceSub, Int.reduceMul, Bool.and_true, Bool.true_and, Bool.and_false, Bool.false_and, Bool.not_true, Bool.not_false, g3]
      refine ⟨fun b hb => hb.elim, ?_⟩
      have hl : (xs.take i ++ [xs[i]]).drop ((xs.take i ++ [xs[i]]).length - 20) = xs.take (i + 1) := by
        rw [show (xs.take i ++ [xs[i]]).length - 20 = 0 by simp; omega, List.drop_zero, List.take_append_getElem]
      rw [hl] at fp3
      refine AgainK.mk (xs.length - (i + 1)) (by simp; omega) ⟨i + 1, _, _, ⟨by simp; omega, by rw [Heap.get_put, if_pos rfl], (fp3.put (by simp; omega) _).le (by omega), (fq3.put (by simp; omega) _).le (by omega)⟩, fun b hb => ?_, by omega, rfl, rfl, by simp [Has]⟩
      rw [Heap.get_put, if_neg (by omega), e3.get b (by simp; omega)]
      exact old b hb
    · have : i = xs.length := by omega
      subst this
      rw [List.take_length] at B
      obtain ⟨pa, pn, pc, pz, rfl, hpn⟩ := form2 B.fp
      obtain ⟨qa, qn, qc, qz, rfl, hqn⟩ := form2 B.fq
      clear hk k0
      have hlt2 := B.lt
      simp (disch := first | done | ((try simp only [Heap.add_nxt, Heap.put_nxt, Heap.del_nxt, bump_nxt]) <;> omega) | fail) only [go_sem, Nat.reduceAdd, Nat.reduceSub, Nat.reduceMul, Nat.reduceMod, Nat.reduceGT, Nat.reduceLeDiff, Nat.reduceEqDiff, Nat.reduceBEq, Nat.reduceBNe, Nat.reduceShiftRight, Nat.reduceAnd, Nat.reduceOr, Nat.reduceBneDiff, bne_self_eq_false, Nat.reduceLT, ↓reduceIte, reduceCtorEq, Int.reduceToNat, Int.reduceNeg, Int.reduceLT, Int.reduceLE, decide_true, decide_false, Int.cast_ofNat_Int, Int.reduceEq, Int.reduceNe, Int.reduceGT, Int.reduceGE, Int.reduceAdd, Int.reduceSub, Int.reduceMul, Bool.and_true, Bool.true_and, Bool.and_false, Bool.false_and, Bool.not_true, Bool.not_false, B.box]
      obtain ⟨kk, hkk, hkl⟩ : ∃ kk : Nat, n.tmod ((xs.length : Int) + 1) = kk ∧ kk ≤ xs.length := by
        have h1 : 0 ≤ n.tmod ((xs.length : Int) + 1) := Int.tmod_nonneg _ hn0
        have h2 := Int.tmod_lt_of_pos n (b := (xs.length : Int) + 1) (by omega)
        exact ⟨(n.tmod ((xs.length : Int) + 1)).toNat, by omega, by omega⟩
      simp (disch := first | done | ((try simp only [Heap.add_nxt, Heap.put_nxt, Heap.del_nxt, bump_nxt]) <;> omega) | fail) only [go_sem, Nat.reduceAdd, Nat.reduceSub, Nat.reduceMul, Nat.reduceMod, Nat.reduceGT, Nat.reduceLeDiff, Nat.reduceEqDiff, Nat.reduceBEq, Nat.reduceBNe, Nat.reduceShiftRight, Nat.reduceAnd, Nat.reduceOr, Nat.reduceBneDiff, bne_self_eq_false, Nat.reduceLT, ↓reduceIte, reduceCtorEq, Int.reduceToNat, Int.reduceNeg, Int.reduceLT, Int.reduceLE, decide_true, decide_false, Int.cast_ofNat_Int, Int.reduceEq, Int.reduceNe, Int.reduceGT, Int.reduceGE, Int.reduceAdd, Int.reduceSub, Int.reduceMul, Bool.and_true, Bool.true_and, Bool.and_false, Bool.false_and, Bool.not_true, Bool.not_false, hkk]
      have hR : ∀ j, (more :: xs.reverse)[j + 1]? = xs.reverse[j]? := fun j => rfl
      generalize hRe : more :: xs.reverse = R at hR
      have hRl : R.length = xs.length + 1 := by rw [← hRe]; simp
      have hrev : ∀ j, j < xs.length → R[j + 1]? = xs[xs.length - 1 - j]? := fun j hj => by rw [hR, List.getElem?_reverse hj]
      generalize hkx : h2.nxt = kx at hlt2 ⊢
      refine LoopK_while (fun m s h3 => ∃ (i : Nat) (p2 q2 : AV) (now : Int), HBox h1.nxt (.slc pa pn pc pz) (.slc qa qn qc qz) xs [] h3 ∧ HBox kx p2 q2 (xs.take (xs.length - i)) (R.take i) h3 ∧ (∀ b, b < h1.nxt → h3.get b = h1.get b) ∧ R[i]? = some now ∧ i ≤ kk ∧ m = kk - i ∧
        Keep s 140 [(0, .slc a xs.length c z), (2, .int .i64 more), (6, .bool false), (7, .ptr (some (h1.nxt, 0))), (9, .ptr (some (kx, 0))), (10, .int .i64 now), (11, .int .i64 kk), (12, .int .i64 i)]) kk ?_ ?_
      · subst hkx
        have x2 : Ext h2 ((h2.add (Blk.cells [AV.slc none 0 (some 0) 0, AV.slc none 0 (some 0) 0] true)).put h2.nxt (Blk.cells [AV.slc pa pn pc pz, AV.slc qa qn qc qz] true)) := (Ext.add _ _).put (Nat.le_refl _)
        refine ⟨0, _, _, more, B.ext x2, ⟨by simp, by rw [Heap.get_put, if_pos rfl], by simpa using B.fp.ext x2, by simpa using B.fq.ext x2⟩, fun b hb => ?_, by rw [← hRe]; rfl, by omega, rfl, rfl, by simp [Has]⟩
        rw [x2.get b (by omega)]; exact old b hb
      have hpkx : ∀ b, (AV.slc pa pn pc pz).blk = some b → b < kx := fun b hb => by rw [← hkx]; exact fresh_lt B.fp hb
      have hqkx : ∀ b, (AV.slc qa qn qc qz).blk = some b → b < kx := fun b hb => by rw [← hkx]; exact fresh_lt B.fq hb
      clear B old hkx
      rintro m s h3 ⟨i, p2, q2, now, B, X, old, hnow, hi, rfl, hk⟩
      rw [hk.eq]
      obtain ⟨k0, k2, k6, k7, k9, k10, k11, k12, -⟩ := hk.2
      simp only [slotsFrom, Nat.reduceAdd] at k0 k2 k6 k7 k9 k10 k11 k12 ⊢
      simp only [k0, k2, k6, k7, k9, k10, k11, k12]
      simp (disch := first | done | ((try simp only [Heap.add_nxt, Heap.put_nxt, Heap.del_nxt, bump_nxt]) <;> omega) | fail) only [go_sem, Nat.reduceAdd, Nat.reduceSub, Nat.reduceMul, Nat.reduceMod, Nat.reduceGT, Nat.reduceLeDiff, Nat.reduceEqDiff, Nat.reduceBEq, Nat.reduceBNe, Nat.reduceShiftRight, Nat.reduceAnd, Nat.reduceOr, Nat.reduceBneDiff, bne_self_eq_false, Nat.reduceLT, ↓reduceIte, reduceCtorEq, Int.reduceToNat, Int.reduceNeg, Int.reduceLT, Int.reduceLE, decide_true, decide_false, Int.cast_ofNat_Int, Int.reduceEq, Int.reduceNe, Int.reduceGT, Int.reduceGE, Int.reduceAdd, Int.reduceSub, Int.reduceMul, Bool.and_true, Bool.true_and, Bool.and_false, Bool.false_and, Bool.not_true, Bool.not_false]
      refine condK_dec (fun hlt => ?_) (fun hge => ?_)
      · have hlt : i < kk := by omega
        simp (disch := first | done | ((try simp only [Heap.add_nxt, Heap.put_nxt, Heap.del_nxt, bump_nxt]) <;> omega) | fail) only [go_sem, Nat.reduceAdd, Nat.reduceSub, Nat.reduceMul, Nat.reduceMod, Nat.reduceGT, Nat.reduceLeDiff, Nat.reduceEqDiff, Nat.reduceBEq, Nat.reduceBNe, Nat.reduceShiftRight, Nat.reduceAnd, Nat.reduceOr, Nat.reduceBneDiff, bne_self_eq_false, Nat.reduceLT, ↓reduceIte, reduceCtorEq, Int.reduceToNat, Int.reduceNeg, Int.reduceLT, Int.reduceLE, decide_true, decide_false, Int.cast_ofNat_Int, Int.reduceEq, Int.reduceNe, Int.reduceGT, Int.reduceGE, Int.reduceAdd, Int.reduceSub, Int.reduceMul, Bool.and_true, Bool.true_and, Bool.and_false, Bool.false_and, Bool.not_true, Bool.not_false, X.box]
        refine callV_of F_16 rfl ((Undo_wf (ps := xs.take (xs.length - i)) (ns := R.take i) ⟨_, _, rfl, X.fp, X.fq⟩ (by simp; omega) (by simp; omega)).mono ?_)
        rintro v3 h4 ⟨e4, hc⟩
        rcases hc with ⟨h0, _⟩ | ⟨was, x, hw, rfl, p3, q3, rfl, fp3, fq3⟩
        · have := congrArg List.length h0
          simp at this; omega
        obtain ⟨p3a, p3n, p3c, p3z, rfl, hp3⟩ := form2 fp3
        obtain ⟨q3a, q3n, q3c, q3z, rfl, hq3⟩ := form2 fq3
        have hwas : xs[xs.length - 1 - i]? = some was := by
          rw [List.getLast?_eq_getElem?, List.getElem?_take, if_pos (by simp; omega)] at hw
          rw [← hw]; congr 1; simp; omega
        obtain ⟨b1, o1, cs1, wr1, rfl, rfl, hb1, hg1, hc1⟩ := hv1.at1 (by simp; omega)
        have hl1 := B.lt
        have hl2 := X.lt
        have n4 := e4.nxt
        have g4 : h4.get b1 = _ := ((e4.get _ (by omega)).trans (old _ hb1)).trans hg1
        have c1 := hc1 ((xs.length : Int) - 1 - i).toNat (.int .i64 was) (by
          have : ((xs.length : Int) - 1 - i).toNat = xs.length - 1 - i := by omega
          rw [this]; simp only [I1, List.getElem?_map, hwas, Option.map_some])
        have gx : h4.get kx = _ := (e4.get _ hl2).trans X.box
        simp (disch := first | done | ((try simp only [Heap.add_nxt, Heap.put_nxt, Heap.del_nxt, bump_nxt]) <;> omega) | fail) only [go_sem, Nat.reduceAdd, Nat.reduceSub, Nat.reduceMul, Nat.reduceMod, Nat.reduceGT, Nat.reduceLeDiff, Nat.reduceEqDiff, Nat.reduceBEq, Nat.reduceBNe, Nat.reduceShiftRight, Nat.reduceAnd, Nat.reduceOr, Nat.reduceBneDiff, bne_self_eq_false, Nat.reduceLT, ↓reduceIte, reduceCtorEq, Int.reduceToNat, Int.reduceNeg, Int.reduceLT, Int.reduceLE, decide_true, decide_false, Int.cast_ofNat_Int, Int.reduceEq, Int.reduceNe, Int.reduceGT, Int.reduceGE, Int.reduceAdd, Int.reduceSub, Int.reduceMul, Bool.and_true, Bool.true_and, Bool.and_false, Bool.false_and, Bool.not_true, Bool.not_false, g4, c1, gx]
        have x4 : Ext h4 ((h4.add (Blk.cells [AV.slc none 0 (some 0) 0, AV.slc none 0 (some 0) 0] true)).put h4.nxt (Blk.cells [AV.slc p3a p3n p3c p3z, AV.slc q3a q3n q3c q3z] true)) := (Ext.add _ _).put (Nat.le_refl _)
        have hd : (xs.take (xs.length - i)).dropLast = xs.take (xs.length - (i + 1)) := by
          rw [List.dropLast_eq_take, List.take_take]; congr 1; simp; omega
        have ht : R.take i ++ [now] = R.take (i + 1) := by
          rw [List.take_add_one, hnow]; rfl
        rw [hd] at fp3
        rw [ht] at fq3
        refine AgainK.mk (kk - (i + 1)) (by simp; omega) ⟨i + 1, _, _, was, (B.ext (e4.trans x4)).put _ (by omega) (fun e => by have := hpkx _ e; omega) (fun e => by have := hqkx _ e; omega), ⟨by simp; omega, by rw [Heap.get_put, if_pos rfl], ((fp3.ext x4).put hl2 _).le (by omega), ((fq3.ext x4).put hl2 _).le (by omega)⟩, fun b hb => ?_, ?_, by omega, rfl, rfl, by simp [Has]⟩
        · rw [Heap.get_put, if_neg (by omega), (e4.trans x4).get b (by omega)]; exact old b hb
        · rw [hrev i (by omega)]; exact hwas
      · have : i = kk := by omega
        subst this
        have hl1 := B.lt
        have hl2 := X.lt
        simp (disch := first | done | ((try simp only [Heap.add_nxt, Heap.put_nxt, Heap.del_nxt, bump_nxt]) <;> omega) | fail) only [go_sem, Nat.reduceAdd, Nat.reduceSub, Nat.reduceMul, Nat.reduceMod, Nat.reduceGT, Nat.reduceLeDiff, Nat.reduceEqDiff, Nat.reduceBEq, Nat.reduceBNe, Nat.reduceShiftRight, Nat.reduceAnd, Nat.reduceOr, Nat.reduceBneDiff, bne_self_eq_false, Nat.reduceLT, ↓reduceIte, reduceCtorEq, Int.reduceToNat, Int.reduceNeg, Int.reduceLT, Int.reduceLE, decide_true, decide_false, Int.cast_ofNat_Int, Int.reduceEq, Int.reduceNe, Int.reduceGT, Int.reduceGE, Int.reduceAdd, Int.reduceSub, Int.reduceMul, Bool.and_true, Bool.true_and, Bool.and_false, Bool.false_and, Bool.not_true, Bool.not_false, X.box]
        refine callV_of F_15 rfl ((Do_wf (ps := xs.take (xs.length - i)) (ns := R.take i) ⟨_, _, rfl, X.fp, X.fq⟩ (by simp; omega)).mono ?_)
        rintro v4 h4 ⟨e4, pz, qz, rfl, fpz, fqz⟩
        have hz : ((xs.take (xs.length - i) ++ [now]).drop ((xs.take (xs.length - i) ++ [now]).length - 20)).length = xs.length - i + 1 := by simp; omega
        obtain ⟨pza, pzn, pzc, pzz, rfl, hpz⟩ := form2 fpz
        obtain ⟨qza, qzn, qzc, qzz, rfl, hqz⟩ := form2 fqz
        rw [hz] at hpz
        simp only [List.length_nil] at hqz
        simp (disch := first | done | ((try simp only [Heap.add_nxt, Heap.put_nxt, Heap.del_nxt, bump_nxt]) <;> omega) | fail) only [go_sem, Nat.reduceAdd, Nat.reduceSub, Nat.reduceMul, Nat.reduceMod, Nat.reduceGT, Nat.reduceLeDiff, Nat.reduceEqDiff, Nat.reduceBEq, Nat.reduceBNe, Nat.reduceShiftRight, Nat.reduceAnd, Nat.reduceOr, Nat.reduceBneDiff, bne_self_eq_false, Nat.reduceLT, ↓reduceIte, reduceCtorEq, Int.reduceToNat, Int.reduceNeg, Int.reduceLT, Int.reduceLE, decide_true, decide_false, Int.cast_ofNat_Int, Int.reduceEq, Int.reduceNe, Int.reduceGT, Int.reduceGE, Int.reduceAdd, Int.reduceSub, Int.reduceMul, Bool.and_true, Bool.true_and, Bool.and_false, Bool.false_and, Bool.not_true, Bool.not_false]
        have x4 : Ext h4 ((h4.add (Blk.cells [AV.slc none 0 (some 0) 0, AV.slc none 0 (some 0) 0] true)).put h4.nxt (Blk.cells [AV.slc pza pzn pzc pzz, AV.slc qza qzn qzc qzz] true)) := (Ext.add _ _).put (Nat.le_refl _)
        refine callV_of F_17 rfl ((Redo_wf (ps := (xs.take (xs.length - i) ++ [now]).drop ((xs.take (xs.length - i) ++ [now]).length - 20)) (ns := []) ⟨_, _, rfl, (fpz.ext x4).le (Nat.zero_le _), (fqz.ext x4).le (Nat.zero_le _)⟩ (by omega) (by simp)).mono ?_)
        rintro v5 h5 ⟨e5, hc⟩
        rcases hc with ⟨_, x, rfl, p5, q5, rfl, fp5, fq5⟩ | ⟨was, x, hw, _⟩
        rotate_left
        · simp at hw
        obtain ⟨p5a, p5n, p5c, p5z, rfl, hp5⟩ := form2 fp5
        obtain ⟨q5a, q5n, q5c, q5z, rfl, hq5⟩ := form2 fq5
        simp (disch := first | done | ((try simp only [Heap.add_nxt, Heap.put_nxt, Heap.del_nxt, bump_nxt]) <;> omega) | fail) only [go_sem, Nat.reduceAdd, Nat.reduceSub, Nat.reduceMul, Nat.reduceMod, Nat.reduceGT, Nat.reduceLeDiff, Nat.reduceEqDiff, Nat.reduceBEq, Nat.reduceBNe, Nat.reduceShiftRight, Nat.reduceAnd, Nat.reduceOr, Nat.reduceBneDiff, bne_self_eq_false, Nat.reduceLT, ↓reduceIte, reduceCtorEq, Int.reduceToNat, Int.reduceNeg, Int.reduceLT, Int.reduceLE, decide_true, decide_false, Int.cast_ofNat_Int, Int.reduceEq, Int.reduceNe, Int.reduceGT, Int.reduceGE, Int.reduceAdd, Int.reduceSub, Int.reduceMul, Bool.and_true, Bool.true_and, Bool.and_false, Bool.false_and, Bool.not_true, Bool.not_false]
        have x5 : Ext h5 ((h5.add (Blk.cells [AV.slc none 0 (some 0) 0, AV.slc none 0 (some 0) 0] true)).put h5.nxt (Blk.cells [AV.slc p5a p5n p5c p5z, AV.slc q5a q5n q5c q5z] true)) := (Ext.add _ _).put (Nat.le_refl _)
        have n4 := e4.nxt
        have n5 := e5.nxt
        simp at n5
        have xa : Ext h3 ((h5.add (Blk.cells [AV.slc none 0 (some 0) 0, AV.slc none 0 (some 0) 0] true)).put h5.nxt (Blk.cells [AV.slc p5a p5n p5c p5z, AV.slc q5a q5n q5c q5z] true)) := ((e4.trans x4).trans e5).trans x5
        generalize hkz : h4.nxt = kz at n4 n5 ⊢
        refine LoopK_while (fun m s h6 => ∃ (j : Nat) (p6 q6 : AV) (now : Int), HBox h1.nxt (.slc pa pn pc pz) (.slc qa qn qc qz) xs [] h6 ∧ HBox kx p6 q6 (xs.take (xs.length - i + j)) (R.take (i - j)) h6 ∧ (∀ b, b < h1.nxt → h6.get b = h1.get b) ∧ (kz < h6.nxt ∧ h6.get kz = some (.cells [.slc pza pzn pzc pzz, .slc qza qzn qzc qzz] true)) ∧ R[i - j]? = some now ∧ j ≤ i ∧ m = i - j ∧
          Keep s 140 [(0, .slc a xs.length c z), (2, .int .i64 more), (6, .bool false), (7, .ptr (some (h1.nxt, 0))), (9, .ptr (some (kx, 0))), (10, .int .i64 now), (11, .int .i64 i), (16, .ptr (some (kz, 0))), (19, .bool false), (20, .int .i64 j)]) i ?_ ?_
        · refine ⟨0, p2, q2, now, B.ext xa, by simpa using X.ext xa, fun b hb => by rw [xa.get b (by omega)]; exact old b hb, ⟨by simp; omega, ?_⟩, by simpa using hnow, by omega, rfl, rfl, by simp [Has]⟩
          rw [x5.get _ (by omega), e5.get _ (by simp; omega), ← hkz, Heap.get_put, if_pos rfl]
        have hkxz : kx < kz := by omega
        clear B old X hnow hk k0 k2 k6 k7 k9 k10 k11 k12 xa x4 x5 e5 hkz fpz fqz fp5 fq5 e4
        rintro m s h6 ⟨j, p6, q6, now, B, X, old, ⟨lz, gz⟩, hnow, hj, rfl, hk⟩
        rw [hk.eq]
        obtain ⟨k0, k2, k6, k7, k9, k10, k11, k16, k19, k20, -⟩ := hk.2
        simp only [slotsFrom, Nat.reduceAdd] at k0 k2 k6 k7 k9 k10 k11 k16 k19 k20 ⊢
        simp only [k0, k2, k6, k7, k9, k10, k11, k16, k19, k20]
        simp (disch := first | done | ((try simp only [Heap.add_nxt, Heap.put_nxt, Heap.del_nxt, bump_nxt]) <;> omega) | fail) only [go_sem, Nat.reduceAdd, Nat.reduceSub, Nat.reduceMul, Nat.reduceMod, Nat.reduceGT, Nat.reduceLeDiff, Nat.reduceEqDiff, Nat.reduceBEq, Nat.reduceBNe, Nat.reduceShiftRight, Nat.reduceAnd, Nat.reduceOr, Nat.reduceBneDiff, bne_self_eq_false, Nat.reduceLT, ↓reduceIte, reduceCtorEq, Int.reduceToNat, Int.reduceNeg, Int.reduceLT, Int.reduceLE, decide_true, decide_false, Int.cast_ofNat_Int, Int.reduceEq, Int.reduceNe, Int.reduceGT, Int.reduceGE, Int.reduceAdd, Int.reduceSub, Int.reduceMul, Bool.and_true, Bool.true_and, Bool.and_false, Bool.false_and, Bool.not_true, Bool.not_false]
        have hl1 := B.lt
        have hl2 := X.lt
        refine condK_dec (fun hlt => ?_) (fun hge => ?_)
        · have hlt : j < i := by omega
          simp (disch := first | done | ((try simp only [Heap.add_nxt, Heap.put_nxt, Heap.del_nxt, bump_nxt]) <;> omega) | fail) only [go_sem, Nat.reduceAdd, Nat.reduceSub, Nat.reduceMul, Nat.reduceMod, Nat.reduceGT, Nat.reduceLeDiff, Nat.reduceEqDiff, Nat.reduceBEq, Nat.reduceBNe, Nat.reduceShiftRight, Nat.reduceAnd, Nat.reduceOr, Nat.reduceBneDiff, bne_self_eq_false, Nat.reduceLT, ↓reduceIte, reduceCtorEq, Int.reduceToNat, Int.reduceNeg, Int.reduceLT, Int.reduceLE, decide_true, decide_false, Int.cast_ofNat_Int, Int.reduceEq, Int.reduceNe, Int.reduceGT, Int.reduceGE, Int.reduceAdd, Int.reduceSub, Int.reduceMul, Bool.and_true, Bool.true_and, Bool.and_false, Bool.false_and, Bool.not_true, Bool.not_false, X.box]
          refine callV_of F_17 rfl ((Redo_wf (ps := xs.take (xs.length - i + j)) (ns := R.take (i - j)) ⟨_, _, rfl, X.fp, X.fq⟩ (by simp; omega) (by simp; omega)).mono ?_)
          rintro v7 h7 ⟨e7, hc⟩
          rcases hc with ⟨h0, _⟩ | ⟨was, x, hw, rfl, p3, q3, rfl, fp3, fq3⟩
          · have := congrArg List.length h0
            rw [List.length_take, hRl, List.length_nil] at this; omega
          obtain ⟨p3a, p3n, p3c, p3z, rfl, hp3⟩ := form2 fp3
          obtain ⟨q3a, q3n, q3c, q3z, rfl, hq3⟩ := form2 fq3
          have n7 := e7.nxt
          have gx : h7.get kx = _ := (e7.get _ hl2).trans X.box
          simp (disch := first | done | ((try simp only [Heap.add_nxt, Heap.put_nxt, Heap.del_nxt, bump_nxt]) <;> omega) | fail) only [go_sem, Nat.reduceAdd, Nat.reduceSub, Nat.reduceMul, Nat.reduceMod, Nat.reduceGT, Nat.reduceLeDiff, Nat.reduceEqDiff, Nat.reduceBEq, Nat.reduceBNe, Nat.reduceShiftRight, Nat.reduceAnd, Nat.reduceOr, Nat.reduceBneDiff, bne_self_eq_false, Nat.reduceLT, ↓reduceIte, reduceCtorEq, Int.reduceToNat, Int.reduceNeg, Int.reduceLT, Int.reduceLE, decide_true, decide_false, Int.cast_ofNat_Int, Int.reduceEq, Int.reduceNe, Int.reduceGT, Int.reduceGE, Int.reduceAdd, Int.reduceSub, Int.reduceMul, Bool.and_true, Bool.true_and, Bool.and_false, Bool.false_and, Bool.not_true, Bool.not_false, gx]
          have x7 : Ext h7 ((h7.add (Blk.cells [AV.slc none 0 (some 0) 0, AV.slc none 0 (some 0) 0] true)).put h7.nxt (Blk.cells [AV.slc p3a p3n p3c p3z, AV.slc q3a q3n q3c q3z] true)) := (Ext.add _ _).put (Nat.le_refl _)
          have hwas : R[i - (j + 1)]? = some was := by
            rw [List.getLast?_eq_getElem?, List.getElem?_take, if_pos (by simp; omega)] at hw
            rw [← hw]; congr 1; simp; omega
          have hnx : xs[xs.length - i + j]? = some now := by
            have := hrev (i - j - 1) (by omega)
            rw [show i - j - 1 + 1 = i - j by omega, hnow] at this
            rw [this]; congr 1; omega
          have hp : xs.take (xs.length - i + j) ++ [now] = xs.take (xs.length - i + (j + 1)) := by
            rw [← Nat.add_assoc, List.take_add_one, hnx]; rfl
          have hq : (R.take (i - j)).dropLast = R.take (i - (j + 1)) := by
            rw [List.dropLast_eq_take, List.take_take]; congr 1; simp; omega
          rw [hp] at fp3
          rw [hq] at fq3
          refine AgainK.mk (i - (j + 1)) (by simp; omega) ⟨j + 1, _, _, was, (B.ext (e7.trans x7)).put _ (by omega) (fun e => by have := hpkx _ e; omega) (fun e => by have := hqkx _ e; omega), ⟨by simp; omega, by rw [Heap.get_put, if_pos rfl], ((fp3.ext x7).put hl2 _).le (by omega), ((fq3.ext x7).put hl2 _).le (by omega)⟩, fun b hb => ?_, ⟨by simp; omega, ?_⟩, hwas, by omega, rfl, rfl, by simp [Has]⟩
          · rw [Heap.get_put, if_neg (by omega), (e7.trans x7).get b (by omega)]; exact old b hb
          · rw [Heap.get_put, if_neg (by omega), (e7.trans x7).get _ lz]; exact gz
        · have : j = i := by omega
          subst this
          have hm : now = more := by
            rw [Nat.sub_self, ← hRe] at hnow; simpa using hnow.symm
          subst hm
          rw [show xs.length - j + j = xs.length by omega, List.take_length, Nat.sub_self, List.take_zero] at X
          obtain ⟨p6a, p6n, p6c, p6z, rfl, hp6⟩ := form2 X.fp
          obtain ⟨q6a, q6n, q6c, q6z, rfl, hq6⟩ := form2 X.fq
          simp (disch := first | done | ((try simp only [Heap.add_nxt, Heap.put_nxt, Heap.del_nxt, bump_nxt]) <;> omega) | fail) only [go_sem, Nat.reduceAdd, Nat.reduceSub, Nat.reduceMul, Nat.reduceMod, Nat.reduceGT, Nat.reduceLeDiff, Nat.reduceEqDiff, Nat.reduceBEq, Nat.reduceBNe, Nat.reduceShiftRight, Nat.reduceAnd, Nat.reduceOr, Nat.reduceBneDiff, bne_self_eq_false, Nat.reduceLT, ↓reduceIte, reduceCtorEq, Int.reduceToNat, Int.reduceNeg, Int.reduceLT, Int.reduceLE, decide_true, decide_false, Int.cast_ofNat_Int, Int.reduceEq, Int.reduceNe, Int.reduceGT, Int.reduceGE, Int.reduceAdd, Int.reduceSub, Int.reduceMul, Bool.and_true, Bool.true_and, Bool.and_false, Bool.false_and, Bool.not_true, Bool.not_false, X.box, B.box, gz]
          refine callV_of F_18 rfl ((Same_wf X.fp.slc B.fp.slc (by omega) (by omega)).mono ?_)
          rintro v8 h8 ⟨e8, rfl⟩
          have gz8 : h8.get kz = _ := (e8.get _ lz).trans gz
          have X8 := (X.ext e8).box
          have hq6' : q6n = 0 := by simpa using hq6
          have hpz' : (pzn : Int) = xs.length - j + 1 := by omega
          subst hq6'
          subst hqz
          simp (disch := first | done | ((try simp only [Heap.add_nxt, Heap.put_nxt, Heap.del_nxt, bump_nxt]) <;> omega) | fail) only [go_sem, Nat.reduceAdd, Nat.reduceSub, Nat.reduceMul, Nat.reduceMod, Nat.reduceGT, Nat.reduceLeDiff, Nat.reduceEqDiff, Nat.reduceBEq, Nat.reduceBNe, Nat.reduceShiftRight, Nat.reduceAnd, Nat.reduceOr, Nat.reduceBneDiff, bne_self_eq_false, Nat.reduceLT, ↓reduceIte, reduceCtorEq, Int.reduceToNat, Int.reduceNeg, Int.reduceLT, Int.reduceLE, decide_true, decide_false, Int.cast_ofNat_Int, Int.reduceEq, Int.reduceNe, Int.reduceGT, Int.reduceGE, Int.reduceAdd, Int.reduceSub, Int.reduceMul, Bool.and_true, Bool.true_and, Bool.and_false, Bool.false_and, Bool.not_true, Bool.not_false, gz8, X8, hpz']
          exact hQ _ _ rfl

theorem UndoBack_law {h : Heap} {v : AV} {xs : List Int} {n more : Int} (hv : Slc h v 1 (I1 xs)) (hb : ∀ z ∈ xs, IntKind.i64.min ≤ z ∧ z ≤ IntKind.i64.max) (w1 : (Lit.int .u8 n).wf = true) (w2 : (Lit.int .i64 more).wf = true) : WF T F 5 [v, .int .u8 n, .int .i64 more] h fun v' h' => v' = .bool true := by
  simp only [Lit.wf, Bool.and_eq_true, decide_eq_true_eq] at w1
  exact UndoBack_wf hv (by have := w1.1; simp [IntKind.min, IntKind.signed] at this; exact this) (by have := w1.2; simp [IntKind.max, IntKind.signed, IntKind.bits] at this; omega)
end Go.Proofs.Ytibehogiobencaa
