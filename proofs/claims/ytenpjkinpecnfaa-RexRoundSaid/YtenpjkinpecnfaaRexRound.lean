/-
  The law RexRound: what it comes to.
-/
import Derived.Test.YtenpjkinpecnfaaRexCount
namespace Go.Proofs.Ytenpjkinpecnfaa
open Go Go.Am
set_option maxRecDepth 100000
set_option maxHeartbeats 4000000
set_option linter.unusedSimpArgs false
set_option linter.unusedVariables false

theorem PatOk.parse2 {s : List UInt8} {l : List Item} (h : PatOk G2 s l) (hs : s.length ≤ 24) : Go.Proofs.Ytenpjkinpecnfaa.parse s = some l := by
  have hp := List.length_pos_iff.2 h.1
  unfold Go.Proofs.Ytenpjkinpecnfaa.parse
  rw [if_neg (by omega)]
  have := h.2 (some (pat 11)) [] ⟨10, rfl⟩ (.inl rfl)
  rw [List.append_nil] at this
  have e : pat 12 s = some (l, []) := this
  rw [e]
theorem round_one {s : List UInt8} {l : List Item} (h : PatOk G1 s l) (hs : s.length + 2 ≤ 24) : parse ([40] ++ s ++ [41]) = some l := by
  have := (h.atom g21).unit.row.pat
  rw [List.append_nil] at this
  exact this.parse2 (by simp; omega)
theorem round_alt {s t : List UInt8} {l m : List Item} (h : PatOk G1 s l) (k : PatOk G1 t m) (hs : s.length + t.length + 5 ≤ 24) : parse ([40] ++ s ++ [41, 124, 40] ++ t ++ [41]) = some (l ++ m ++ [⟨3, []⟩]) := by
  have := (h.atom g21).unit.row.alt (k.atom g21).unit.row
  rw [List.append_nil, List.append_nil] at this
  have e : [40] ++ s ++ [41, 124, 40] ++ t ++ [41] = 40 :: s ++ [41] ++ 124 :: (40 :: t ++ [41]) := by simp
  rw [e, List.append_assoc l m]
  exact this.parse2 (by simp; omega)
theorem round_join {s t : List UInt8} {l m : List Item} (h : PatOk G1 s l) (k : PatOk G1 t m) (hs : s.length + t.length + 4 ≤ 24) : parse ([40] ++ s ++ [41, 40] ++ t ++ [41]) = some (l ++ m ++ [⟨2, []⟩]) := by
  have r : RowOk G2 _ _ := ⟨40 :: s ++ [41], (40 :: t ++ [41]) ++ [], l, m ++ ⟨2, []⟩ :: [], (h.atom g21).unit, .cons (k.atom g21).unit .nil, rfl, rfl⟩
  have e : [40] ++ s ++ [41, 40] ++ t ++ [41] = 40 :: s ++ [41] ++ (40 :: t ++ [41] ++ []) := by simp
  rw [e, List.append_assoc l m]
  exact r.pat.parse2 (by simp; omega)

theorem RexRound_uf {h : Heap} {v w : AV} {l m : List UInt8} (hv : Lst h v l) (hw : Lst h w m) : UF T F 6 [v, w] h fun v' _ => v' = .bool true := by
  obtain ⟨a, n, c, z, rfl, hn⟩ := hv.form
  obtain ⟨a2, n2, c2, z2, rfl, hn2⟩ := hw.form
  refine UF.gen fun Q hQ => UF.of (F_6) (c := _) rfl ?_
  unfold Try.f6
  simp only [List.length, Nat.reduceSub, Nat.reduceAdd, List.replicate, List.cons_append, List.nil_append]
  simp (disch := first | done | ((try simp only [Heap.add_nxt, Heap.put_nxt, Heap.del_nxt, bump_nxt]) <;> omega) | fail) only [go_sem, Nat.reduceAdd, Nat.reduceSub, Nat.reduceMul, Nat.reduceMod, Nat.reduceGT, Nat.reduceLeDiff, Nat.reduceEqDiff, Nat.reduceBEq, Nat.reduceBNe, Nat.reduceShiftRight, Nat.reduceAnd, Nat.reduceOr, Nat.reduceBneDiff, bne_self_eq_false, Nat.reduceLT, ↓reduceIte, reduceCtorEq, Int.reduceToNat, Int.reduceNeg, Int.reduceLT, Int.reduceLE, decide_true, decide_false, Int.cast_ofNat_Int, Int.reduceEq, Int.reduceNe, Int.reduceGT, Int.reduceGE, Int.reduceAdd, Int.reduceSub, Int.reduceMul, Bool.and_true, Bool.true_and, Bool.and_false, Bool.false_and, Bool.not_true, Bool.not_false]
  refine callV_ofU F_21 rfl ((begun3_uf).mono ?_)
  rintro v1 h1 ⟨e1, rfl⟩
  simp (disch := first | done | ((try simp only [Heap.add_nxt, Heap.put_nxt, Heap.del_nxt, bump_nxt]) <;> omega) | fail) only [go_sem, Nat.reduceAdd, Nat.reduceSub, Nat.reduceMul, Nat.reduceMod, Nat.reduceGT, Nat.reduceLeDiff, Nat.reduceEqDiff, Nat.reduceBEq, Nat.reduceBNe, Nat.reduceShiftRight, Nat.reduceAnd, Nat.reduceOr, Nat.reduceBneDiff, bne_self_eq_false, Nat.reduceLT, ↓reduceIte, reduceCtorEq, Int.reduceToNat, Int.reduceNeg, Int.reduceLT, Int.reduceLE, decide_true, decide_false, Int.cast_ofNat_Int, Int.reduceEq, Int.reduceNe, Int.reduceGT, Int.reduceGE, Int.reduceAdd, Int.reduceSub, Int.reduceMul, Bool.and_true, Bool.true_and, Bool.and_false, Bool.false_and, Bool.not_true, Bool.not_false]
  by_cases h8 : (n : Int) > 8
  · simp (disch := first | done | ((try simp only [Heap.add_nxt, Heap.put_nxt, Heap.del_nxt, bump_nxt]) <;> omega) | fail) only [go_sem, Nat.reduceAdd, Nat.reduceSub, Nat.reduceMul, Nat.reduceMod, Nat.reduceGT, Nat.reduceLeDiff, Nat.reduceEqDiff, Nat.reduceBEq, Nat.reduceBNe, Nat.reduceShiftRight, Nat.reduceAnd, Nat.reduceOr, Nat.reduceBneDiff, bne_self_eq_false, Nat.reduceLT, ↓reduceIte, reduceCtorEq, Int.reduceToNat, Int.reduceNeg, Int.reduceLT, Int.reduceLE, decide_true, decide_false, Int.cast_ofNat_Int, Int.reduceEq, Int.reduceNe, Int.reduceGT, Int.reduceGE, Int.reduceAdd, Int.reduceSub, Int.reduceMul, Bool.and_true, Bool.true_and, Bool.and_false, Bool.false_and, Bool.not_true, Bool.not_false, h8]
    exact hQ _ _ rfl
  by_cases h9 : (n2 : Int) > 8
  · simp (disch := first | done | ((try simp only [Heap.add_nxt, Heap.put_nxt, Heap.del_nxt, bump_nxt]) <;> omega) | fail) only [go_sem, Nat.reduceAdd, Nat.reduceSub, Nat.reduceMul, Nat.reduceMod, Nat.reduceGT, Nat.reduceLeDiff, Nat.reduceEqDiff, Nat.reduceBEq, Nat.reduceBNe, Nat.reduceShiftRight, Nat.reduceAnd, Nat.reduceOr, Nat.reduceBneDiff, bne_self_eq_false, Nat.reduceLT, ↓reduceIte, reduceCtorEq, Int.reduceToNat, Int.reduceNeg, Int.reduceLT, Int.reduceLE, decide_true, decide_false, Int.cast_ofNat_Int, Int.reduceEq, Int.reduceNe, Int.reduceGT, Int.reduceGE, Int.reduceAdd, Int.reduceSub, Int.reduceMul, Bool.and_true, Bool.true_and, Bool.and_false, Bool.false_and, Bool.not_true, Bool.not_false, h8, h9]
    exact hQ _ _ rfl
  simp (disch := first | done | ((try simp only [Heap.add_nxt, Heap.put_nxt, Heap.del_nxt, bump_nxt]) <;> omega) | fail) only [go_sem, Nat.reduceAdd, Nat.reduceSub, Nat.reduceMul, Nat.reduceMod, Nat.reduceGT, Nat.reduceLeDiff, Nat.reduceEqDiff, Nat.reduceBEq, Nat.reduceBNe, Nat.reduceShiftRight, Nat.reduceAnd, Nat.reduceOr, Nat.reduceBneDiff, bne_self_eq_false, Nat.reduceLT, ↓reduceIte, reduceCtorEq, Int.reduceToNat, Int.reduceNeg, Int.reduceLT, Int.reduceLE, decide_true, decide_false, Int.cast_ofNat_Int, Int.reduceEq, Int.reduceNe, Int.reduceGT, Int.reduceGE, Int.reduceAdd, Int.reduceSub, Int.reduceMul, Bool.and_true, Bool.true_and, Bool.and_false, Bool.false_and, Bool.not_true, Bool.not_false, h8, h9]
  refine callV_ofU F_22 rfl ((Made_uf (hv.ext e1)).mono ?_)
  rintro v2 h2 ⟨e2, rfl, P2⟩
  simp (disch := first | done | ((try simp only [Heap.add_nxt, Heap.put_nxt, Heap.del_nxt, bump_nxt]) <;> omega) | fail) only [go_sem, Nat.reduceAdd, Nat.reduceSub, Nat.reduceMul, Nat.reduceMod, Nat.reduceGT, Nat.reduceLeDiff, Nat.reduceEqDiff, Nat.reduceBEq, Nat.reduceBNe, Nat.reduceShiftRight, Nat.reduceAnd, Nat.reduceOr, Nat.reduceBneDiff, bne_self_eq_false, Nat.reduceLT, ↓reduceIte, reduceCtorEq, Int.reduceToNat, Int.reduceNeg, Int.reduceLT, Int.reduceLE, decide_true, decide_false, Int.cast_ofNat_Int, Int.reduceEq, Int.reduceNe, Int.reduceGT, Int.reduceGE, Int.reduceAdd, Int.reduceSub, Int.reduceMul, Bool.and_true, Bool.true_and, Bool.and_false, Bool.false_and, Bool.not_true, Bool.not_false]
  refine callV_ofU F_23 rfl ((Rex_uf P2 (by omega)).mono ?_)
  rintro v3 h3 ⟨u3, P3, s, rfl, hs⟩
  simp (disch := first | done | ((try simp only [Heap.add_nxt, Heap.put_nxt, Heap.del_nxt, bump_nxt]) <;> omega) | fail) only [go_sem, Nat.reduceAdd, Nat.reduceSub, Nat.reduceMul, Nat.reduceMod, Nat.reduceGT, Nat.reduceLeDiff, Nat.reduceEqDiff, Nat.reduceBEq, Nat.reduceBNe, Nat.reduceShiftRight, Nat.reduceAnd, Nat.reduceOr, Nat.reduceBneDiff, bne_self_eq_false, Nat.reduceLT, ↓reduceIte, reduceCtorEq, Int.reduceToNat, Int.reduceNeg, Int.reduceLT, Int.reduceLE, decide_true, decide_false, Int.cast_ofNat_Int, Int.reduceEq, Int.reduceNe, Int.reduceGT, Int.reduceGE, Int.reduceAdd, Int.reduceSub, Int.reduceMul, Bool.and_true, Bool.true_and, Bool.and_false, Bool.false_and, Bool.not_true, Bool.not_false]
  refine callV_ofU F_22 rfl ((Made_uf ((hw.ext (e1.trans e2)).pst u3.pst)).mono ?_)
  rintro v4 h4 ⟨e4, rfl, P4⟩
  simp (disch := first | done | ((try simp only [Heap.add_nxt, Heap.put_nxt, Heap.del_nxt, bump_nxt]) <;> omega) | fail) only [go_sem, Nat.reduceAdd, Nat.reduceSub, Nat.reduceMul, Nat.reduceMod, Nat.reduceGT, Nat.reduceLeDiff, Nat.reduceEqDiff, Nat.reduceBEq, Nat.reduceBNe, Nat.reduceShiftRight, Nat.reduceAnd, Nat.reduceOr, Nat.reduceBneDiff, bne_self_eq_false, Nat.reduceLT, ↓reduceIte, reduceCtorEq, Int.reduceToNat, Int.reduceNeg, Int.reduceLT, Int.reduceLE, decide_true, decide_false, Int.cast_ofNat_Int, Int.reduceEq, Int.reduceNe, Int.reduceGT, Int.reduceGE, Int.reduceAdd, Int.reduceSub, Int.reduceMul, Bool.and_true, Bool.true_and, Bool.and_false, Bool.false_and, Bool.not_true, Bool.not_false]
  refine callV_ofU F_23 rfl ((Rex_uf P4 (by omega)).mono ?_)
  rintro v5 h5 ⟨u5, P5, t, rfl, ht⟩
  simp (disch := first | done | ((try simp only [Heap.add_nxt, Heap.put_nxt, Heap.del_nxt, bump_nxt]) <;> omega) | fail) only [go_sem, Nat.reduceAdd, Nat.reduceSub, Nat.reduceMul, Nat.reduceMod, Nat.reduceGT, Nat.reduceLeDiff, Nat.reduceEqDiff, Nat.reduceBEq, Nat.reduceBNe, Nat.reduceShiftRight, Nat.reduceAnd, Nat.reduceOr, Nat.reduceBneDiff, bne_self_eq_false, Nat.reduceLT, ↓reduceIte, reduceCtorEq, Int.reduceToNat, Int.reduceNeg, Int.reduceLT, Int.reduceLE, decide_true, decide_false, Int.cast_ofNat_Int, Int.reduceEq, Int.reduceNe, Int.reduceGT, Int.reduceGE, Int.reduceAdd, Int.reduceSub, Int.reduceMul, Bool.and_true, Bool.true_and, Bool.and_false, Bool.false_and, Bool.not_true, Bool.not_false]
  have pos : ∀ {s}, MadeRex s → 1 ≤ s.length := by
    intro s hm
    rcases hm with rfl | ⟨h24, ps, hp1, hp3, hps, hs⟩
    · simp
    · have := pstr_len ps hps
      rcases hs with rfl | ⟨c, _, _, rfl⟩
      · omega
      · rw [List.length_append, List.length_cons]; omega
  have hs1 := pos hs
  have ht1 := pos ht
  obtain ⟨x, hx⟩ := made_pat hs
  obtain ⟨y, hy⟩ := made_pat ht
  by_cases h20 : ((s.length : Int) + t.length) > 20
  · have hw1 : IntKind.i64.wrap ((s.length : Int) + t.length) = s.length + t.length := by
      have l1 : ∀ {s}, MadeRex s → s.length ≤ 24 := by
        rintro s (rfl | ⟨h, _⟩)
        · simp
        · exact h
      have := l1 hs
      have := l1 ht
      exact wrap_i64 (by omega) (by omega)
    simp (disch := first | done | ((try simp only [Heap.add_nxt, Heap.put_nxt, Heap.del_nxt, bump_nxt]) <;> omega) | fail) only [go_sem, Nat.reduceAdd, Nat.reduceSub, Nat.reduceMul, Nat.reduceMod, Nat.reduceGT, Nat.reduceLeDiff, Nat.reduceEqDiff, Nat.reduceBEq, Nat.reduceBNe, Nat.reduceShiftRight, Nat.reduceAnd, Nat.reduceOr, Nat.reduceBneDiff, bne_self_eq_false, Nat.reduceLT, ↓reduceIte, reduceCtorEq, Int.reduceToNat, Int.reduceNeg, Int.reduceLT, Int.reduceLE, decide_true, decide_false, Int.cast_ofNat_Int, Int.reduceEq, Int.reduceNe, Int.reduceGT, Int.reduceGE, Int.reduceAdd, Int.reduceSub, Int.reduceMul, Bool.and_true, Bool.true_and, Bool.and_false, Bool.false_and, Bool.not_true, Bool.not_false, hw1, h20]
    exact hQ _ _ rfl
  simp (disch := first | done | ((try simp only [Heap.add_nxt, Heap.put_nxt, Heap.del_nxt, bump_nxt]) <;> omega) | fail) only [go_sem, Nat.reduceAdd, Nat.reduceSub, Nat.reduceMul, Nat.reduceMod, Nat.reduceGT, Nat.reduceLeDiff, Nat.reduceEqDiff, Nat.reduceBEq, Nat.reduceBNe, Nat.reduceShiftRight, Nat.reduceAnd, Nat.reduceOr, Nat.reduceBneDiff, bne_self_eq_false, Nat.reduceLT, ↓reduceIte, reduceCtorEq, Int.reduceToNat, Int.reduceNeg, Int.reduceLT, Int.reduceLE, decide_true, decide_false, Int.cast_ofNat_Int, Int.reduceEq, Int.reduceNe, Int.reduceGT, Int.reduceGE, Int.reduceAdd, Int.reduceSub, Int.reduceMul, Bool.and_true, Bool.true_and, Bool.and_false, Bool.false_and, Bool.not_true, Bool.not_false, h20]
  have px := hx.parse (by omega)
  have py := hy.parse (by omega)
  have pb := round_one hx (by omega)
  obtain ⟨fx, gx, _⟩ := parse_few px
  obtain ⟨fy, gy, _⟩ := parse_few py
  refine callV_ofU F_24 rfl ((parse_uf (s := s)).mono ?_)
  rintro v6 h6 ⟨e6, m6⟩
  simp (disch := first | done | ((try simp only [Heap.add_nxt, Heap.put_nxt, Heap.del_nxt, bump_nxt]) <;> omega) | fail) only [go_sem, Nat.reduceAdd, Nat.reduceSub, Nat.reduceMul, Nat.reduceMod, Nat.reduceGT, Nat.reduceLeDiff, Nat.reduceEqDiff, Nat.reduceBEq, Nat.reduceBNe, Nat.reduceShiftRight, Nat.reduceAnd, Nat.reduceOr, Nat.reduceBneDiff, bne_self_eq_false, Nat.reduceLT, ↓reduceIte, reduceCtorEq, Int.reduceToNat, Int.reduceNeg, Int.reduceLT, Int.reduceLE, decide_true, decide_false, Int.cast_ofNat_Int, Int.reduceEq, Int.reduceNe, Int.reduceGT, Int.reduceGE, Int.reduceAdd, Int.reduceSub, Int.reduceMul, Bool.and_true, Bool.true_and, Bool.and_false, Bool.false_and, Bool.not_true, Bool.not_false]
  rw [px] at m6
  obtain ⟨w6, rfl, L6⟩ := m6
  have a1 : strOp .add [40] s = some (.str (40 :: s)) := strOp_add (by simp; omega)
  have a2 : strOp .add (40 :: s) [41] = some (.str (40 :: s ++ [41])) := strOp_add (by simp; omega)
  have a3 : strOp .add (40 :: s) [41, 124, 40] = some (.str (40 :: s ++ [41, 124, 40])) := strOp_add (by simp; omega)
  have a4 : strOp .add (40 :: s ++ [41, 124, 40]) t = some (.str (40 :: s ++ [41, 124, 40] ++ t)) := strOp_add (by simp; omega)
  have a5 : strOp .add (40 :: s ++ [41, 124, 40] ++ t) [41] = some (.str (40 :: s ++ [41, 124, 40] ++ t ++ [41])) := strOp_add (by simp; omega)
  have b3 : strOp .add (40 :: s) [41, 40] = some (.str (40 :: s ++ [41, 40])) := strOp_add (by simp; omega)
  have b4 : strOp .add (40 :: s ++ [41, 40]) t = some (.str (40 :: s ++ [41, 40] ++ t)) := strOp_add (by simp; omega)
  have b5 : strOp .add (40 :: s ++ [41, 40] ++ t) [41] = some (.str (40 :: s ++ [41, 40] ++ t ++ [41])) := strOp_add (by simp; omega)
  simp only [List.cons_append, List.nil_append, List.append_assoc] at a2 a3 a4 a5 b3 b4 b5
  have pb : parse (40 :: (s ++ [41])) = some x := by simpa using pb
  simp (disch := first | done | ((try simp only [Heap.add_nxt, Heap.put_nxt, Heap.del_nxt, bump_nxt]) <;> omega) | fail) only [go_sem, Nat.reduceAdd, Nat.reduceSub, Nat.reduceMul, Nat.reduceMod, Nat.reduceGT, Nat.reduceLeDiff, Nat.reduceEqDiff, Nat.reduceBEq, Nat.reduceBNe, Nat.reduceShiftRight, Nat.reduceAnd, Nat.reduceOr, Nat.reduceBneDiff, bne_self_eq_false, Nat.reduceLT, ↓reduceIte, reduceCtorEq, Int.reduceToNat, Int.reduceNeg, Int.reduceLT, Int.reduceLE, decide_true, decide_false, Int.cast_ofNat_Int, Int.reduceEq, Int.reduceNe, Int.reduceGT, Int.reduceGE, Int.reduceAdd, Int.reduceSub, Int.reduceMul, Bool.and_true, Bool.true_and, Bool.and_false, Bool.false_and, Bool.not_true, Bool.not_false, a1, a2]
  obtain ⟨Y6, leY6, nY6, lx6, uY6⟩ := L6.frz
  refine callV_ofU F_24 rfl (UF.less leY6 ((parse_uf (s := 40 :: (s ++ [41]))).mono ?_))
  rintro v7 h7 ⟨e7, m7⟩
  rw [pb] at m7
  obtain ⟨w7, rfl, L7⟩ := m7
  have lx7 := lx6.ext e7
  simp (disch := first | done | ((try simp only [Heap.add_nxt, Heap.put_nxt, Heap.del_nxt, bump_nxt]) <;> omega) | fail) only [go_sem, Nat.reduceAdd, Nat.reduceSub, Nat.reduceMul, Nat.reduceMod, Nat.reduceGT, Nat.reduceLeDiff, Nat.reduceEqDiff, Nat.reduceBEq, Nat.reduceBNe, Nat.reduceShiftRight, Nat.reduceAnd, Nat.reduceOr, Nat.reduceBneDiff, bne_self_eq_false, Nat.reduceLT, ↓reduceIte, reduceCtorEq, Int.reduceToNat, Int.reduceNeg, Int.reduceLT, Int.reduceLE, decide_true, decide_false, Int.cast_ofNat_Int, Int.reduceEq, Int.reduceNe, Int.reduceGT, Int.reduceGE, Int.reduceAdd, Int.reduceSub, Int.reduceMul, Bool.and_true, Bool.true_and, Bool.and_false, Bool.false_and, Bool.not_true, Bool.not_false]
  obtain ⟨Y7, leY7, nY7, lz7, uY7⟩ := L7.frz
  refine callV_ofU F_24 rfl (UF.less leY7 ((parse_uf (s := t)).mono ?_))
  rintro v8 h8 ⟨e8, m8⟩
  rw [py] at m8
  obtain ⟨w8, rfl, L8⟩ := m8
  have lx8 := (lx7.pst uY7.pst).ext e8
  have lz8 := lz7.ext e8
  simp (disch := first | done | ((try simp only [Heap.add_nxt, Heap.put_nxt, Heap.del_nxt, bump_nxt]) <;> omega) | fail) only [go_sem, Nat.reduceAdd, Nat.reduceSub, Nat.reduceMul, Nat.reduceMod, Nat.reduceGT, Nat.reduceLeDiff, Nat.reduceEqDiff, Nat.reduceBEq, Nat.reduceBNe, Nat.reduceShiftRight, Nat.reduceAnd, Nat.reduceOr, Nat.reduceBneDiff, bne_self_eq_false, Nat.reduceLT, ↓reduceIte, reduceCtorEq, Int.reduceToNat, Int.reduceNeg, Int.reduceLT, Int.reduceLE, decide_true, decide_false, Int.cast_ofNat_Int, Int.reduceEq, Int.reduceNe, Int.reduceGT, Int.reduceGE, Int.reduceAdd, Int.reduceSub, Int.reduceMul, Bool.and_true, Bool.true_and, Bool.and_false, Bool.false_and, Bool.not_true, Bool.not_false, a1, a3, a4, a5]
  obtain ⟨Y8, leY8, nY8, ly8, uY8⟩ := L8.frz
  refine callV_ofU F_24 rfl (UF.less leY8 ((parse_uf (s := 40 :: (s ++ 41 :: 124 :: 40 :: (t ++ [41])))).mono ?_))
  rintro v9 h9 ⟨e9, m9⟩
  have lx9 := (lx8.pst uY8.pst).ext e9
  have lz9 := (lz8.pst uY8.pst).ext e9
  have ly9 := ly8.ext e9
  by_cases hbig : ((s.length : Int) + t.length + 5) > 24
  · have pw : parse (40 :: (s ++ 41 :: 124 :: 40 :: (t ++ [41]))) = none := by rw [parse, if_pos (.inr (by simp; omega))]
    rw [pw] at m9
    subst m9
    simp (disch := first | done | ((try simp only [Heap.add_nxt, Heap.put_nxt, Heap.del_nxt, bump_nxt]) <;> omega) | fail) only [go_sem, Nat.reduceAdd, Nat.reduceSub, Nat.reduceMul, Nat.reduceMod, Nat.reduceGT, Nat.reduceLeDiff, Nat.reduceEqDiff, Nat.reduceBEq, Nat.reduceBNe, Nat.reduceShiftRight, Nat.reduceAnd, Nat.reduceOr, Nat.reduceBneDiff, bne_self_eq_false, Nat.reduceLT, ↓reduceIte, reduceCtorEq, Int.reduceToNat, Int.reduceNeg, Int.reduceLT, Int.reduceLE, decide_true, decide_false, Int.cast_ofNat_Int, Int.reduceEq, Int.reduceNe, Int.reduceGT, Int.reduceGE, Int.reduceAdd, Int.reduceSub, Int.reduceMul, Bool.and_true, Bool.true_and, Bool.and_false, Bool.false_and, Bool.not_true, Bool.not_false, a1, b3, b4, b5]
    refine callV_ofU F_24 rfl ((parse_uf (s := 40 :: (s ++ 41 :: 40 :: (t ++ [41])))).mono ?_)
    rintro v10 h10 ⟨e10, m10⟩
    simp (disch := first | done | ((try simp only [Heap.add_nxt, Heap.put_nxt, Heap.del_nxt, bump_nxt]) <;> omega) | fail) only [go_sem, Nat.reduceAdd, Nat.reduceSub, Nat.reduceMul, Nat.reduceMod, Nat.reduceGT, Nat.reduceLeDiff, Nat.reduceEqDiff, Nat.reduceBEq, Nat.reduceBNe, Nat.reduceShiftRight, Nat.reduceAnd, Nat.reduceOr, Nat.reduceBneDiff, bne_self_eq_false, Nat.reduceLT, ↓reduceIte, reduceCtorEq, Int.reduceToNat, Int.reduceNeg, Int.reduceLT, Int.reduceLE, decide_true, decide_false, Int.cast_ofNat_Int, Int.reduceEq, Int.reduceNe, Int.reduceGT, Int.reduceGE, Int.reduceAdd, Int.reduceSub, Int.reduceMul, Bool.and_true, Bool.true_and, Bool.and_false, Bool.false_and, Bool.not_true, Bool.not_false]
    cases hpv : parse (40 :: (s ++ 41 :: 40 :: (t ++ [41]))) with
    | none =>
      rw [hpv] at m10
      subst m10
      simp (disch := first | done | ((try simp only [Heap.add_nxt, Heap.put_nxt, Heap.del_nxt, bump_nxt]) <;> omega) | fail) only [go_sem, Nat.reduceAdd, Nat.reduceSub, Nat.reduceMul, Nat.reduceMod, Nat.reduceGT, Nat.reduceLeDiff, Nat.reduceEqDiff, Nat.reduceBEq, Nat.reduceBNe, Nat.reduceShiftRight, Nat.reduceAnd, Nat.reduceOr, Nat.reduceBneDiff, bne_self_eq_false, Nat.reduceLT, ↓reduceIte, reduceCtorEq, Int.reduceToNat, Int.reduceNeg, Int.reduceLT, Int.reduceLE, decide_true, decide_false, Int.cast_ofNat_Int, Int.reduceEq, Int.reduceNe, Int.reduceGT, Int.reduceGE, Int.reduceAdd, Int.reduceSub, Int.reduceMul, Bool.and_true, Bool.true_and, Bool.and_false, Bool.false_and, Bool.not_true, Bool.not_false, hbig]
      refine callV_ofU F_26 rfl ((SameItems_uf (lx9.ext e10).slc (lz9.ext e10).slc (by omega) (by omega) (fun y hy => by have := (gx y hy).1; omega)).mono ?_)
      rintro v11 h11 ⟨e11, rfl⟩
      simp (disch := first | done | ((try simp only [Heap.add_nxt, Heap.put_nxt, Heap.del_nxt, bump_nxt]) <;> omega) | fail) only [go_sem, Nat.reduceAdd, Nat.reduceSub, Nat.reduceMul, Nat.reduceMod, Nat.reduceGT, Nat.reduceLeDiff, Nat.reduceEqDiff, Nat.reduceBEq, Nat.reduceBNe, Nat.reduceShiftRight, Nat.reduceAnd, Nat.reduceOr, Nat.reduceBneDiff, bne_self_eq_false, Nat.reduceLT, ↓reduceIte, reduceCtorEq, Int.reduceToNat, Int.reduceNeg, Int.reduceLT, Int.reduceLE, decide_true, decide_false, Int.cast_ofNat_Int, Int.reduceEq, Int.reduceNe, Int.reduceGT, Int.reduceGE, Int.reduceAdd, Int.reduceSub, Int.reduceMul, Bool.and_true, Bool.true_and, Bool.and_false, Bool.false_and, Bool.not_true, Bool.not_false]
      exact hQ _ _ rfl
    | some lv =>
      rw [hpv] at m10
      obtain ⟨w10, rfl, L10⟩ := m10
      simp (disch := first | done | ((try simp only [Heap.add_nxt, Heap.put_nxt, Heap.del_nxt, bump_nxt]) <;> omega) | fail) only [go_sem, Nat.reduceAdd, Nat.reduceSub, Nat.reduceMul, Nat.reduceMod, Nat.reduceGT, Nat.reduceLeDiff, Nat.reduceEqDiff, Nat.reduceBEq, Nat.reduceBNe, Nat.reduceShiftRight, Nat.reduceAnd, Nat.reduceOr, Nat.reduceBneDiff, bne_self_eq_false, Nat.reduceLT, ↓reduceIte, reduceCtorEq, Int.reduceToNat, Int.reduceNeg, Int.reduceLT, Int.reduceLE, decide_true, decide_false, Int.cast_ofNat_Int, Int.reduceEq, Int.reduceNe, Int.reduceGT, Int.reduceGE, Int.reduceAdd, Int.reduceSub, Int.reduceMul, Bool.and_true, Bool.true_and, Bool.and_false, Bool.false_and, Bool.not_true, Bool.not_false, hbig]
      refine callV_ofU F_26 rfl ((SameItems_uf (lx9.ext e10).slc (lz9.ext e10).slc (by omega) (by omega) (fun y hy => by have := (gx y hy).1; omega)).mono ?_)
      rintro v11 h11 ⟨e11, rfl⟩
      simp (disch := first | done | ((try simp only [Heap.add_nxt, Heap.put_nxt, Heap.del_nxt, bump_nxt]) <;> omega) | fail) only [go_sem, Nat.reduceAdd, Nat.reduceSub, Nat.reduceMul, Nat.reduceMod, Nat.reduceGT, Nat.reduceLeDiff, Nat.reduceEqDiff, Nat.reduceBEq, Nat.reduceBNe, Nat.reduceShiftRight, Nat.reduceAnd, Nat.reduceOr, Nat.reduceBneDiff, bne_self_eq_false, Nat.reduceLT, ↓reduceIte, reduceCtorEq, Int.reduceToNat, Int.reduceNeg, Int.reduceLT, Int.reduceLE, decide_true, decide_false, Int.cast_ofNat_Int, Int.reduceEq, Int.reduceNe, Int.reduceGT, Int.reduceGE, Int.reduceAdd, Int.reduceSub, Int.reduceMul, Bool.and_true, Bool.true_and, Bool.and_false, Bool.false_and, Bool.not_true, Bool.not_false]
      exact hQ _ _ rfl
  · have pw := round_alt hx hy (by omega)
    have pv := round_join hx hy (by omega)
    simp only [List.cons_append, List.nil_append, List.append_assoc] at pw pv
    rw [pw] at m9
    obtain ⟨w9, rfl, L9⟩ := m9
    simp (disch := first | done | ((try simp only [Heap.add_nxt, Heap.put_nxt, Heap.del_nxt, bump_nxt]) <;> omega) | fail) only [go_sem, Nat.reduceAdd, Nat.reduceSub, Nat.reduceMul, Nat.reduceMod, Nat.reduceGT, Nat.reduceLeDiff, Nat.reduceEqDiff, Nat.reduceBEq, Nat.reduceBNe, Nat.reduceShiftRight, Nat.reduceAnd, Nat.reduceOr, Nat.reduceBneDiff, bne_self_eq_false, Nat.reduceLT, ↓reduceIte, reduceCtorEq, Int.reduceToNat, Int.reduceNeg, Int.reduceLT, Int.reduceLE, decide_true, decide_false, Int.cast_ofNat_Int, Int.reduceEq, Int.reduceNe, Int.reduceGT, Int.reduceGE, Int.reduceAdd, Int.reduceSub, Int.reduceMul, Bool.and_true, Bool.true_and, Bool.and_false, Bool.false_and, Bool.not_true, Bool.not_false, a1, b3, b4, b5]
    obtain ⟨Y9, leY9, nY9, lw9, uY9⟩ := L9.frz
    refine callV_ofU F_24 rfl (UF.less leY9 ((parse_uf (s := 40 :: (s ++ 41 :: 40 :: (t ++ [41])))).mono ?_))
    rintro v10 h10 ⟨e10, m10⟩
    rw [pv] at m10
    obtain ⟨w10, rfl, L10⟩ := m10
    have lx10 := (lx9.pst uY9.pst).ext e10
    have lz10 := (lz9.pst uY9.pst).ext e10
    have ly10 := (ly9.pst uY9.pst).ext e10
    have lw10 := lw9.ext e10
    simp (disch := first | done | ((try simp only [Heap.add_nxt, Heap.put_nxt, Heap.del_nxt, bump_nxt]) <;> omega) | fail) only [go_sem, Nat.reduceAdd, Nat.reduceSub, Nat.reduceMul, Nat.reduceMod, Nat.reduceGT, Nat.reduceLeDiff, Nat.reduceEqDiff, Nat.reduceBEq, Nat.reduceBNe, Nat.reduceShiftRight, Nat.reduceAnd, Nat.reduceOr, Nat.reduceBneDiff, bne_self_eq_false, Nat.reduceLT, ↓reduceIte, reduceCtorEq, Int.reduceToNat, Int.reduceNeg, Int.reduceLT, Int.reduceLE, decide_true, decide_false, Int.cast_ofNat_Int, Int.reduceEq, Int.reduceNe, Int.reduceGT, Int.reduceGE, Int.reduceAdd, Int.reduceSub, Int.reduceMul, Bool.and_true, Bool.true_and, Bool.and_false, Bool.false_and, Bool.not_true, Bool.not_false, hbig]
    have nilG : ∀ {m : Nat} {hh : Heap} {b : Nat}, LGrow (α := Item) m hh (.slc (some (b, 0)) 0 (some 0) 2) [] := fun {m hh b} => .inl ⟨[], .inl ⟨rfl, some (b, 0), 2, rfl, fun _ => rfl⟩, .nil⟩
    obtain ⟨za, zn, zc, zz, rfl, hzn⟩ := lx10.form
    obtain ⟨ya, yn, yc, yz, rfl, hyn⟩ := ly10.form
    refine gappend (m := h10.nxt) (xs := []) (ys := x) T_28 rfl T_35 rfl (by decide) (by decide) nilG (lx10.ext (Ext.add _ _)).slc (by simp) (by simp [roomA]; omega) ?_
    intro v11 h11 L11 u11 b11
    have p11 : Pst h10 h11 := (Ext.add _ _).pst.trans u11.pst
    obtain ⟨va, vn, vc, vz, rfl, hvn⟩ := L11.form
    have n11 := u11.nxt
    simp only [Heap.add_nxt] at n11
    simp (disch := first | done | ((try simp only [Heap.add_nxt, Heap.put_nxt, Heap.del_nxt, bump_nxt]) <;> omega) | fail) only [go_sem, Nat.reduceAdd, Nat.reduceSub, Nat.reduceMul, Nat.reduceMod, Nat.reduceGT, Nat.reduceLeDiff, Nat.reduceEqDiff, Nat.reduceBEq, Nat.reduceBNe, Nat.reduceShiftRight, Nat.reduceAnd, Nat.reduceOr, Nat.reduceBneDiff, bne_self_eq_false, Nat.reduceLT, ↓reduceIte, reduceCtorEq, Int.reduceToNat, Int.reduceNeg, Int.reduceLT, Int.reduceLE, decide_true, decide_false, Int.cast_ofNat_Int, Int.reduceEq, Int.reduceNe, Int.reduceGT, Int.reduceGE, Int.reduceAdd, Int.reduceSub, Int.reduceMul, Bool.and_true, Bool.true_and, Bool.and_false, Bool.false_and, Bool.not_true, Bool.not_false]
    refine gappend (m := h10.nxt) (xs := [] ++ x) (ys := y) T_28 rfl T_35 rfl (by decide) (by decide) L11 (ly10.pst p11).slc (by omega) (by simp [roomA]; omega) ?_
    intro v12 h12 L12 u12 b12
    have p12 : Pst h10 h12 := p11.trans u12.pst
    have n12 := u12.nxt
    rw [List.nil_append] at L12
    obtain ⟨wa, wn, wc, wz, rfl, hwn⟩ := L12.form
    simp (disch := first | done | ((try simp only [Heap.add_nxt, Heap.put_nxt, Heap.del_nxt, bump_nxt]) <;> omega) | fail) only [go_sem, Nat.reduceAdd, Nat.reduceSub, Nat.reduceMul, Nat.reduceMod, Nat.reduceGT, Nat.reduceLeDiff, Nat.reduceEqDiff, Nat.reduceBEq, Nat.reduceBNe, Nat.reduceShiftRight, Nat.reduceAnd, Nat.reduceOr, Nat.reduceBneDiff, bne_self_eq_false, Nat.reduceLT, ↓reduceIte, reduceCtorEq, Int.reduceToNat, Int.reduceNeg, Int.reduceLT, Int.reduceLE, decide_true, decide_false, Int.cast_ofNat_Int, Int.reduceEq, Int.reduceNe, Int.reduceGT, Int.reduceGE, Int.reduceAdd, Int.reduceSub, Int.reduceMul, Bool.and_true, Bool.true_and, Bool.and_false, Bool.false_and, Bool.not_true, Bool.not_false]
    obtain ⟨Yb, leYb, nYb, lb, uYb⟩ := L12.frz
    have U12 : Upd (fun b => h10.nxt ≤ b) h10 h12 := (((Ext.add _ _).upd _).trans (u11.weak fun b _ e => by simp [AV.blk] at e)).trans (u12.weak fun b _ e => L11.blk e)
    have L10' := (L10.upd U12 fun b _ e hb => by have := L10.lt e; omega).upd uYb fun b _ e hb => by have := L10.lt e; have := hb.1; omega
    obtain ⟨Yc, leYc, nYc, lc, uYc⟩ := L10'.frz
    have pb' : Pst h10 Yc := (p12.trans uYb.pst).trans uYc.pst
    refine callV_ofU F_26 rfl (UF.less (leYc.trans leYb) ((SameItems_uf (lx10.pst pb').slc (lz10.pst pb').slc (by omega) (by omega) (fun y hy => by have := (gx y hy).1; omega)).mono ?_))
    rintro v13 h13 ⟨e13, rfl⟩
    have p13 : Pst h10 h13 := pb'.trans e13.pst
    obtain ⟨r1, r2, r3, r4, rfl, r5⟩ := L10.form
    have lb13 := (lb.pst uYc.pst).ext e13
    have lc13 := lc.ext e13
    have hxy : (x ++ y).length ≤ 100 := by simp; omega
    obtain ⟨fw1, fw2, _⟩ := parse_few pw
    obtain ⟨fv1, fv2, _⟩ := parse_few pv
    obtain ⟨q1, q2, q3, q4, rfl, q5⟩ := lw10.form
    simp (disch := first | done | ((try simp only [Heap.add_nxt, Heap.put_nxt, Heap.del_nxt, bump_nxt]) <;> omega) | fail) only [go_sem, Nat.reduceAdd, Nat.reduceSub, Nat.reduceMul, Nat.reduceMod, Nat.reduceGT, Nat.reduceLeDiff, Nat.reduceEqDiff, Nat.reduceBEq, Nat.reduceBNe, Nat.reduceShiftRight, Nat.reduceAnd, Nat.reduceOr, Nat.reduceBneDiff, bne_self_eq_false, Nat.reduceLT, ↓reduceIte, reduceCtorEq, Int.reduceToNat, Int.reduceNeg, Int.reduceLT, Int.reduceLE, decide_true, decide_false, Int.cast_ofNat_Int, Int.reduceEq, Int.reduceNe, Int.reduceGT, Int.reduceGE, Int.reduceAdd, Int.reduceSub, Int.reduceMul, Bool.and_true, Bool.true_and, Bool.and_false, Bool.false_and, Bool.not_true, Bool.not_false]
    refine gappend (m := h13.nxt) (xs := []) (ys := x ++ y) T_28 rfl T_35 rfl (by decide) (by decide) nilG (lb13.ext (Ext.add _ _)).slc (by simp) (by simp [roomA]; omega) ?_
    intro v14 h14 L14 u14 b14
    have p14 : Pst h13 h14 := (Ext.add _ _).pst.trans u14.pst
    have n14 := u14.nxt
    simp only [Heap.add_nxt] at n14
    obtain ⟨va, vn, vc, vz, rfl, hvn⟩ := L14.form
    simp (disch := first | done | ((try simp only [Heap.add_nxt, Heap.put_nxt, Heap.del_nxt, bump_nxt]) <;> omega) | fail) only [go_sem, Nat.reduceAdd, Nat.reduceSub, Nat.reduceMul, Nat.reduceMod, Nat.reduceGT, Nat.reduceLeDiff, Nat.reduceEqDiff, Nat.reduceBEq, Nat.reduceBNe, Nat.reduceShiftRight, Nat.reduceAnd, Nat.reduceOr, Nat.reduceBneDiff, bne_self_eq_false, Nat.reduceLT, ↓reduceIte, reduceCtorEq, Int.reduceToNat, Int.reduceNeg, Int.reduceLT, Int.reduceLE, decide_true, decide_false, Int.cast_ofNat_Int, Int.reduceEq, Int.reduceNe, Int.reduceGT, Int.reduceGE, Int.reduceAdd, Int.reduceSub, Int.reduceMul, Bool.and_true, Bool.true_and, Bool.and_false, Bool.false_and, Bool.not_true, Bool.not_false]
    refine gappend (m := h13.nxt) (xs := [] ++ (x ++ y)) (ys := [(⟨3, []⟩ : Item)]) T_28 rfl T_35 rfl (by decide) (by decide) (L14.ext (Ext.add _ _)) (LSlc.lit (b := h14.nxt) (ls := [[.int .i64 3, .slc none 0 (some 0) 0]]) (by simp) get_add_self rfl (Reps.one (x := (⟨3, []⟩ : Item)) ⟨_, rfl, Lst.nil⟩) rfl rfl) (by simp; omega) (by simp [roomA]; omega) ?_
    intro v15 h15 L15 u15 b15
    have p15 : Pst h13 h15 := p14.trans ((Ext.add _ _).pst.trans u15.pst)
    rw [List.nil_append] at L15
    obtain ⟨sa, sn, sc, sz, rfl, hsn⟩ := L15.form
    simp (disch := first | done | ((try simp only [Heap.add_nxt, Heap.put_nxt, Heap.del_nxt, bump_nxt]) <;> omega) | fail) only [go_sem, Nat.reduceAdd, Nat.reduceSub, Nat.reduceMul, Nat.reduceMod, Nat.reduceGT, Nat.reduceLeDiff, Nat.reduceEqDiff, Nat.reduceBEq, Nat.reduceBNe, Nat.reduceShiftRight, Nat.reduceAnd, Nat.reduceOr, Nat.reduceBneDiff, bne_self_eq_false, Nat.reduceLT, ↓reduceIte, reduceCtorEq, Int.reduceToNat, Int.reduceNeg, Int.reduceLT, Int.reduceLE, decide_true, decide_false, Int.cast_ofNat_Int, Int.reduceEq, Int.reduceNe, Int.reduceGT, Int.reduceGE, Int.reduceAdd, Int.reduceSub, Int.reduceMul, Bool.and_true, Bool.true_and, Bool.and_false, Bool.false_and, Bool.not_true, Bool.not_false]
    refine callV_ofU F_26 rfl ((SameItems_uf (lw10.pst (p13.trans p15)).slc L15.own.slc (by simp at fw1 ⊢; omega) (by simp at fw1 ⊢; omega) (fun y hy => by have := (fw2 y (by simpa using hy)).1; omega)).mono ?_)
    rintro v16 h16 ⟨e16, rfl⟩
    simp (disch := first | done | ((try simp only [Heap.add_nxt, Heap.put_nxt, Heap.del_nxt, bump_nxt]) <;> omega) | fail) only [go_sem, Nat.reduceAdd, Nat.reduceSub, Nat.reduceMul, Nat.reduceMod, Nat.reduceGT, Nat.reduceLeDiff, Nat.reduceEqDiff, Nat.reduceBEq, Nat.reduceBNe, Nat.reduceShiftRight, Nat.reduceAnd, Nat.reduceOr, Nat.reduceBneDiff, bne_self_eq_false, Nat.reduceLT, ↓reduceIte, reduceCtorEq, Int.reduceToNat, Int.reduceNeg, Int.reduceLT, Int.reduceLE, decide_true, decide_false, Int.cast_ofNat_Int, Int.reduceEq, Int.reduceNe, Int.reduceGT, Int.reduceGE, Int.reduceAdd, Int.reduceSub, Int.reduceMul, Bool.and_true, Bool.true_and, Bool.and_false, Bool.false_and, Bool.not_true, Bool.not_false]
    have lb16 := lb13.pst (p15.trans e16.pst)
    simp (disch := first | done | ((try simp only [Heap.add_nxt, Heap.put_nxt, Heap.del_nxt, bump_nxt]) <;> omega) | fail) only [go_sem, Nat.reduceAdd, Nat.reduceSub, Nat.reduceMul, Nat.reduceMod, Nat.reduceGT, Nat.reduceLeDiff, Nat.reduceEqDiff, Nat.reduceBEq, Nat.reduceBNe, Nat.reduceShiftRight, Nat.reduceAnd, Nat.reduceOr, Nat.reduceBneDiff, bne_self_eq_false, Nat.reduceLT, ↓reduceIte, reduceCtorEq, Int.reduceToNat, Int.reduceNeg, Int.reduceLT, Int.reduceLE, decide_true, decide_false, Int.cast_ofNat_Int, Int.reduceEq, Int.reduceNe, Int.reduceGT, Int.reduceGE, Int.reduceAdd, Int.reduceSub, Int.reduceMul, Bool.and_true, Bool.true_and, Bool.and_false, Bool.false_and, Bool.not_true, Bool.not_false, List.append_assoc]
    refine gappend (m := h16.nxt) (xs := []) (ys := x ++ y) T_28 rfl T_35 rfl (by decide) (by decide) nilG (lb16.ext (Ext.add _ _)).slc (by simp) (by simp [roomA]; omega) ?_
    intro v17 h17 L17 u17 b17
    have p17 : Pst h16 h17 := (Ext.add _ _).pst.trans u17.pst
    have n17 := u17.nxt
    simp only [Heap.add_nxt] at n17
    obtain ⟨va, vn, vc, vz, rfl, hvn⟩ := L17.form
    simp (disch := first | done | ((try simp only [Heap.add_nxt, Heap.put_nxt, Heap.del_nxt, bump_nxt]) <;> omega) | fail) only [go_sem, Nat.reduceAdd, Nat.reduceSub, Nat.reduceMul, Nat.reduceMod, Nat.reduceGT, Nat.reduceLeDiff, Nat.reduceEqDiff, Nat.reduceBEq, Nat.reduceBNe, Nat.reduceShiftRight, Nat.reduceAnd, Nat.reduceOr, Nat.reduceBneDiff, bne_self_eq_false, Nat.reduceLT, ↓reduceIte, reduceCtorEq, Int.reduceToNat, Int.reduceNeg, Int.reduceLT, Int.reduceLE, decide_true, decide_false, Int.cast_ofNat_Int, Int.reduceEq, Int.reduceNe, Int.reduceGT, Int.reduceGE, Int.reduceAdd, Int.reduceSub, Int.reduceMul, Bool.and_true, Bool.true_and, Bool.and_false, Bool.false_and, Bool.not_true, Bool.not_false]
    refine gappend (m := h16.nxt) (xs := [] ++ (x ++ y)) (ys := [(⟨2, []⟩ : Item)]) T_28 rfl T_35 rfl (by decide) (by decide) (L17.ext (Ext.add _ _)) (LSlc.lit (b := h17.nxt) (ls := [[.int .i64 2, .slc none 0 (some 0) 0]]) (by simp) get_add_self rfl (Reps.one (x := (⟨2, []⟩ : Item)) ⟨_, rfl, Lst.nil⟩) rfl rfl) (by simp; omega) (by simp [roomA]; omega) ?_
    intro v18 h18 L18 u18 b18
    have p18 : Pst h16 h18 := p17.trans ((Ext.add _ _).pst.trans u18.pst)
    rw [List.nil_append] at L18
    obtain ⟨sa, sn, sc, sz, rfl, hsn⟩ := L18.form
    simp (disch := first | done | ((try simp only [Heap.add_nxt, Heap.put_nxt, Heap.del_nxt, bump_nxt]) <;> omega) | fail) only [go_sem, Nat.reduceAdd, Nat.reduceSub, Nat.reduceMul, Nat.reduceMod, Nat.reduceGT, Nat.reduceLeDiff, Nat.reduceEqDiff, Nat.reduceBEq, Nat.reduceBNe, Nat.reduceShiftRight, Nat.reduceAnd, Nat.reduceOr, Nat.reduceBneDiff, bne_self_eq_false, Nat.reduceLT, ↓reduceIte, reduceCtorEq, Int.reduceToNat, Int.reduceNeg, Int.reduceLT, Int.reduceLE, decide_true, decide_false, Int.cast_ofNat_Int, Int.reduceEq, Int.reduceNe, Int.reduceGT, Int.reduceGE, Int.reduceAdd, Int.reduceSub, Int.reduceMul, Bool.and_true, Bool.true_and, Bool.and_false, Bool.false_and, Bool.not_true, Bool.not_false]
    refine callV_ofU F_26 rfl ((SameItems_uf (lc13.pst ((p15.trans e16.pst).trans p18)).slc L18.own.slc (by simp at fv1 ⊢; omega) (by simp at fv1 ⊢; omega) (fun y hy => by have := (fv2 y (by simpa using hy)).1; omega)).mono ?_)
    rintro v19 h19 ⟨e19, rfl⟩
    simp (disch := first | done | ((try simp only [Heap.add_nxt, Heap.put_nxt, Heap.del_nxt, bump_nxt]) <;> omega) | fail) only [go_sem, Nat.reduceAdd, Nat.reduceSub, Nat.reduceMul, Nat.reduceMod, Nat.reduceGT, Nat.reduceLeDiff, Nat.reduceEqDiff, Nat.reduceBEq, Nat.reduceBNe, Nat.reduceShiftRight, Nat.reduceAnd, Nat.reduceOr, Nat.reduceBneDiff, bne_self_eq_false, Nat.reduceLT, ↓reduceIte, reduceCtorEq, Int.reduceToNat, Int.reduceNeg, Int.reduceLT, Int.reduceLE, decide_true, decide_false, Int.cast_ofNat_Int, Int.reduceEq, Int.reduceNe, Int.reduceGT, Int.reduceGE, Int.reduceAdd, Int.reduceSub, Int.reduceMul, Bool.and_true, Bool.true_and, Bool.and_false, Bool.false_and, Bool.not_true, Bool.not_false]
    exact hQ _ _ (by simp)

theorem RexRound_law {h : Heap} {v w : AV} {zs ys : List Int} (hv : Slc h v 1 (zs.map fun z => [.int .u8 z])) (hb : ∀ z ∈ zs, IntKind.u8.min ≤ z ∧ z ≤ IntKind.u8.max) (hw : Slc h w 1 (ys.map fun z => [.int .u8 z])) (hc : ∀ z ∈ ys, IntKind.u8.min ≤ z ∧ z ≤ IntKind.u8.max) :
    WF T F 6 [v, w] h fun v' h' => v' = .bool true := by
  obtain ⟨l, _, L⟩ := bytes_lst hv hb
  obtain ⟨ys', rfl⟩ := u8s_of hc
  rw [List.map_map] at hw
  have W0 : LSlc h w ys' := ⟨_, hw, reps_u8 h ys'⟩
  have W1 : LSlc (h.frzV v) w ys' := by
    obtain ⟨ls, a, b⟩ := W0
    refine ⟨ls, ?_, b.pst (frzV_pst _ _)⟩
    rcases a with a | ⟨b', o, cap, cs, wr, rfl, hb', hc'⟩
    · exact .inl a
    · by_cases he : v.base = some b'
      · have hg : ∃ wr', (h.frzV v).get b' = some (.cells cs wr') := by
          unfold Heap.frzV
          split
          · rename_i b2 _ _ _ _
            simp only [AV.base, Option.some.injEq] at he
            subst he
            exact ⟨false, frz_eq hb'.get⟩
          · exact ⟨wr, hb'.get⟩
        obtain ⟨wr', hg⟩ := hg
        exact .inr ⟨b', o, cap, cs, wr', rfl, ⟨by simpa using hb'.lt, hg, hb'.len, hb'.room, hb'.win⟩, hc'⟩
      · exact .inr ⟨b', o, cap, cs, wr, rfl, ⟨by simpa using hb'.lt, by rw [frzV_ne he]; exact hb'.get, hb'.len, hb'.room, hb'.win⟩, hc'⟩
  have W2 := W1.frz
  exact UF.toW (UF.less ((frzV_le _ _).trans (frzV_le h v)) (RexRound_uf (L.pst (frzV_pst _ _)) W2))

end Go.Proofs.Ytenpjkinpecnfaa
