/-
  The law UndoAll: what it comes to.
-/
import Derived.Test.YtibehogiobencaaUndoBegun
namespace Go.Proofs.Ytibehogiobencaa
open Go Go.Am
set_option maxRecDepth 100000
set_option maxHeartbeats 4000000
set_option linter.unusedSimpArgs false
set_option linter.unusedVariables false

def U1 (xs : List Int) : List (List AV) := xs.map fun x => [.int .u8 x]
@[simp, go_sem] theorem U1_len (xs : List Int) : (U1 xs).length = xs.length := by simp [U1]

/-- What stands ahead of each deed: k is where the history's box stands. -/
structure UInv (h1 : Heap) (k : Nat) (p q pv nv : AV) (P N : List Int) (h2 : Heap) : Prop where
  lt : k < h2.nxt
  old : ∀ b, b < k → h2.get b = h1.get b
  box : h2.get k = some (.cells [p, q] true)
  fp : Fresh (k + 1) h2 p 1 (I1 P)
  fq : Fresh (k + 1) h2 q 1 (I1 N)
  fv : Fresh (k + 1) h2 pv 1 (I1 P)
  fn : Fresh (k + 1) h2 nv 1 (I1 N)
  s1 : ∀ b, pv.blk = some b → p.blk ≠ some b ∧ q.blk ≠ some b ∧ nv.blk ≠ some b
  s2 : ∀ b, nv.blk = some b → p.blk ≠ some b ∧ q.blk ≠ some b

theorem form2 {m : Nat} {h : Heap} {v : AV} {xs : List Int} (s : Fresh m h v 1 (I1 xs)) : ∃ a n c z, v = .slc a n c z ∧ n = xs.length := by
  obtain ⟨a, c, z, e⟩ := form1 s
  exact ⟨a, _, c, z, e, rfl⟩
theorem UInv.ext {h1 h2 h3 : Heap} {k : Nat} {p q pv nv : AV} {P N : List Int} (U : UInv h1 k p q pv nv P N h2) (e : Ext h2 h3) : UInv h1 k p q pv nv P N h3 :=
  ⟨Nat.lt_of_lt_of_le U.lt e.nxt, fun b hb => (e.get b (Nat.lt_trans hb U.lt)).trans (U.old b hb), (e.get k U.lt).trans U.box, U.fp.ext e, U.fq.ext e, U.fv.ext e, U.fn.ext e, U.s1, U.s2⟩
theorem fresh_lt {m : Nat} {h : Heap} {v : AV} {sz : Nat} {ls : List (List AV)} (s : Fresh m h v sz ls) {b : Nat} (e : v.blk = some b) : b < h.nxt := by
  rcases s with ⟨_, a, z, rfl, _⟩ | ⟨b', o, cs, rfl, hm, hb⟩
  · cases a <;> simp [AV.blk] at e
  · simp [AV.blk] at e; subst e; exact hb.lt
theorem fresh_app {m : Nat} {H h4 : Heap} {w pv : AV} {sz : Nat} {ls : List (List AV)} (s : Fresh m H w sz ls) (hn : H.nxt ≤ h4.nxt) (hk : ∀ b, b < H.nxt → pv.blk ≠ some b → h4.get b = H.get b) (hd : ∀ b, w.blk = some b → pv.blk ≠ some b) : Fresh m h4 w sz ls :=
  s.keep hn fun b _ hb hw => hk b hb (hd b hw)
theorem ne_of_lt {m : Nat} {h : Heap} {v : AV} {sz : Nat} {ls : List (List AV)} (s : Fresh m h v sz ls) {b : Nat} (hb : b < m) : v.blk ≠ some b := fun e => by have := s.blk e; omega

/-- The history's box is written anew. -/
theorem UInv.box' {h1 h2 h3 : Heap} {k : Nat} {p q pv nv p' q' : AV} {P N P' N' : List Int} (U : UInv h1 k p q pv nv P N h2) (e : Ext h2 h3) (fp : Fresh h2.nxt h3 p' 1 (I1 P')) (fq : Fresh h2.nxt h3 q' 1 (I1 N')) :
    let H := h3.put k (.cells [p', q'] true)
    k < H.nxt ∧ (∀ b, b < k → H.get b = h1.get b) ∧ H.get k = some (.cells [p', q'] true) ∧ Fresh (k + 1) H p' 1 (I1 P') ∧ Fresh (k + 1) H q' 1 (I1 N') ∧ Fresh (k + 1) H pv 1 (I1 P) ∧ Fresh (k + 1) H nv 1 (I1 N) ∧
      (∀ b, pv.blk = some b → p'.blk ≠ some b ∧ q'.blk ≠ some b ∧ nv.blk ≠ some b) ∧ (∀ b, nv.blk = some b → p'.blk ≠ some b ∧ q'.blk ≠ some b) := by
  have V := U.ext e
  have hlt := U.lt
  refine ⟨V.lt, fun b hb => ?_, ?_, (fp.put hlt _).le hlt, (fq.put hlt _).le hlt, V.fv.put (by omega) _, V.fn.put (by omega) _, fun b hb => ?_, fun b hb => ?_⟩
  · rw [Heap.get_put, if_neg (by omega)]; exact V.old b hb
  · rw [Heap.get_put, if_pos rfl]
  · have := fresh_lt U.fv hb
    exact ⟨ne_of_lt fp this, ne_of_lt fq this, (U.s1 b hb).2.2⟩
  · have := fresh_lt U.fn hb
    exact ⟨ne_of_lt fp this, ne_of_lt fq this⟩

theorem UndoAll_wf {h : Heap} {v : AV} {bs : List Int} (hv : Slc h v 1 (U1 bs)) (hb : ∀ b ∈ bs, IntKind.u8.min ≤ b ∧ b ≤ IntKind.u8.max) : WF T F 3 [v] h fun v' h' => v' = .bool true := by
  obtain ⟨a, c, z, rfl⟩ := hv.form
  rw [U1_len] at hv
  refine WF.gen fun Q hQ => WF.of (F_3) (c := _) rfl ?_
  unfold Try.f3
  simp only [List.length, Nat.reduceSub, Nat.reduceAdd, List.replicate, List.cons_append, List.nil_append]
  simp (disch := first | done | ((try simp only [Heap.add_nxt, Heap.put_nxt, Heap.del_nxt, bump_nxt]) <;> omega) | fail) only [go_sem, Nat.reduceAdd, Nat.reduceSub, Nat.reduceMul, Nat.reduceMod, Nat.reduceGT, Nat.reduceLeDiff, Nat.reduceEqDiff, Nat.reduceBEq, Nat.reduceBNe, Nat.reduceShiftRight, Nat.reduceAnd, Nat.reduceOr, Nat.reduceBneDiff, bne_self_eq_false, Nat.reduceLT, ↓reduceIte, reduceCtorEq, Int.reduceToNat, Int.reduceNeg, Int.reduceLT, Int.reduceLE, decide_true, decide_false, Int.cast_ofNat_Int, Int.reduceEq, Int.reduceNe, Int.reduceGT, Int.reduceGE, Int.reduceAdd, Int.reduceSub, Int.reduceMul, Bool.and_true, Bool.true_and, Bool.and_false, Bool.false_and, Bool.not_true, Bool.not_false]
  refine callV_of F_14 rfl (begun_wf.mono ?_)
  rintro v1 h1 ⟨e1, rfl⟩
  simp (disch := first | done | ((try simp only [Heap.add_nxt, Heap.put_nxt, Heap.del_nxt, bump_nxt]) <;> omega) | fail) only [go_sem, Nat.reduceAdd, Nat.reduceSub, Nat.reduceMul, Nat.reduceMod, Nat.reduceGT, Nat.reduceLeDiff, Nat.reduceEqDiff, Nat.reduceBEq, Nat.reduceBNe, Nat.reduceShiftRight, Nat.reduceAnd, Nat.reduceOr, Nat.reduceBneDiff, bne_self_eq_false, Nat.reduceLT, ↓reduceIte, reduceCtorEq, Int.reduceToNat, Int.reduceNeg, Int.reduceLT, Int.reduceLE, decide_true, decide_false, Int.cast_ofNat_Int, Int.reduceEq, Int.reduceNe, Int.reduceGT, Int.reduceGE, Int.reduceAdd, Int.reduceSub, Int.reduceMul, Bool.and_true, Bool.true_and, Bool.and_false, Bool.false_and, Bool.not_true, Bool.not_false]
  refine condK_dec (fun hlen => ?_) (fun hlen => ?_)
  · simp (disch := first | done | ((try simp only [Heap.add_nxt, Heap.put_nxt, Heap.del_nxt, bump_nxt]) <;> omega) | fail) only [go_sem, Nat.reduceAdd, Nat.reduceSub, Nat.reduceMul, Nat.reduceMod, Nat.reduceGT, Nat.reduceLeDiff, Nat.reduceEqDiff, Nat.reduceBEq, Nat.reduceBNe, Nat.reduceShiftRight, Nat.reduceAnd, Nat.reduceOr, Nat.reduceBneDiff, bne_self_eq_false, Nat.reduceLT, ↓reduceIte, reduceCtorEq, Int.reduceToNat, Int.reduceNeg, Int.reduceLT, Int.reduceLE, decide_true, decide_false, Int.cast_ofNat_Int, Int.reduceEq, Int.reduceNe, Int.reduceGT, Int.reduceGE, Int.reduceAdd, Int.reduceSub, Int.reduceMul, Bool.and_true, Bool.true_and, Bool.and_false, Bool.false_and, Bool.not_true, Bool.not_false]
    exact hQ _ _ rfl
  · simp (disch := first | done | ((try simp only [Heap.add_nxt, Heap.put_nxt, Heap.del_nxt, bump_nxt]) <;> omega) | fail) only [go_sem, Nat.reduceAdd, Nat.reduceSub, Nat.reduceMul, Nat.reduceMod, Nat.reduceGT, Nat.reduceLeDiff, Nat.reduceEqDiff, Nat.reduceBEq, Nat.reduceBNe, Nat.reduceShiftRight, Nat.reduceAnd, Nat.reduceOr, Nat.reduceBneDiff, bne_self_eq_false, Nat.reduceLT, ↓reduceIte, reduceCtorEq, Int.reduceToNat, Int.reduceNeg, Int.reduceLT, Int.reduceLE, decide_true, decide_false, Int.cast_ofNat_Int, Int.reduceEq, Int.reduceNe, Int.reduceGT, Int.reduceGE, Int.reduceAdd, Int.reduceSub, Int.reduceMul, Bool.and_true, Bool.true_and, Bool.and_false, Bool.false_and, Bool.not_true, Bool.not_false]
    refine LoopK_while (fun m s h2 => ∃ (i : Nat) (P N : List Int) (p q pv nv : AV) (now : Int), UInv h1 h1.nxt p q pv nv P N h2 ∧ P.length + N.length ≤ 20 ∧ i ≤ bs.length ∧ m = bs.length - i ∧
      Keep s 128 [(0, .slc a bs.length c z), (2, .bool false), (3, .ptr (some (h1.nxt, 0))), (4, pv), (5, nv), (6, .int .i64 now), (7, .int .i64 i)]) bs.length ?_ ?_
    · refine ⟨0, [], [], _, _, _, _, 0, ⟨?_, ?_, ?_, Fresh.nil, Fresh.nil, Fresh.nil, Fresh.nil, ?_, ?_⟩, by simp, by simp, rfl, rfl, by simp [Has]⟩
      · simp
      · intro b hb; rw [Heap.get_put, if_neg (by omega), Heap.get_add, if_neg (by omega)]
      · rw [Heap.get_put, if_pos rfl]
      · intro b hb; simp [AV.blk] at hb
      · intro b hb; simp [AV.blk] at hb
    rintro m s h2 ⟨i, P, N, p, q, pv, nv, now, U, hPN, hi, rfl, hk⟩
    have hP : P.length ≤ 20 := by omega
    have hN : N.length ≤ 20 := by omega
    rw [hk.eq]
    obtain ⟨k0, k2, k3, k4, k5, k6, k7, -⟩ := hk.2
    simp only [slotsFrom, Nat.reduceAdd] at k0 k2 k3 k4 k5 k6 k7 ⊢
    simp only [k0, k2, k3, k4, k5, k6, k7]
    simp (disch := first | done | ((try simp only [Heap.add_nxt, Heap.put_nxt, Heap.del_nxt, bump_nxt]) <;> omega) | fail) only [go_sem, Nat.reduceAdd, Nat.reduceSub, Nat.reduceMul, Nat.reduceMod, Nat.reduceGT, Nat.reduceLeDiff, Nat.reduceEqDiff, Nat.reduceBEq, Nat.reduceBNe, Nat.reduceShiftRight, Nat.reduceAnd, Nat.reduceOr, Nat.reduceBneDiff, bne_self_eq_false, Nat.reduceLT, ↓reduceIte, reduceCtorEq, Int.reduceToNat, Int.reduceNeg, Int.reduceLT, Int.reduceLE, decide_true, decide_false, Int.cast_ofNat_Int, Int.reduceEq, Int.reduceNe, Int.reduceGT, Int.reduceGE, Int.reduceAdd, Int.reduceSub, Int.reduceMul, Bool.and_true, Bool.true_and, Bool.and_false, Bool.false_and, Bool.not_true, Bool.not_false]
    refine condK_dec (fun hlt => ?_) (fun hge => ?_)
    · have hlt : i < bs.length := by omega
      obtain ⟨b1, o1, cs1, wr1, rfl, rfl, hb1, hg1, hc1⟩ := hv.at1 (by simp; omega)
      have g1 : h2.get b1 = _ := (U.old _ (Nat.lt_of_lt_of_le hb1 e1.nxt)).trans ((e1.get _ hb1).trans hg1)
      have c1 := hc1 i (.int .u8 bs[i]) (by simp [U1, hlt])
      simp (disch := first | done | ((try simp only [Heap.add_nxt, Heap.put_nxt, Heap.del_nxt, bump_nxt]) <;> omega) | fail) only [go_sem, Nat.reduceAdd, Nat.reduceSub, Nat.reduceMul, Nat.reduceMod, Nat.reduceGT, Nat.reduceLeDiff, Nat.reduceEqDiff, Nat.reduceBEq, Nat.reduceBNe, Nat.reduceShiftRight, Nat.reduceAnd, Nat.reduceOr, Nat.reduceBneDiff, bne_self_eq_false, Nat.reduceLT, ↓reduceIte, reduceCtorEq, Int.reduceToNat, Int.reduceNeg, Int.reduceLT, Int.reduceLE, decide_true, decide_false, Int.cast_ofNat_Int, Int.reduceEq, Int.reduceNe, Int.reduceGT, Int.reduceGE, Int.reduceAdd, Int.reduceSub, Int.reduceMul, Bool.and_true, Bool.true_and, Bool.and_false, Bool.false_and, Bool.not_true, Bool.not_false, g1, Int.toNat_natCast, c1]
      refine condK_dec (fun h0 => ?_) (fun h0 => ?_)
      · simp (disch := first | done | ((try simp only [Heap.add_nxt, Heap.put_nxt, Heap.del_nxt, bump_nxt]) <;> omega) | fail) only [go_sem, Nat.reduceAdd, Nat.reduceSub, Nat.reduceMul, Nat.reduceMod, Nat.reduceGT, Nat.reduceLeDiff, Nat.reduceEqDiff, Nat.reduceBEq, Nat.reduceBNe, Nat.reduceShiftRight, Nat.reduceAnd, Nat.reduceOr, Nat.reduceBneDiff, bne_self_eq_false, Nat.reduceLT, ↓reduceIte, reduceCtorEq, Int.reduceToNat, Int.reduceNeg, Int.reduceLT, Int.reduceLE, decide_true, decide_false, Int.cast_ofNat_Int, Int.reduceEq, Int.reduceNe, Int.reduceGT, Int.reduceGE, Int.reduceAdd, Int.reduceSub, Int.reduceMul, Bool.and_true, Bool.true_and, Bool.and_false, Bool.false_and, Bool.not_true, Bool.not_false, h0, U.box]
        refine callV_of F_15 rfl ((Do_wf (ps := P) (ns := N) ⟨_, _, rfl, U.fp.le (Nat.zero_le _), U.fq.le (Nat.zero_le _)⟩ (by omega)).mono ?_)
        rintro v3 h3 ⟨e3, p3, q3, rfl, fp3, fq3⟩
        obtain ⟨p3a, p3n, p3c, p3z, rfl, hp3⟩ := form2 fp3
        obtain ⟨q3a, q3n, q3c, q3z, rfl, hq3⟩ := form2 fq3
        obtain ⟨B1, B2, B3, B4, B5, B6, B7, B8, B9⟩ := U.box' e3 fp3 fq3
        have b3 := (U.ext e3).box
        simp (disch := first | done | ((try simp only [Heap.add_nxt, Heap.put_nxt, Heap.del_nxt, bump_nxt]) <;> omega) | fail) only [go_sem, Nat.reduceAdd, Nat.reduceSub, Nat.reduceMul, Nat.reduceMod, Nat.reduceGT, Nat.reduceLeDiff, Nat.reduceEqDiff, Nat.reduceBEq, Nat.reduceBNe, Nat.reduceShiftRight, Nat.reduceAnd, Nat.reduceOr, Nat.reduceBneDiff, bne_self_eq_false, Nat.reduceLT, ↓reduceIte, reduceCtorEq, Int.reduceToNat, Int.reduceNeg, Int.reduceLT, Int.reduceLE, decide_true, decide_false, Int.cast_ofNat_Int, Int.reduceEq, Int.reduceNe, Int.reduceGT, Int.reduceGE, Int.reduceAdd, Int.reduceSub, Int.reduceMul, Bool.and_true, Bool.true_and, Bool.and_false, Bool.false_and, Bool.not_true, Bool.not_false, b3]
        refine append_k (m := h1.nxt + 1) (sz := 1) (ls := I1 P) (new := [[.int .i64 now]]) T_24 rfl T_3 rfl (by decide) (by decide) ((B6.ext (Ext.add _ _)).own) (Slc.lit (ls := [[.int .i64 now]]) (by simp)) (by simp) (by simp [AV.leaf]) (by simp at B1 ⊢; omega) (by simp [roomA]; omega) ?_
        intro v4 h4 n4 r4 c4
        rcases c4 with c4 | ⟨_, m4, b4⟩
        · simp at c4
        have x4 : ∀ b, b < h3.nxt → pv.blk ≠ some b → h4.get b = (h3.put h1.nxt (.cells [.slc p3a p3n p3c p3z, .slc q3a q3n q3c q3z] true)).get b := fun b hb hne => by
          rw [r4 b (by simp; omega) hne, Heap.get_add, if_neg (by simp; omega)]
        have n4' : h3.nxt ≤ h4.nxt := by simp at n4; omega
        have hk0 := U.lt
        have hk3 := e3.nxt
        have m4' : Mine (h1.nxt + 1) h4 v4 1 (I1 (P ++ [now])) := by simpa [I1] using m4
        have UU : ∀ (w : AV) (P' : List Int), P' = (P ++ [now]).drop ((P ++ [now]).length - 20) → Fresh (h1.nxt + 1) h4 w 1 (I1 P') → (∀ b, w.blk = some b → h3.nxt ≤ b) → UInv h1 h1.nxt _ _ w (.slc none 0 (some 0) 0) P' [] h4 := fun w P' hP' fw bw => by
          subst hP'
          refine ⟨by omega, fun b hb => ?_, ?_, fresh_app B4 n4' x4 fun b h1 h2 => (B8 b h2).1 h1, fresh_app B5 n4' x4 fun b h1 h2 => (B8 b h2).2.1 h1, fw, Fresh.nil, fun b hb => ⟨fun e => ?_, fun e => ?_, by simp [AV.blk]⟩, fun b hb => by simp [AV.blk] at hb⟩
          · rw [x4 b (by omega) (ne_of_lt U.fv (by omega))]; exact B2 b hb
          · rw [x4 _ (by omega) (ne_of_lt U.fv (by omega))]; exact B3
          · have h1 := fresh_lt fp3 e; have h2 := bw b hb; omega
          · have h1 := fresh_lt fq3 e; have h2 := bw b hb; omega
        have b4' : ∀ b, v4.blk = some b → h3.nxt ≤ b := fun b hb => by have := b4 b hb; simp at this; omega
        obtain ⟨v4a, v4n, v4c, v4z, rfl, hv4⟩ := form2 m4'.fresh
        rw [List.length_append] at hv4; simp at hv4
        simp (disch := first | done | ((try simp only [Heap.add_nxt, Heap.put_nxt, Heap.del_nxt, bump_nxt]) <;> omega) | fail) only [go_sem, Nat.reduceAdd, Nat.reduceSub, Nat.reduceMul, Nat.reduceMod, Nat.reduceGT, Nat.reduceLeDiff, Nat.reduceEqDiff, Nat.reduceBEq, Nat.reduceBNe, Nat.reduceShiftRight, Nat.reduceAnd, Nat.reduceOr, Nat.reduceBneDiff, bne_self_eq_false, Nat.reduceLT, ↓reduceIte, reduceCtorEq, Int.reduceToNat, Int.reduceNeg, Int.reduceLT, Int.reduceLE, decide_true, decide_false, Int.cast_ofNat_Int, Int.reduceEq, Int.reduceNe, Int.reduceGT, Int.reduceGE, Int.reduceAdd, Int.reduceSub, Int.reduceMul, Bool.and_true, Bool.true_and, Bool.and_false, Bool.false_and, Bool.not_true, Bool.not_false]
        refine condK_dec (fun hgt => ?_) (fun hle => ?_)
        · simp (disch := first | done | ((try simp only [Heap.add_nxt, Heap.put_nxt, Heap.del_nxt, bump_nxt]) <;> omega) | fail) only [go_sem, Nat.reduceAdd, Nat.reduceSub, Nat.reduceMul, Nat.reduceMod, Nat.reduceGT, Nat.reduceLeDiff, Nat.reduceEqDiff, Nat.reduceBEq, Nat.reduceBNe, Nat.reduceShiftRight, Nat.reduceAnd, Nat.reduceOr, Nat.reduceBneDiff, bne_self_eq_false, Nat.reduceLT, ↓reduceIte, reduceCtorEq, Int.reduceToNat, Int.reduceNeg, Int.reduceLT, Int.reduceLE, decide_true, decide_false, Int.cast_ofNat_Int, Int.reduceEq, Int.reduceNe, Int.reduceGT, Int.reduceGE, Int.reduceAdd, Int.reduceSub, Int.reduceMul, Bool.and_true, Bool.true_and, Bool.and_false, Bool.false_and, Bool.not_true, Bool.not_false]
          refine mine_lo m4' T_24 rfl T_3 rfl (by omega) (by simp <;> omega) ?_
          intro v5 m5 k5
          have e5 : (I1 (P ++ [now])).drop (1 : Int).toNat = I1 ((P ++ [now]).drop 1) := by simp only [I1, ← List.map_drop]; rfl
          rw [e5] at m5
          have U' := UU v5 ((P ++ [now]).drop 1) (by rw [show (P ++ [now]).length - 20 = 1 by simp; omega]) m5.fresh (fun b hb => b4' b (by rw [← k5]; exact hb))
          obtain ⟨v5a, v5n, v5c, v5z, rfl, hv5⟩ := form2 m5.fresh
          simp (disch := first | done | ((try simp only [Heap.add_nxt, Heap.put_nxt, Heap.del_nxt, bump_nxt]) <;> omega) | fail) only [go_sem, Nat.reduceAdd, Nat.reduceSub, Nat.reduceMul, Nat.reduceMod, Nat.reduceGT, Nat.reduceLeDiff, Nat.reduceEqDiff, Nat.reduceBEq, Nat.reduceBNe, Nat.reduceShiftRight, Nat.reduceAnd, Nat.reduceOr, Nat.reduceBneDiff, bne_self_eq_false, Nat.reduceLT, ↓reduceIte, reduceCtorEq, Int.reduceToNat, Int.reduceNeg, Int.reduceLT, Int.reduceLE, decide_true, decide_false, Int.cast_ofNat_Int, Int.reduceEq, Int.reduceNe, Int.reduceGT, Int.reduceGE, Int.reduceAdd, Int.reduceSub, Int.reduceMul, Bool.and_true, Bool.true_and, Bool.and_false, Bool.false_and, Bool.not_true, Bool.not_false, U'.box]
          refine callV_of F_18 rfl ((Same_wf U'.fp.slc U'.fv.slc (by first | omega | (simp <;> omega)) (by first | omega | (simp <;> omega))).mono ?_)
          rintro v6 h6 ⟨e6, rfl⟩
          have U6 := U'.ext e6
          simp (disch := first | done | ((try simp only [Heap.add_nxt, Heap.put_nxt, Heap.del_nxt, bump_nxt]) <;> omega) | fail) only [go_sem, Nat.reduceAdd, Nat.reduceSub, Nat.reduceMul, Nat.reduceMod, Nat.reduceGT, Nat.reduceLeDiff, Nat.reduceEqDiff, Nat.reduceBEq, Nat.reduceBNe, Nat.reduceShiftRight, Nat.reduceAnd, Nat.reduceOr, Nat.reduceBneDiff, bne_self_eq_false, Nat.reduceLT, ↓reduceIte, reduceCtorEq, Int.reduceToNat, Int.reduceNeg, Int.reduceLT, Int.reduceLE, decide_true, decide_false, Int.cast_ofNat_Int, Int.reduceEq, Int.reduceNe, Int.reduceGT, Int.reduceGE, Int.reduceAdd, Int.reduceSub, Int.reduceMul, Bool.and_true, Bool.true_and, Bool.and_false, Bool.false_and, Bool.not_true, Bool.not_false, U6.box]
          refine callV_of F_18 rfl ((Same_wf U6.fq.slc U6.fn.slc (by first | omega | (simp <;> omega)) (by first | omega | (simp <;> omega))).mono ?_)
          rintro v7 h7 ⟨e7, rfl⟩
          simp (disch := first | done | ((try simp only [Heap.add_nxt, Heap.put_nxt, Heap.del_nxt, bump_nxt]) <;> omega) | fail) only [go_sem, Nat.reduceAdd, Nat.reduceSub, Nat.reduceMul, Nat.reduceMod, Nat.reduceGT, Nat.reduceLeDiff, Nat.reduceEqDiff, Nat.reduceBEq, Nat.reduceBNe, Nat.reduceShiftRight, Nat.reduceAnd, Nat.reduceOr, Nat.reduceBneDiff, bne_self_eq_false, Nat.reduceLT, ↓reduceIte, reduceCtorEq, Int.reduceToNat, Int.reduceNeg, Int.reduceLT, Int.reduceLE, decide_true, decide_false, Int.cast_ofNat_Int, Int.reduceEq, Int.reduceNe, Int.reduceGT, Int.reduceGE, Int.reduceAdd, Int.reduceSub, Int.reduceMul, Bool.and_true, Bool.true_and, Bool.and_false, Bool.false_and, Bool.not_true, Bool.not_false]
          exact AgainK.mk (bs.length - (i + 1)) (by simp; omega) ⟨i + 1, (P ++ [now]).drop 1, [], _, _, _, _, ((i + 1 : Nat) : Int), U6.ext e7, by first | omega | (simp <;> omega), by omega, rfl, rfl, by simp [Has]⟩
        · simp (disch := first | done | ((try simp only [Heap.add_nxt, Heap.put_nxt, Heap.del_nxt, bump_nxt]) <;> omega) | fail) only [go_sem, Nat.reduceAdd, Nat.reduceSub, Nat.reduceMul, Nat.reduceMod, Nat.reduceGT, Nat.reduceLeDiff, Nat.reduceEqDiff, Nat.reduceBEq, Nat.reduceBNe, Nat.reduceShiftRight, Nat.reduceAnd, Nat.reduceOr, Nat.reduceBneDiff, bne_self_eq_false, Nat.reduceLT, ↓reduceIte, reduceCtorEq, Int.reduceToNat, Int.reduceNeg, Int.reduceLT, Int.reduceLE, decide_true, decide_false, Int.cast_ofNat_Int, Int.reduceEq, Int.reduceNe, Int.reduceGT, Int.reduceGE, Int.reduceAdd, Int.reduceSub, Int.reduceMul, Bool.and_true, Bool.true_and, Bool.and_false, Bool.false_and, Bool.not_true, Bool.not_false]
          have U' := UU _ (P ++ [now]) (by rw [show (P ++ [now]).length - 20 = 0 by simp; omega]; rfl) m4'.fresh b4'
          simp (disch := first | done | ((try simp only [Heap.add_nxt, Heap.put_nxt, Heap.del_nxt, bump_nxt]) <;> omega) | fail) only [go_sem, Nat.reduceAdd, Nat.reduceSub, Nat.reduceMul, Nat.reduceMod, Nat.reduceGT, Nat.reduceLeDiff, Nat.reduceEqDiff, Nat.reduceBEq, Nat.reduceBNe, Nat.reduceShiftRight, Nat.reduceAnd, Nat.reduceOr, Nat.reduceBneDiff, bne_self_eq_false, Nat.reduceLT, ↓reduceIte, reduceCtorEq, Int.reduceToNat, Int.reduceNeg, Int.reduceLT, Int.reduceLE, decide_true, decide_false, Int.cast_ofNat_Int, Int.reduceEq, Int.reduceNe, Int.reduceGT, Int.reduceGE, Int.reduceAdd, Int.reduceSub, Int.reduceMul, Bool.and_true, Bool.true_and, Bool.and_false, Bool.false_and, Bool.not_true, Bool.not_false, U'.box]
          refine callV_of F_18 rfl ((Same_wf U'.fp.slc U'.fv.slc (by first | omega | (simp <;> omega)) (by first | omega | (simp <;> omega))).mono ?_)
          rintro v6 h6 ⟨e6, rfl⟩
          have U6 := U'.ext e6
          simp (disch := first | done | ((try simp only [Heap.add_nxt, Heap.put_nxt, Heap.del_nxt, bump_nxt]) <;> omega) | fail) only [go_sem, Nat.reduceAdd, Nat.reduceSub, Nat.reduceMul, Nat.reduceMod, Nat.reduceGT, Nat.reduceLeDiff, Nat.reduceEqDiff, Nat.reduceBEq, Nat.reduceBNe, Nat.reduceShiftRight, Nat.reduceAnd, Nat.reduceOr, Nat.reduceBneDiff, bne_self_eq_false, Nat.reduceLT, ↓reduceIte, reduceCtorEq, Int.reduceToNat, Int.reduceNeg, Int.reduceLT, Int.reduceLE, decide_true, decide_false, Int.cast_ofNat_Int, Int.reduceEq, Int.reduceNe, Int.reduceGT, Int.reduceGE, Int.reduceAdd, Int.reduceSub, Int.reduceMul, Bool.and_true, Bool.true_and, Bool.and_false, Bool.false_and, Bool.not_true, Bool.not_false, U6.box]
          refine callV_of F_18 rfl ((Same_wf U6.fq.slc U6.fn.slc (by first | omega | (simp <;> omega)) (by first | omega | (simp <;> omega))).mono ?_)
          rintro v7 h7 ⟨e7, rfl⟩
          simp (disch := first | done | ((try simp only [Heap.add_nxt, Heap.put_nxt, Heap.del_nxt, bump_nxt]) <;> omega) | fail) only [go_sem, Nat.reduceAdd, Nat.reduceSub, Nat.reduceMul, Nat.reduceMod, Nat.reduceGT, Nat.reduceLeDiff, Nat.reduceEqDiff, Nat.reduceBEq, Nat.reduceBNe, Nat.reduceShiftRight, Nat.reduceAnd, Nat.reduceOr, Nat.reduceBneDiff, bne_self_eq_false, Nat.reduceLT, ↓reduceIte, reduceCtorEq, Int.reduceToNat, Int.reduceNeg, Int.reduceLT, Int.reduceLE, decide_true, decide_false, Int.cast_ofNat_Int, Int.reduceEq, Int.reduceNe, Int.reduceGT, Int.reduceGE, Int.reduceAdd, Int.reduceSub, Int.reduceMul, Bool.and_true, Bool.true_and, Bool.and_false, Bool.false_and, Bool.not_true, Bool.not_false]
          exact AgainK.mk (bs.length - (i + 1)) (by simp; omega) ⟨i + 1, P ++ [now], [], _, _, _, _, ((i + 1 : Nat) : Int), U6.ext e7, by first | omega | (simp <;> omega), by omega, rfl, rfl, by simp [Has]⟩
      · simp (disch := first | done | ((try simp only [Heap.add_nxt, Heap.put_nxt, Heap.del_nxt, bump_nxt]) <;> omega) | fail) only [go_sem, Nat.reduceAdd, Nat.reduceSub, Nat.reduceMul, Nat.reduceMod, Nat.reduceGT, Nat.reduceLeDiff, Nat.reduceEqDiff, Nat.reduceBEq, Nat.reduceBNe, Nat.reduceShiftRight, Nat.reduceAnd, Nat.reduceOr, Nat.reduceBneDiff, bne_self_eq_false, Nat.reduceLT, ↓reduceIte, reduceCtorEq, Int.reduceToNat, Int.reduceNeg, Int.reduceLT, Int.reduceLE, decide_true, decide_false, Int.cast_ofNat_Int, Int.reduceEq, Int.reduceNe, Int.reduceGT, Int.reduceGE, Int.reduceAdd, Int.reduceSub, Int.reduceMul, Bool.and_true, Bool.true_and, Bool.and_false, Bool.false_and, Bool.not_true, Bool.not_false]
        refine condK_dec (fun h0 => ?_) (fun h01 => ?_)
        · simp (disch := first | done | ((try simp only [Heap.add_nxt, Heap.put_nxt, Heap.del_nxt, bump_nxt]) <;> omega) | fail) only [go_sem, Nat.reduceAdd, Nat.reduceSub, Nat.reduceMul, Nat.reduceMod, Nat.reduceGT, Nat.reduceLeDiff, Nat.reduceEqDiff, Nat.reduceBEq, Nat.reduceBNe, Nat.reduceShiftRight, Nat.reduceAnd, Nat.reduceOr, Nat.reduceBneDiff, bne_self_eq_false, Nat.reduceLT, ↓reduceIte, reduceCtorEq, Int.reduceToNat, Int.reduceNeg, Int.reduceLT, Int.reduceLE, decide_true, decide_false, Int.cast_ofNat_Int, Int.reduceEq, Int.reduceNe, Int.reduceGT, Int.reduceGE, Int.reduceAdd, Int.reduceSub, Int.reduceMul, Bool.and_true, Bool.true_and, Bool.and_false, Bool.false_and, Bool.not_true, Bool.not_false, h0, U.box]
          refine callV_of F_15 rfl ((Do_wf (ps := P) (ns := N) ⟨_, _, rfl, U.fp.le (Nat.zero_le _), U.fq.le (Nat.zero_le _)⟩ (by omega)).mono ?_)
          rintro v3 h3 ⟨e3, p3, q3, rfl, fp3, fq3⟩
          obtain ⟨p3a, p3n, p3c, p3z, rfl, hp3⟩ := form2 fp3
          obtain ⟨q3a, q3n, q3c, q3z, rfl, hq3⟩ := form2 fq3
          obtain ⟨B1, B2, B3, B4, B5, B6, B7, B8, B9⟩ := U.box' e3 fp3 fq3
          have b3 := (U.ext e3).box
          simp (disch := first | done | ((try simp only [Heap.add_nxt, Heap.put_nxt, Heap.del_nxt, bump_nxt]) <;> omega) | fail) only [go_sem, Nat.reduceAdd, Nat.reduceSub, Nat.reduceMul, Nat.reduceMod, Nat.reduceGT, Nat.reduceLeDiff, Nat.reduceEqDiff, Nat.reduceBEq, Nat.reduceBNe, Nat.reduceShiftRight, Nat.reduceAnd, Nat.reduceOr, Nat.reduceBneDiff, bne_self_eq_false, Nat.reduceLT, ↓reduceIte, reduceCtorEq, Int.reduceToNat, Int.reduceNeg, Int.reduceLT, Int.reduceLE, decide_true, decide_false, Int.cast_ofNat_Int, Int.reduceEq, Int.reduceNe, Int.reduceGT, Int.reduceGE, Int.reduceAdd, Int.reduceSub, Int.reduceMul, Bool.and_true, Bool.true_and, Bool.and_false, Bool.false_and, Bool.not_true, Bool.not_false, b3]
          refine append_k (m := h1.nxt + 1) (sz := 1) (ls := I1 P) (new := [[.int .i64 now]]) T_24 rfl T_3 rfl (by decide) (by decide) ((B6.ext (Ext.add _ _)).own) (Slc.lit (ls := [[.int .i64 now]]) (by simp)) (by simp) (by simp [AV.leaf]) (by simp at B1 ⊢; omega) (by simp [roomA]; omega) ?_
          intro v4 h4 n4 r4 c4
          rcases c4 with c4 | ⟨_, m4, b4⟩
          · simp at c4
          have x4 : ∀ b, b < h3.nxt → pv.blk ≠ some b → h4.get b = (h3.put h1.nxt (.cells [.slc p3a p3n p3c p3z, .slc q3a q3n q3c q3z] true)).get b := fun b hb hne => by
            rw [r4 b (by simp; omega) hne, Heap.get_add, if_neg (by simp; omega)]
          have n4' : h3.nxt ≤ h4.nxt := by simp at n4; omega
          have hk0 := U.lt
          have hk3 := e3.nxt
          have m4' : Mine (h1.nxt + 1) h4 v4 1 (I1 (P ++ [now])) := by simpa [I1] using m4
          have UU : ∀ (w : AV) (P' : List Int), P' = (P ++ [now]).drop ((P ++ [now]).length - 20) → Fresh (h1.nxt + 1) h4 w 1 (I1 P') → (∀ b, w.blk = some b → h3.nxt ≤ b) → UInv h1 h1.nxt _ _ w (.slc none 0 (some 0) 0) P' [] h4 := fun w P' hP' fw bw => by
            subst hP'
            refine ⟨by omega, fun b hb => ?_, ?_, fresh_app B4 n4' x4 fun b h1 h2 => (B8 b h2).1 h1, fresh_app B5 n4' x4 fun b h1 h2 => (B8 b h2).2.1 h1, fw, Fresh.nil, fun b hb => ⟨fun e => ?_, fun e => ?_, by simp [AV.blk]⟩, fun b hb => by simp [AV.blk] at hb⟩
            · rw [x4 b (by omega) (ne_of_lt U.fv (by omega))]; exact B2 b hb
            · rw [x4 _ (by omega) (ne_of_lt U.fv (by omega))]; exact B3
            · have h1 := fresh_lt fp3 e; have h2 := bw b hb; omega
            · have h1 := fresh_lt fq3 e; have h2 := bw b hb; omega
          have b4' : ∀ b, v4.blk = some b → h3.nxt ≤ b := fun b hb => by have := b4 b hb; simp at this; omega
          obtain ⟨v4a, v4n, v4c, v4z, rfl, hv4⟩ := form2 m4'.fresh
          rw [List.length_append] at hv4; simp at hv4
          simp (disch := first | done | ((try simp only [Heap.add_nxt, Heap.put_nxt, Heap.del_nxt, bump_nxt]) <;> omega) | fail) only [go_sem, Nat.reduceAdd, Nat.reduceSub, Nat.reduceMul, Nat.reduceMod, Nat.reduceGT, Nat.reduceLeDiff, Nat.reduceEqDiff, Nat.reduceBEq, Nat.reduceBNe, Nat.reduceShiftRight, Nat.reduceAnd, Nat.reduceOr, Nat.reduceBneDiff, bne_self_eq_false, Nat.reduceLT, ↓reduceIte, reduceCtorEq, Int.reduceToNat, Int.reduceNeg, Int.reduceLT, Int.reduceLE, decide_true, decide_false, Int.cast_ofNat_Int, Int.reduceEq, Int.reduceNe, Int.reduceGT, Int.reduceGE, Int.reduceAdd, Int.reduceSub, Int.reduceMul, Bool.and_true, Bool.true_and, Bool.and_false, Bool.false_and, Bool.not_true, Bool.not_false]
          refine condK_dec (fun hgt => ?_) (fun hle => ?_)
          · simp (disch := first | done | ((try simp only [Heap.add_nxt, Heap.put_nxt, Heap.del_nxt, bump_nxt]) <;> omega) | fail) only [go_sem, Nat.reduceAdd, Nat.reduceSub, Nat.reduceMul, Nat.reduceMod, Nat.reduceGT, Nat.reduceLeDiff, Nat.reduceEqDiff, Nat.reduceBEq, Nat.reduceBNe, Nat.reduceShiftRight, Nat.reduceAnd, Nat.reduceOr, Nat.reduceBneDiff, bne_self_eq_false, Nat.reduceLT, ↓reduceIte, reduceCtorEq, Int.reduceToNat, Int.reduceNeg, Int.reduceLT, Int.reduceLE, decide_true, decide_false, Int.cast_ofNat_Int, Int.reduceEq, Int.reduceNe, Int.reduceGT, Int.reduceGE, Int.reduceAdd, Int.reduceSub, Int.reduceMul, Bool.and_true, Bool.true_and, Bool.and_false, Bool.false_and, Bool.not_true, Bool.not_false]
            refine mine_lo m4' T_24 rfl T_3 rfl (by omega) (by simp <;> omega) ?_
            intro v5 m5 k5
            have e5 : (I1 (P ++ [now])).drop (1 : Int).toNat = I1 ((P ++ [now]).drop 1) := by simp only [I1, ← List.map_drop]; rfl
            rw [e5] at m5
            have U' := UU v5 ((P ++ [now]).drop 1) (by rw [show (P ++ [now]).length - 20 = 1 by simp; omega]) m5.fresh (fun b hb => b4' b (by rw [← k5]; exact hb))
            obtain ⟨v5a, v5n, v5c, v5z, rfl, hv5⟩ := form2 m5.fresh
            simp (disch := first | done | ((try simp only [Heap.add_nxt, Heap.put_nxt, Heap.del_nxt, bump_nxt]) <;> omega) | fail) only [go_sem, Nat.reduceAdd, Nat.reduceSub, Nat.reduceMul, Nat.reduceMod, Nat.reduceGT, Nat.reduceLeDiff, Nat.reduceEqDiff, Nat.reduceBEq, Nat.reduceBNe, Nat.reduceShiftRight, Nat.reduceAnd, Nat.reduceOr, Nat.reduceBneDiff, bne_self_eq_false, Nat.reduceLT, ↓reduceIte, reduceCtorEq, Int.reduceToNat, Int.reduceNeg, Int.reduceLT, Int.reduceLE, decide_true, decide_false, Int.cast_ofNat_Int, Int.reduceEq, Int.reduceNe, Int.reduceGT, Int.reduceGE, Int.reduceAdd, Int.reduceSub, Int.reduceMul, Bool.and_true, Bool.true_and, Bool.and_false, Bool.false_and, Bool.not_true, Bool.not_false, U'.box]
            refine callV_of F_18 rfl ((Same_wf U'.fp.slc U'.fv.slc (by first | omega | (simp <;> omega)) (by first | omega | (simp <;> omega))).mono ?_)
            rintro v6 h6 ⟨e6, rfl⟩
            have U6 := U'.ext e6
            simp (disch := first | done | ((try simp only [Heap.add_nxt, Heap.put_nxt, Heap.del_nxt, bump_nxt]) <;> omega) | fail) only [go_sem, Nat.reduceAdd, Nat.reduceSub, Nat.reduceMul, Nat.reduceMod, Nat.reduceGT, Nat.reduceLeDiff, Nat.reduceEqDiff, Nat.reduceBEq, Nat.reduceBNe, Nat.reduceShiftRight, Nat.reduceAnd, Nat.reduceOr, Nat.reduceBneDiff, bne_self_eq_false, Nat.reduceLT, ↓reduceIte, reduceCtorEq, Int.reduceToNat, Int.reduceNeg, Int.reduceLT, Int.reduceLE, decide_true, decide_false, Int.cast_ofNat_Int, Int.reduceEq, Int.reduceNe, Int.reduceGT, Int.reduceGE, Int.reduceAdd, Int.reduceSub, Int.reduceMul, Bool.and_true, Bool.true_and, Bool.and_false, Bool.false_and, Bool.not_true, Bool.not_false, U6.box]
            refine callV_of F_18 rfl ((Same_wf U6.fq.slc U6.fn.slc (by first | omega | (simp <;> omega)) (by first | omega | (simp <;> omega))).mono ?_)
            rintro v7 h7 ⟨e7, rfl⟩
            simp (disch := first | done | ((try simp only [Heap.add_nxt, Heap.put_nxt, Heap.del_nxt, bump_nxt]) <;> omega) | fail) only [go_sem, Nat.reduceAdd, Nat.reduceSub, Nat.reduceMul, Nat.reduceMod, Nat.reduceGT, Nat.reduceLeDiff, Nat.reduceEqDiff, Nat.reduceBEq, Nat.reduceBNe, Nat.reduceShiftRight, Nat.reduceAnd, Nat.reduceOr, Nat.reduceBneDiff, bne_self_eq_false, Nat.reduceLT, ↓reduceIte, reduceCtorEq, Int.reduceToNat, Int.reduceNeg, Int.reduceLT, Int.reduceLE, decide_true, decide_false, Int.cast_ofNat_Int, Int.reduceEq, Int.reduceNe, Int.reduceGT, Int.reduceGE, Int.reduceAdd, Int.reduceSub, Int.reduceMul, Bool.and_true, Bool.true_and, Bool.and_false, Bool.false_and, Bool.not_true, Bool.not_false]
            exact AgainK.mk (bs.length - (i + 1)) (by simp; omega) ⟨i + 1, (P ++ [now]).drop 1, [], _, _, _, _, ((i + 1 : Nat) : Int), U6.ext e7, by first | omega | (simp <;> omega), by omega, rfl, rfl, by simp [Has]⟩
          · simp (disch := first | done | ((try simp only [Heap.add_nxt, Heap.put_nxt, Heap.del_nxt, bump_nxt]) <;> omega) | fail) only [go_sem, Nat.reduceAdd, Nat.reduceSub, Nat.reduceMul, Nat.reduceMod, Nat.reduceGT, Nat.reduceLeDiff, Nat.reduceEqDiff, Nat.reduceBEq, Nat.reduceBNe, Nat.reduceShiftRight, Nat.reduceAnd, Nat.reduceOr, Nat.reduceBneDiff, bne_self_eq_false, Nat.reduceLT, ↓reduceIte, reduceCtorEq, Int.reduceToNat, Int.reduceNeg, Int.reduceLT, Int.reduceLE, decide_true, decide_false, Int.cast_ofNat_Int, Int.reduceEq, Int.reduceNe, Int.reduceGT, Int.reduceGE, Int.reduceAdd, Int.reduceSub, Int.reduceMul, Bool.and_true, Bool.true_and, Bool.and_false, Bool.false_and, Bool.not_true, Bool.not_false]
            have U' := UU _ (P ++ [now]) (by rw [show (P ++ [now]).length - 20 = 0 by simp; omega]; rfl) m4'.fresh b4'
            simp (disch := first | done | ((try simp only [Heap.add_nxt, Heap.put_nxt, Heap.del_nxt, bump_nxt]) <;> omega) | fail) only [go_sem, Nat.reduceAdd, Nat.reduceSub, Nat.reduceMul, Nat.reduceMod, Nat.reduceGT, Nat.reduceLeDiff, Nat.reduceEqDiff, Nat.reduceBEq, Nat.reduceBNe, Nat.reduceShiftRight, Nat.reduceAnd, Nat.reduceOr, Nat.reduceBneDiff, bne_self_eq_false, Nat.reduceLT, ↓reduceIte, reduceCtorEq, Int.reduceToNat, Int.reduceNeg, Int.reduceLT, Int.reduceLE, decide_true, decide_false, Int.cast_ofNat_Int, Int.reduceEq, Int.reduceNe, Int.reduceGT, Int.reduceGE, Int.reduceAdd, Int.reduceSub, Int.reduceMul, Bool.and_true, Bool.true_and, Bool.and_false, Bool.false_and, Bool.not_true, Bool.not_false, U'.box]
            refine callV_of F_18 rfl ((Same_wf U'.fp.slc U'.fv.slc (by first | omega | (simp <;> omega)) (by first | omega | (simp <;> omega))).mono ?_)
            rintro v6 h6 ⟨e6, rfl⟩
            have U6 := U'.ext e6
            simp (disch := first | done | ((try simp only [Heap.add_nxt, Heap.put_nxt, Heap.del_nxt, bump_nxt]) <;> omega) | fail) only [go_sem, Nat.reduceAdd, Nat.reduceSub, Nat.reduceMul, Nat.reduceMod, Nat.reduceGT, Nat.reduceLeDiff, Nat.reduceEqDiff, Nat.reduceBEq, Nat.reduceBNe, Nat.reduceShiftRight, Nat.reduceAnd, Nat.reduceOr, Nat.reduceBneDiff, bne_self_eq_false, Nat.reduceLT, ↓reduceIte, reduceCtorEq, Int.reduceToNat, Int.reduceNeg, Int.reduceLT, Int.reduceLE, decide_true, decide_false, Int.cast_ofNat_Int, Int.reduceEq, Int.reduceNe, Int.reduceGT, Int.reduceGE, Int.reduceAdd, Int.reduceSub, Int.reduceMul, Bool.and_true, Bool.true_and, Bool.and_false, Bool.false_and, Bool.not_true, Bool.not_false, U6.box]
            refine callV_of F_18 rfl ((Same_wf U6.fq.slc U6.fn.slc (by first | omega | (simp <;> omega)) (by first | omega | (simp <;> omega))).mono ?_)
            rintro v7 h7 ⟨e7, rfl⟩
            simp (disch := first | done | ((try simp only [Heap.add_nxt, Heap.put_nxt, Heap.del_nxt, bump_nxt]) <;> omega) | fail) only [go_sem, Nat.reduceAdd, Nat.reduceSub, Nat.reduceMul, Nat.reduceMod, Nat.reduceGT, Nat.reduceLeDiff, Nat.reduceEqDiff, Nat.reduceBEq, Nat.reduceBNe, Nat.reduceShiftRight, Nat.reduceAnd, Nat.reduceOr, Nat.reduceBneDiff, bne_self_eq_false, Nat.reduceLT, ↓reduceIte, reduceCtorEq, Int.reduceToNat, Int.reduceNeg, Int.reduceLT, Int.reduceLE, decide_true, decide_false, Int.cast_ofNat_Int, Int.reduceEq, Int.reduceNe, Int.reduceGT, Int.reduceGE, Int.reduceAdd, Int.reduceSub, Int.reduceMul, Bool.and_true, Bool.true_and, Bool.and_false, Bool.false_and, Bool.not_true, Bool.not_false]
            exact AgainK.mk (bs.length - (i + 1)) (by simp; omega) ⟨i + 1, P ++ [now], [], _, _, _, _, ((i + 1 : Nat) : Int), U6.ext e7, by first | omega | (simp <;> omega), by omega, rfl, rfl, by simp [Has]⟩
        · simp (disch := first | done | ((try simp only [Heap.add_nxt, Heap.put_nxt, Heap.del_nxt, bump_nxt]) <;> omega) | fail) only [go_sem, Nat.reduceAdd, Nat.reduceSub, Nat.reduceMul, Nat.reduceMod, Nat.reduceGT, Nat.reduceLeDiff, Nat.reduceEqDiff, Nat.reduceBEq, Nat.reduceBNe, Nat.reduceShiftRight, Nat.reduceAnd, Nat.reduceOr, Nat.reduceBneDiff, bne_self_eq_false, Nat.reduceLT, ↓reduceIte, reduceCtorEq, Int.reduceToNat, Int.reduceNeg, Int.reduceLT, Int.reduceLE, decide_true, decide_false, Int.cast_ofNat_Int, Int.reduceEq, Int.reduceNe, Int.reduceGT, Int.reduceGE, Int.reduceAdd, Int.reduceSub, Int.reduceMul, Bool.and_true, Bool.true_and, Bool.and_false, Bool.false_and, Bool.not_true, Bool.not_false, h0, h01]
          refine condK_dec (fun h0 => ?_) (fun h02 => ?_)
          · simp (disch := first | done | ((try simp only [Heap.add_nxt, Heap.put_nxt, Heap.del_nxt, bump_nxt]) <;> omega) | fail) only [go_sem, Nat.reduceAdd, Nat.reduceSub, Nat.reduceMul, Nat.reduceMod, Nat.reduceGT, Nat.reduceLeDiff, Nat.reduceEqDiff, Nat.reduceBEq, Nat.reduceBNe, Nat.reduceShiftRight, Nat.reduceAnd, Nat.reduceOr, Nat.reduceBneDiff, bne_self_eq_false, Nat.reduceLT, ↓reduceIte, reduceCtorEq, Int.reduceToNat, Int.reduceNeg, Int.reduceLT, Int.reduceLE, decide_true, decide_false, Int.cast_ofNat_Int, Int.reduceEq, Int.reduceNe, Int.reduceGT, Int.reduceGE, Int.reduceAdd, Int.reduceSub, Int.reduceMul, Bool.and_true, Bool.true_and, Bool.and_false, Bool.false_and, Bool.not_true, Bool.not_false, h0, U.box]
            refine callV_of F_16 rfl ((Undo_wf (ps := P) (ns := N) ⟨_, _, rfl, U.fp.le (Nat.zero_le _), U.fq.le (Nat.zero_le _)⟩ (by omega) (by omega)).mono ?_)
            rintro v3 h3 ⟨e3, hc⟩
            have U3 := U.ext e3
            obtain ⟨pva, pvn, pvc, pvz, rfl, hpv⟩ := form2 U.fv
            rcases hc with ⟨rfl, x, rfl, p3, q3, rfl, fp3, fq3⟩ | ⟨was, x, hw, rfl, p3, q3, rfl, fp3, fq3⟩
            · obtain ⟨p3a, p3n, p3c, p3z, rfl, hp3⟩ := form2 fp3
              obtain ⟨q3a, q3n, q3c, q3z, rfl, hq3⟩ := form2 fq3
              simp at hpv
              subst hpv
              simp (disch := first | done | ((try simp only [Heap.add_nxt, Heap.put_nxt, Heap.del_nxt, bump_nxt]) <;> omega) | fail) only [go_sem, Nat.reduceAdd, Nat.reduceSub, Nat.reduceMul, Nat.reduceMod, Nat.reduceGT, Nat.reduceLeDiff, Nat.reduceEqDiff, Nat.reduceBEq, Nat.reduceBNe, Nat.reduceShiftRight, Nat.reduceAnd, Nat.reduceOr, Nat.reduceBneDiff, bne_self_eq_false, Nat.reduceLT, ↓reduceIte, reduceCtorEq, Int.reduceToNat, Int.reduceNeg, Int.reduceLT, Int.reduceLE, decide_true, decide_false, Int.cast_ofNat_Int, Int.reduceEq, Int.reduceNe, Int.reduceGT, Int.reduceGE, Int.reduceAdd, Int.reduceSub, Int.reduceMul, Bool.and_true, Bool.true_and, Bool.and_false, Bool.false_and, Bool.not_true, Bool.not_false]
              have U' := U3.ext ((Ext.add h3 (Blk.cells [AV.slc none 0 (some 0) 0, AV.slc none 0 (some 0) 0] true)).put (Nat.le_refl h3.nxt) (x := Blk.cells [AV.slc p3a p3n p3c p3z, AV.slc q3a q3n q3c q3z] true))
              simp (disch := first | done | ((try simp only [Heap.add_nxt, Heap.put_nxt, Heap.del_nxt, bump_nxt]) <;> omega) | fail) only [go_sem, Nat.reduceAdd, Nat.reduceSub, Nat.reduceMul, Nat.reduceMod, Nat.reduceGT, Nat.reduceLeDiff, Nat.reduceEqDiff, Nat.reduceBEq, Nat.reduceBNe, Nat.reduceShiftRight, Nat.reduceAnd, Nat.reduceOr, Nat.reduceBneDiff, bne_self_eq_false, Nat.reduceLT, ↓reduceIte, reduceCtorEq, Int.reduceToNat, Int.reduceNeg, Int.reduceLT, Int.reduceLE, decide_true, decide_false, Int.cast_ofNat_Int, Int.reduceEq, Int.reduceNe, Int.reduceGT, Int.reduceGE, Int.reduceAdd, Int.reduceSub, Int.reduceMul, Bool.and_true, Bool.true_and, Bool.and_false, Bool.false_and, Bool.not_true, Bool.not_false, U'.box]
              refine callV_of F_18 rfl ((Same_wf U'.fp.slc U'.fv.slc (by first | omega | (simp <;> omega)) (by first | omega | (simp <;> omega))).mono ?_)
              rintro v6 h6 ⟨e6, rfl⟩
              have U6 := U'.ext e6
              simp (disch := first | done | ((try simp only [Heap.add_nxt, Heap.put_nxt, Heap.del_nxt, bump_nxt]) <;> omega) | fail) only [go_sem, Nat.reduceAdd, Nat.reduceSub, Nat.reduceMul, Nat.reduceMod, Nat.reduceGT, Nat.reduceLeDiff, Nat.reduceEqDiff, Nat.reduceBEq, Nat.reduceBNe, Nat.reduceShiftRight, Nat.reduceAnd, Nat.reduceOr, Nat.reduceBneDiff, bne_self_eq_false, Nat.reduceLT, ↓reduceIte, reduceCtorEq, Int.reduceToNat, Int.reduceNeg, Int.reduceLT, Int.reduceLE, decide_true, decide_false, Int.cast_ofNat_Int, Int.reduceEq, Int.reduceNe, Int.reduceGT, Int.reduceGE, Int.reduceAdd, Int.reduceSub, Int.reduceMul, Bool.and_true, Bool.true_and, Bool.and_false, Bool.false_and, Bool.not_true, Bool.not_false, U6.box]
              refine callV_of F_18 rfl ((Same_wf U6.fq.slc U6.fn.slc (by first | omega | (simp <;> omega)) (by first | omega | (simp <;> omega))).mono ?_)
              rintro v7 h7 ⟨e7, rfl⟩
              simp (disch := first | done | ((try simp only [Heap.add_nxt, Heap.put_nxt, Heap.del_nxt, bump_nxt]) <;> omega) | fail) only [go_sem, Nat.reduceAdd, Nat.reduceSub, Nat.reduceMul, Nat.reduceMod, Nat.reduceGT, Nat.reduceLeDiff, Nat.reduceEqDiff, Nat.reduceBEq, Nat.reduceBNe, Nat.reduceShiftRight, Nat.reduceAnd, Nat.reduceOr, Nat.reduceBneDiff, bne_self_eq_false, Nat.reduceLT, ↓reduceIte, reduceCtorEq, Int.reduceToNat, Int.reduceNeg, Int.reduceLT, Int.reduceLE, decide_true, decide_false, Int.cast_ofNat_Int, Int.reduceEq, Int.reduceNe, Int.reduceGT, Int.reduceGE, Int.reduceAdd, Int.reduceSub, Int.reduceMul, Bool.and_true, Bool.true_and, Bool.and_false, Bool.false_and, Bool.not_true, Bool.not_false]
              exact AgainK.mk (bs.length - (i + 1)) (by simp; omega) ⟨i + 1, [], N, _, _, _, _, now, U6.ext e7, by first | omega | (simp <;> omega), by omega, rfl, rfl, by simp [Has]⟩
            · obtain ⟨p3a, p3n, p3c, p3z, rfl, hp3⟩ := form2 fp3
              obtain ⟨q3a, q3n, q3c, q3z, rfl, hq3⟩ := form2 fq3
              have hne : P ≠ [] := by intro e; subst e; simp at hw
              have hpos : 0 < P.length := List.length_pos_iff.2 hne
              have X3 := (Ext.add h3 (Blk.cells [AV.slc none 0 (some 0) 0, AV.slc none 0 (some 0) 0] true)).put (Nat.le_refl h3.nxt) (x := Blk.cells [AV.slc p3a p3n p3c p3z, AV.slc q3a q3n q3c q3z] true)
              have UX := U3.ext X3
              obtain ⟨b2, o2, cs2, wr2, rfl, rfl, hb2, hg2, hc2⟩ := UX.fv.slc.at1 (by simpa using hpos)
              have c2 := hc2 (P.length - 1) (.int .i64 was) (by
                rw [List.getLast?_eq_getElem?] at hw
                simp only [I1, List.getElem?_map, hw, Option.map_some])
              have hdec : decide ((pvn : Int) > 0) = true := by simp; omega
              simp (disch := first | done | ((try simp only [Heap.add_nxt, Heap.put_nxt, Heap.del_nxt, bump_nxt]) <;> omega) | fail) only [go_sem, Nat.reduceAdd, Nat.reduceSub, Nat.reduceMul, Nat.reduceMod, Nat.reduceGT, Nat.reduceLeDiff, Nat.reduceEqDiff, Nat.reduceBEq, Nat.reduceBNe, Nat.reduceShiftRight, Nat.reduceAnd, Nat.reduceOr, Nat.reduceBneDiff, bne_self_eq_false, Nat.reduceLT, ↓reduceIte, reduceCtorEq, Int.reduceToNat, Int.reduceNeg, Int.reduceLT, Int.reduceLE, decide_true, decide_false, Int.cast_ofNat_Int, Int.reduceEq, Int.reduceNe, Int.reduceGT, Int.reduceGE, Int.reduceAdd, Int.reduceSub, Int.reduceMul, Bool.and_true, Bool.true_and, Bool.and_false, Bool.false_and, Bool.not_true, Bool.not_false, hdec]
              have hi2 : ((pvn : Int) - 1).toNat = P.length - 1 := by omega
              simp (disch := first | done | ((try simp only [Heap.add_nxt, Heap.put_nxt, Heap.del_nxt, bump_nxt]) <;> omega) | fail) only [go_sem, Nat.reduceAdd, Nat.reduceSub, Nat.reduceMul, Nat.reduceMod, Nat.reduceGT, Nat.reduceLeDiff, Nat.reduceEqDiff, Nat.reduceBEq, Nat.reduceBNe, Nat.reduceShiftRight, Nat.reduceAnd, Nat.reduceOr, Nat.reduceBneDiff, bne_self_eq_false, Nat.reduceLT, ↓reduceIte, reduceCtorEq, Int.reduceToNat, Int.reduceNeg, Int.reduceLT, Int.reduceLE, decide_true, decide_false, Int.cast_ofNat_Int, Int.reduceEq, Int.reduceNe, Int.reduceGT, Int.reduceGE, Int.reduceAdd, Int.reduceSub, Int.reduceMul, Bool.and_true, Bool.true_and, Bool.and_false, Bool.false_and, Bool.not_true, Bool.not_false, hg2, hi2, c2]
              refine DrawK_of' (fun _ => False) [0, 0, 2, 7, 0, 0, 32, 96, 240, 15, 1023] (by rfl) (by rfl) (fun b hb => hb.elim) ?_
              simp (disch := first | done | ((try simp only [Heap.add_nxt, Heap.put_nxt, Heap.del_nxt, bump_nxt]) <;> omega) | fail) only [go_sem, Nat.reduceAdd, Nat.reduceSub, Nat.reduceMul, Nat.reduceMod, Nat.reduceGT, Nat.reduceLeDiff, Nat.reduceEqDiff, Nat.reduceBEq, Nat.reduceBNe, Nat.reduceShiftRight, Nat.reduceAnd, Nat.reduceOr, Nat.reduceBneDiff, bne_self_eq_false, Nat.reduceLT, ↓reduceIte, reduceCtorEq, Int.reduceToNat, Int.reduceNeg, Int.reduceLT, Int.reduceLE, decide_true, decide_false, Int.cast_ofNat_Int, Int.reduceEq, Int.reduceNe, Int.reduceGT, Int.reduceGE, Int.reduceAdd, Int.reduceSub, Int.reduceMul, Bool.and_true, Bool.true_and, Bool.and_false, Bool.false_and, Bool.not_true, Bool.not_false]
              generalize hG : ((((h3.add (Blk.cells [AV.slc none 0 (some 0) 0, AV.slc none 0 (some 0) 0] true)).put h3.nxt (Blk.cells [AV.slc p3a p3n p3c p3z, AV.slc q3a q3n q3c q3z] true)).bump 11).put (h3.nxt + 1 + 2) (Blk.cells [AV.int IntKind.i64 now] true)) = G
              have hk0 := U.lt
              have hk3 := e3.nxt
              have XG : Ext h3 G := by
                subst hG
                exact (X3.trans (Ext.bump _ 11)).put (by omega)
              have gG : G.get h3.nxt = some (Blk.cells [AV.slc p3a p3n p3c p3z, AV.slc q3a q3n q3c q3z] true) := by
                subst hG
                rw [Heap.get_put, if_neg (by omega), bump_get, Heap.get_put, if_pos rfl]
              have nG : h3.nxt + 4 ≤ G.nxt := by subst hG; simp
              have gL : G.get (h3.nxt + 1 + 2) = some (Blk.cells [AV.int IntKind.i64 now] true) := by
                subst hG; rw [Heap.get_put, if_pos rfl]
              have UG := U3.ext XG
              refine append_k (m := h1.nxt + 1) (sz := 1) (ls := I1 N) (new := [[.int .i64 now]]) T_24 rfl T_3 rfl (by decide) (by decide) UG.fn.own (Slc.lit' (ls := [[.int .i64 now]]) (by omega) gL (by simp)) (by simp) (by simp [AV.leaf]) (by omega) (by simp [roomA]; omega) ?_
              intro v4 h4 n4 r4 c4
              rcases c4 with c4 | ⟨_, m4, b4⟩
              · simp at c4
              have m4' : Mine (h1.nxt + 1) h4 v4 1 (I1 (N ++ [now])) := by simpa [I1] using m4
              have M : Mine (h1.nxt + 1) h4 (.slc (some (b2, o2)) pvn pvc 1) 1 (I1 P) := (fresh_app UG.fv n4 r4 fun b h1 h2 => (U.s1 b h1).2.2 h2).mine (by simpa using hpos)
              have hnv : ∀ b, nv.blk = some b → b < h2.nxt := fun b hb => fresh_lt U.fn hb
              have x4 : ∀ b, b < h3.nxt → nv.blk ≠ some b → h4.get b = h3.get b := fun b hb hne => (r4 b (by omega) hne).trans (XG.get b hb)
              have gx4 : h4.get h3.nxt = _ := (r4 h3.nxt (by omega) (fun e => by have := hnv _ e; omega)).trans gG
              have gk4 : h4.get h1.nxt = _ := (x4 h1.nxt (by omega) (fun e => ne_of_lt U.fn (by omega) e)).trans U3.box
              refine ⟨fun b hb => hb.elim, ?_⟩
              simp (disch := first | done | ((try simp only [Heap.add_nxt, Heap.put_nxt, Heap.del_nxt, bump_nxt]) <;> omega) | fail) only [go_sem, Nat.reduceAdd, Nat.reduceSub, Nat.reduceMul, Nat.reduceMod, Nat.reduceGT, Nat.reduceLeDiff, Nat.reduceEqDiff, Nat.reduceBEq, Nat.reduceBNe, Nat.reduceShiftRight, Nat.reduceAnd, Nat.reduceOr, Nat.reduceBneDiff, bne_self_eq_false, Nat.reduceLT, ↓reduceIte, reduceCtorEq, Int.reduceToNat, Int.reduceNeg, Int.reduceLT, Int.reduceLE, decide_true, decide_false, Int.cast_ofNat_Int, Int.reduceEq, Int.reduceNe, Int.reduceGT, Int.reduceGE, Int.reduceAdd, Int.reduceSub, Int.reduceMul, Bool.and_true, Bool.true_and, Bool.and_false, Bool.false_and, Bool.not_true, Bool.not_false]
              refine mine_hi M T_24 rfl T_3 rfl (by omega) (by simp; omega) ?_
              intro v5 m5 k5
              have e5 : (I1 P).take ((pvn : Int) - 1).toNat = I1 P.dropLast := by
                rw [hi2]; simp only [I1, ← List.map_take, List.dropLast_eq_take]
              rw [e5] at m5
              simp (disch := first | done | ((try simp only [Heap.add_nxt, Heap.put_nxt, Heap.del_nxt, bump_nxt]) <;> omega) | fail) only [go_sem, Nat.reduceAdd, Nat.reduceSub, Nat.reduceMul, Nat.reduceMod, Nat.reduceGT, Nat.reduceLeDiff, Nat.reduceEqDiff, Nat.reduceBEq, Nat.reduceBNe, Nat.reduceShiftRight, Nat.reduceAnd, Nat.reduceOr, Nat.reduceBneDiff, bne_self_eq_false, Nat.reduceLT, ↓reduceIte, reduceCtorEq, Int.reduceToNat, Int.reduceNeg, Int.reduceLT, Int.reduceLE, decide_true, decide_false, Int.cast_ofNat_Int, Int.reduceEq, Int.reduceNe, Int.reduceGT, Int.reduceGE, Int.reduceAdd, Int.reduceSub, Int.reduceMul, Bool.and_true, Bool.true_and, Bool.and_false, Bool.false_and, Bool.not_true, Bool.not_false, gx4, gk4]
              have f3 : ∀ (w : AV) (L : List Int), Fresh h2.nxt h3 w 1 (I1 L) → Fresh (h1.nxt + 1) (h4.put h1.nxt (Blk.cells [AV.slc p3a p3n p3c p3z, AV.slc q3a q3n q3c q3z] true)) w 1 (I1 L) := fun w L fw =>
                ((fresh_app (fw.ext XG) n4 r4 fun b h1 h2 => by have := hnv b h2; have := fw.blk h1; omega).put hk0 _).le hk0
              have U' : UInv h1 h1.nxt (AV.slc p3a p3n p3c p3z) (AV.slc q3a q3n q3c q3z) v5 v4 P.dropLast (N ++ [now]) (h4.put h1.nxt (Blk.cells [AV.slc p3a p3n p3c p3z, AV.slc q3a q3n q3c q3z] true)) := by
                refine ⟨by simp; omega, fun b hb => ?_, ?_, f3 _ _ fp3, f3 _ _ fq3, m5.fresh.put (by omega) _, m4'.fresh.put (by omega) _, fun b hb => ?_, fun b hb => ?_⟩
                · rw [Heap.get_put, if_neg (by omega), x4 b (by omega) (ne_of_lt U.fn (by omega))]; exact U3.old b hb
                · rw [Heap.get_put, if_pos rfl]
                · rw [k5] at hb
                  have hb' := fresh_lt U.fv hb
                  exact ⟨fun e => by have := fp3.blk e; omega, fun e => by have := fq3.blk e; omega, fun e => by have := b4 b e; omega⟩
                · have hb' := b4 b hb
                  exact ⟨fun e => by have := fresh_lt fp3 e; omega, fun e => by have := fresh_lt fq3 e; omega⟩
              refine callV_of F_18 rfl ((Same_wf U'.fp.slc U'.fv.slc (by first | omega | (simp <;> omega)) (by first | omega | (simp <;> omega))).mono ?_)
              rintro v6 h6 ⟨e6, rfl⟩
              have U6 := U'.ext e6
              simp (disch := first | done | ((try simp only [Heap.add_nxt, Heap.put_nxt, Heap.del_nxt, bump_nxt]) <;> omega) | fail) only [go_sem, Nat.reduceAdd, Nat.reduceSub, Nat.reduceMul, Nat.reduceMod, Nat.reduceGT, Nat.reduceLeDiff, Nat.reduceEqDiff, Nat.reduceBEq, Nat.reduceBNe, Nat.reduceShiftRight, Nat.reduceAnd, Nat.reduceOr, Nat.reduceBneDiff, bne_self_eq_false, Nat.reduceLT, ↓reduceIte, reduceCtorEq, Int.reduceToNat, Int.reduceNeg, Int.reduceLT, Int.reduceLE, decide_true, decide_false, Int.cast_ofNat_Int, Int.reduceEq, Int.reduceNe, Int.reduceGT, Int.reduceGE, Int.reduceAdd, Int.reduceSub, Int.reduceMul, Bool.and_true, Bool.true_and, Bool.and_false, Bool.false_and, Bool.not_true, Bool.not_false, U6.box]
              refine callV_of F_18 rfl ((Same_wf U6.fq.slc U6.fn.slc (by first | omega | (simp <;> omega)) (by first | omega | (simp <;> omega))).mono ?_)
              rintro v7 h7 ⟨e7, rfl⟩
              simp (disch := first | done | ((try simp only [Heap.add_nxt, Heap.put_nxt, Heap.del_nxt, bump_nxt]) <;> omega) | fail) only [go_sem, Nat.reduceAdd, Nat.reduceSub, Nat.reduceMul, Nat.reduceMod, Nat.reduceGT, Nat.reduceLeDiff, Nat.reduceEqDiff, Nat.reduceBEq, Nat.reduceBNe, Nat.reduceShiftRight, Nat.reduceAnd, Nat.reduceOr, Nat.reduceBneDiff, bne_self_eq_false, Nat.reduceLT, ↓reduceIte, reduceCtorEq, Int.reduceToNat, Int.reduceNeg, Int.reduceLT, Int.reduceLE, decide_true, decide_false, Int.cast_ofNat_Int, Int.reduceEq, Int.reduceNe, Int.reduceGT, Int.reduceGE, Int.reduceAdd, Int.reduceSub, Int.reduceMul, Bool.and_true, Bool.true_and, Bool.and_false, Bool.false_and, Bool.not_true, Bool.not_false]
              exact AgainK.mk (bs.length - (i + 1)) (by simp; omega) ⟨i + 1, P.dropLast, N ++ [now], _, _, _, _, was, U6.ext e7, by first | omega | (simp <;> omega), by omega, rfl, rfl, by simp [Has]⟩
          · simp (disch := first | done | ((try simp only [Heap.add_nxt, Heap.put_nxt, Heap.del_nxt, bump_nxt]) <;> omega) | fail) only [go_sem, Nat.reduceAdd, Nat.reduceSub, Nat.reduceMul, Nat.reduceMod, Nat.reduceGT, Nat.reduceLeDiff, Nat.reduceEqDiff, Nat.reduceBEq, Nat.reduceBNe, Nat.reduceShiftRight, Nat.reduceAnd, Nat.reduceOr, Nat.reduceBneDiff, bne_self_eq_false, Nat.reduceLT, ↓reduceIte, reduceCtorEq, Int.reduceToNat, Int.reduceNeg, Int.reduceLT, Int.reduceLE, decide_true, decide_false, Int.cast_ofNat_Int, Int.reduceEq, Int.reduceNe, Int.reduceGT, Int.reduceGE, Int.reduceAdd, Int.reduceSub, Int.reduceMul, Bool.and_true, Bool.true_and, Bool.and_false, Bool.false_and, Bool.not_true, Bool.not_false, U.box]
            refine callV_of F_17 rfl ((Redo_wf (ps := P) (ns := N) ⟨_, _, rfl, U.fp.le (Nat.zero_le _), U.fq.le (Nat.zero_le _)⟩ (by omega) (by omega)).mono ?_)
            rintro v3 h3 ⟨e3, hc⟩
            have U3 := U.ext e3
            obtain ⟨pva, pvn, pvc, pvz, rfl, hpv⟩ := form2 U.fn
            rcases hc with ⟨rfl, x, rfl, p3, q3, rfl, fp3, fq3⟩ | ⟨was, x, hw, rfl, p3, q3, rfl, fp3, fq3⟩
            · obtain ⟨p3a, p3n, p3c, p3z, rfl, hp3⟩ := form2 fp3
              obtain ⟨q3a, q3n, q3c, q3z, rfl, hq3⟩ := form2 fq3
              simp at hpv
              subst hpv
              simp (disch := first | done | ((try simp only [Heap.add_nxt, Heap.put_nxt, Heap.del_nxt, bump_nxt]) <;> omega) | fail) only [go_sem, Nat.reduceAdd, Nat.reduceSub, Nat.reduceMul, Nat.reduceMod, Nat.reduceGT, Nat.reduceLeDiff, Nat.reduceEqDiff, Nat.reduceBEq, Nat.reduceBNe, Nat.reduceShiftRight, Nat.reduceAnd, Nat.reduceOr, Nat.reduceBneDiff, bne_self_eq_false, Nat.reduceLT, ↓reduceIte, reduceCtorEq, Int.reduceToNat, Int.reduceNeg, Int.reduceLT, Int.reduceLE, decide_true, decide_false, Int.cast_ofNat_Int, Int.reduceEq, Int.reduceNe, Int.reduceGT, Int.reduceGE, Int.reduceAdd, Int.reduceSub, Int.reduceMul, Bool.and_true, Bool.true_and, Bool.and_false, Bool.false_and, Bool.not_true, Bool.not_false]
              have U' := U3.ext ((Ext.add h3 (Blk.cells [AV.slc none 0 (some 0) 0, AV.slc none 0 (some 0) 0] true)).put (Nat.le_refl h3.nxt) (x := Blk.cells [AV.slc p3a p3n p3c p3z, AV.slc q3a q3n q3c q3z] true))
              simp (disch := first | done | ((try simp only [Heap.add_nxt, Heap.put_nxt, Heap.del_nxt, bump_nxt]) <;> omega) | fail) only [go_sem, Nat.reduceAdd, Nat.reduceSub, Nat.reduceMul, Nat.reduceMod, Nat.reduceGT, Nat.reduceLeDiff, Nat.reduceEqDiff, Nat.reduceBEq, Nat.reduceBNe, Nat.reduceShiftRight, Nat.reduceAnd, Nat.reduceOr, Nat.reduceBneDiff, bne_self_eq_false, Nat.reduceLT, ↓reduceIte, reduceCtorEq, Int.reduceToNat, Int.reduceNeg, Int.reduceLT, Int.reduceLE, decide_true, decide_false, Int.cast_ofNat_Int, Int.reduceEq, Int.reduceNe, Int.reduceGT, Int.reduceGE, Int.reduceAdd, Int.reduceSub, Int.reduceMul, Bool.and_true, Bool.true_and, Bool.and_false, Bool.false_and, Bool.not_true, Bool.not_false, U'.box]
              refine callV_of F_18 rfl ((Same_wf U'.fp.slc U'.fv.slc (by first | omega | (simp <;> omega)) (by first | omega | (simp <;> omega))).mono ?_)
              rintro v6 h6 ⟨e6, rfl⟩
              have U6 := U'.ext e6
              simp (disch := first | done | ((try simp only [Heap.add_nxt, Heap.put_nxt, Heap.del_nxt, bump_nxt]) <;> omega) | fail) only [go_sem, Nat.reduceAdd, Nat.reduceSub, Nat.reduceMul, Nat.reduceMod, Nat.reduceGT, Nat.reduceLeDiff, Nat.reduceEqDiff, Nat.reduceBEq, Nat.reduceBNe, Nat.reduceShiftRight, Nat.reduceAnd, Nat.reduceOr, Nat.reduceBneDiff, bne_self_eq_false, Nat.reduceLT, ↓reduceIte, reduceCtorEq, Int.reduceToNat, Int.reduceNeg, Int.reduceLT, Int.reduceLE, decide_true, decide_false, Int.cast_ofNat_Int, Int.reduceEq, Int.reduceNe, Int.reduceGT, Int.reduceGE, Int.reduceAdd, Int.reduceSub, Int.reduceMul, Bool.and_true, Bool.true_and, Bool.and_false, Bool.false_and, Bool.not_true, Bool.not_false, U6.box]
              refine callV_of F_18 rfl ((Same_wf U6.fq.slc U6.fn.slc (by first | omega | (simp <;> omega)) (by first | omega | (simp <;> omega))).mono ?_)
              rintro v7 h7 ⟨e7, rfl⟩
              simp (disch := first | done | ((try simp only [Heap.add_nxt, Heap.put_nxt, Heap.del_nxt, bump_nxt]) <;> omega) | fail) only [go_sem, Nat.reduceAdd, Nat.reduceSub, Nat.reduceMul, Nat.reduceMod, Nat.reduceGT, Nat.reduceLeDiff, Nat.reduceEqDiff, Nat.reduceBEq, Nat.reduceBNe, Nat.reduceShiftRight, Nat.reduceAnd, Nat.reduceOr, Nat.reduceBneDiff, bne_self_eq_false, Nat.reduceLT, ↓reduceIte, reduceCtorEq, Int.reduceToNat, Int.reduceNeg, Int.reduceLT, Int.reduceLE, decide_true, decide_false, Int.cast_ofNat_Int, Int.reduceEq, Int.reduceNe, Int.reduceGT, Int.reduceGE, Int.reduceAdd, Int.reduceSub, Int.reduceMul, Bool.and_true, Bool.true_and, Bool.and_false, Bool.false_and, Bool.not_true, Bool.not_false]
              exact AgainK.mk (bs.length - (i + 1)) (by simp; omega) ⟨i + 1, P, [], _, _, _, _, now, U6.ext e7, by first | omega | (simp <;> omega), by omega, rfl, rfl, by simp [Has]⟩
            · obtain ⟨p3a, p3n, p3c, p3z, rfl, hp3⟩ := form2 fp3
              obtain ⟨q3a, q3n, q3c, q3z, rfl, hq3⟩ := form2 fq3
              have hne : N ≠ [] := by intro e; subst e; simp at hw
              have hpos : 0 < N.length := List.length_pos_iff.2 hne
              have X3 := (Ext.add h3 (Blk.cells [AV.slc none 0 (some 0) 0, AV.slc none 0 (some 0) 0] true)).put (Nat.le_refl h3.nxt) (x := Blk.cells [AV.slc p3a p3n p3c p3z, AV.slc q3a q3n q3c q3z] true)
              have UX := U3.ext X3
              obtain ⟨b2, o2, cs2, wr2, rfl, rfl, hb2, hg2, hc2⟩ := UX.fn.slc.at1 (by simpa using hpos)
              have c2 := hc2 (N.length - 1) (.int .i64 was) (by
                rw [List.getLast?_eq_getElem?] at hw
                simp only [I1, List.getElem?_map, hw, Option.map_some])
              have hdec : decide ((pvn : Int) > 0) = true := by simp; omega
              simp (disch := first | done | ((try simp only [Heap.add_nxt, Heap.put_nxt, Heap.del_nxt, bump_nxt]) <;> omega) | fail) only [go_sem, Nat.reduceAdd, Nat.reduceSub, Nat.reduceMul, Nat.reduceMod, Nat.reduceGT, Nat.reduceLeDiff, Nat.reduceEqDiff, Nat.reduceBEq, Nat.reduceBNe, Nat.reduceShiftRight, Nat.reduceAnd, Nat.reduceOr, Nat.reduceBneDiff, bne_self_eq_false, Nat.reduceLT, ↓reduceIte, reduceCtorEq, Int.reduceToNat, Int.reduceNeg, Int.reduceLT, Int.reduceLE, decide_true, decide_false, Int.cast_ofNat_Int, Int.reduceEq, Int.reduceNe, Int.reduceGT, Int.reduceGE, Int.reduceAdd, Int.reduceSub, Int.reduceMul, Bool.and_true, Bool.true_and, Bool.and_false, Bool.false_and, Bool.not_true, Bool.not_false, hdec]
              have hi2 : ((pvn : Int) - 1).toNat = N.length - 1 := by omega
              simp (disch := first | done | ((try simp only [Heap.add_nxt, Heap.put_nxt, Heap.del_nxt, bump_nxt]) <;> omega) | fail) only [go_sem, Nat.reduceAdd, Nat.reduceSub, Nat.reduceMul, Nat.reduceMod, Nat.reduceGT, Nat.reduceLeDiff, Nat.reduceEqDiff, Nat.reduceBEq, Nat.reduceBNe, Nat.reduceShiftRight, Nat.reduceAnd, Nat.reduceOr, Nat.reduceBneDiff, bne_self_eq_false, Nat.reduceLT, ↓reduceIte, reduceCtorEq, Int.reduceToNat, Int.reduceNeg, Int.reduceLT, Int.reduceLE, decide_true, decide_false, Int.cast_ofNat_Int, Int.reduceEq, Int.reduceNe, Int.reduceGT, Int.reduceGE, Int.reduceAdd, Int.reduceSub, Int.reduceMul, Bool.and_true, Bool.true_and, Bool.and_false, Bool.false_and, Bool.not_true, Bool.not_false, hg2, hi2, c2]
              refine DrawK_of' (fun _ => False) [0, 0, 2, 7, 0, 0, 32, 96, 240, 15, 1023] (by rfl) (by rfl) (fun b hb => hb.elim) ?_
              simp (disch := first | done | ((try simp only [Heap.add_nxt, Heap.put_nxt, Heap.del_nxt, bump_nxt]) <;> omega) | fail) only [go_sem, Nat.reduceAdd, Nat.reduceSub, Nat.reduceMul, Nat.reduceMod, Nat.reduceGT, Nat.reduceLeDiff, Nat.reduceEqDiff, Nat.reduceBEq, Nat.reduceBNe, Nat.reduceShiftRight, Nat.reduceAnd, Nat.reduceOr, Nat.reduceBneDiff, bne_self_eq_false, Nat.reduceLT, ↓reduceIte, reduceCtorEq, Int.reduceToNat, Int.reduceNeg, Int.reduceLT, Int.reduceLE, decide_true, decide_false, Int.cast_ofNat_Int, Int.reduceEq, Int.reduceNe, Int.reduceGT, Int.reduceGE, Int.reduceAdd, Int.reduceSub, Int.reduceMul, Bool.and_true, Bool.true_and, Bool.and_false, Bool.false_and, Bool.not_true, Bool.not_false]
              generalize hG : ((((h3.add (Blk.cells [AV.slc none 0 (some 0) 0, AV.slc none 0 (some 0) 0] true)).put h3.nxt (Blk.cells [AV.slc p3a p3n p3c p3z, AV.slc q3a q3n q3c q3z] true)).bump 11).put (h3.nxt + 1 + 2) (Blk.cells [AV.int IntKind.i64 now] true)) = G
              have hk0 := U.lt
              have hk3 := e3.nxt
              have XG : Ext h3 G := by
                subst hG
                exact (X3.trans (Ext.bump _ 11)).put (by omega)
              have gG : G.get h3.nxt = some (Blk.cells [AV.slc p3a p3n p3c p3z, AV.slc q3a q3n q3c q3z] true) := by
                subst hG
                rw [Heap.get_put, if_neg (by omega), bump_get, Heap.get_put, if_pos rfl]
              have nG : h3.nxt + 4 ≤ G.nxt := by subst hG; simp
              have gL : G.get (h3.nxt + 1 + 2) = some (Blk.cells [AV.int IntKind.i64 now] true) := by
                subst hG; rw [Heap.get_put, if_pos rfl]
              have UG := U3.ext XG
              refine append_k (m := h1.nxt + 1) (sz := 1) (ls := I1 P) (new := [[.int .i64 now]]) T_24 rfl T_3 rfl (by decide) (by decide) UG.fv.own (Slc.lit' (ls := [[.int .i64 now]]) (by omega) gL (by simp)) (by simp) (by simp [AV.leaf]) (by omega) (by simp [roomA]; omega) ?_
              intro v4 h4 n4 r4 c4
              rcases c4 with c4 | ⟨_, m4, b4⟩
              · simp at c4
              have m4' : Mine (h1.nxt + 1) h4 v4 1 (I1 (P ++ [now])) := by simpa [I1] using m4
              have M : Mine (h1.nxt + 1) h4 (.slc (some (b2, o2)) pvn pvc 1) 1 (I1 N) := (fresh_app UG.fn n4 r4 fun b h1 h2 => (U.s1 b h2).2.2 h1).mine (by simpa using hpos)
              have hnv : ∀ b, pv.blk = some b → b < h2.nxt := fun b hb => fresh_lt U.fv hb
              have x4 : ∀ b, b < h3.nxt → pv.blk ≠ some b → h4.get b = h3.get b := fun b hb hne => (r4 b (by omega) hne).trans (XG.get b hb)
              have gx4 : h4.get h3.nxt = _ := (r4 h3.nxt (by omega) (fun e => by have := hnv _ e; omega)).trans gG
              have gk4 : h4.get h1.nxt = _ := (x4 h1.nxt (by omega) (fun e => ne_of_lt U.fv (by omega) e)).trans U3.box
              refine ⟨fun b hb => hb.elim, ?_⟩
              simp (disch := first | done | ((try simp only [Heap.add_nxt, Heap.put_nxt, Heap.del_nxt, bump_nxt]) <;> omega) | fail) only [go_sem, Nat.reduceAdd, Nat.reduceSub, Nat.reduceMul, Nat.reduceMod, Nat.reduceGT, Nat.reduceLeDiff, Nat.reduceEqDiff, Nat.reduceBEq, Nat.reduceBNe, Nat.reduceShiftRight, Nat.reduceAnd, Nat.reduceOr, Nat.reduceBneDiff, bne_self_eq_false, Nat.reduceLT, ↓reduceIte, reduceCtorEq, Int.reduceToNat, Int.reduceNeg, Int.reduceLT, Int.reduceLE, decide_true, decide_false, Int.cast_ofNat_Int, Int.reduceEq, Int.reduceNe, Int.reduceGT, Int.reduceGE, Int.reduceAdd, Int.reduceSub, Int.reduceMul, Bool.and_true, Bool.true_and, Bool.and_false, Bool.false_and, Bool.not_true, Bool.not_false]
              refine mine_hi M T_24 rfl T_3 rfl (by omega) (by simp; omega) ?_
              intro v5 m5 k5
              have e5 : (I1 N).take ((pvn : Int) - 1).toNat = I1 N.dropLast := by
                rw [hi2]; simp only [I1, ← List.map_take, List.dropLast_eq_take]
              rw [e5] at m5
              simp (disch := first | done | ((try simp only [Heap.add_nxt, Heap.put_nxt, Heap.del_nxt, bump_nxt]) <;> omega) | fail) only [go_sem, Nat.reduceAdd, Nat.reduceSub, Nat.reduceMul, Nat.reduceMod, Nat.reduceGT, Nat.reduceLeDiff, Nat.reduceEqDiff, Nat.reduceBEq, Nat.reduceBNe, Nat.reduceShiftRight, Nat.reduceAnd, Nat.reduceOr, Nat.reduceBneDiff, bne_self_eq_false, Nat.reduceLT, ↓reduceIte, reduceCtorEq, Int.reduceToNat, Int.reduceNeg, Int.reduceLT, Int.reduceLE, decide_true, decide_false, Int.cast_ofNat_Int, Int.reduceEq, Int.reduceNe, Int.reduceGT, Int.reduceGE, Int.reduceAdd, Int.reduceSub, Int.reduceMul, Bool.and_true, Bool.true_and, Bool.and_false, Bool.false_and, Bool.not_true, Bool.not_false, gx4, gk4]
              have f3 : ∀ (w : AV) (L : List Int), Fresh h2.nxt h3 w 1 (I1 L) → Fresh (h1.nxt + 1) (h4.put h1.nxt (Blk.cells [AV.slc p3a p3n p3c p3z, AV.slc q3a q3n q3c q3z] true)) w 1 (I1 L) := fun w L fw =>
                ((fresh_app (fw.ext XG) n4 r4 fun b h1 h2 => by have := hnv b h2; have := fw.blk h1; omega).put hk0 _).le hk0
              have U' : UInv h1 h1.nxt (AV.slc p3a p3n p3c p3z) (AV.slc q3a q3n q3c q3z) v4 v5 (P ++ [now]) N.dropLast (h4.put h1.nxt (Blk.cells [AV.slc p3a p3n p3c p3z, AV.slc q3a q3n q3c q3z] true)) := by
                refine ⟨by simp; omega, fun b hb => ?_, ?_, f3 _ _ fp3, f3 _ _ fq3, m4'.fresh.put (by omega) _, m5.fresh.put (by omega) _, fun b hb => ?_, fun b hb => ?_⟩
                · rw [Heap.get_put, if_neg (by omega), x4 b (by omega) (ne_of_lt U.fv (by omega))]; exact U3.old b hb
                · rw [Heap.get_put, if_pos rfl]
                · have hb' := b4 b hb
                  refine ⟨fun e => by have := fresh_lt fp3 e; omega, fun e => by have := fresh_lt fq3 e; omega, fun e => ?_⟩
                  rw [k5] at e
                  have := fresh_lt U.fn e
                  omega
                · rw [k5] at hb
                  have hb' := fresh_lt U.fn hb
                  exact ⟨fun e => by have := fp3.blk e; omega, fun e => by have := fq3.blk e; omega⟩
              refine callV_of F_18 rfl ((Same_wf U'.fp.slc U'.fv.slc (by first | omega | (simp <;> omega)) (by first | omega | (simp <;> omega))).mono ?_)
              rintro v6 h6 ⟨e6, rfl⟩
              have U6 := U'.ext e6
              simp (disch := first | done | ((try simp only [Heap.add_nxt, Heap.put_nxt, Heap.del_nxt, bump_nxt]) <;> omega) | fail) only [go_sem, Nat.reduceAdd, Nat.reduceSub, Nat.reduceMul, Nat.reduceMod, Nat.reduceGT, Nat.reduceLeDiff, Nat.reduceEqDiff, Nat.reduceBEq, Nat.reduceBNe, Nat.reduceShiftRight, Nat.reduceAnd, Nat.reduceOr, Nat.reduceBneDiff, bne_self_eq_false, Nat.reduceLT, ↓reduceIte, reduceCtorEq, Int.reduceToNat, Int.reduceNeg, Int.reduceLT, Int.reduceLE, decide_true, decide_false, Int.cast_ofNat_Int, Int.reduceEq, Int.reduceNe, Int.reduceGT, Int.reduceGE, Int.reduceAdd, Int.reduceSub, Int.reduceMul, Bool.and_true, Bool.true_and, Bool.and_false, Bool.false_and, Bool.not_true, Bool.not_false, U6.box]
              refine callV_of F_18 rfl ((Same_wf U6.fq.slc U6.fn.slc (by first | omega | (simp <;> omega)) (by first | omega | (simp <;> omega))).mono ?_)
              rintro v7 h7 ⟨e7, rfl⟩
              simp (disch := first | done | ((try simp only [Heap.add_nxt, Heap.put_nxt, Heap.del_nxt, bump_nxt]) <;> omega) | fail) only [go_sem, Nat.reduceAdd, Nat.reduceSub, Nat.reduceMul, Nat.reduceMod, Nat.reduceGT, Nat.reduceLeDiff, Nat.reduceEqDiff, Nat.reduceBEq, Nat.reduceBNe, Nat.reduceShiftRight, Nat.reduceAnd, Nat.reduceOr, Nat.reduceBneDiff, bne_self_eq_false, Nat.reduceLT, ↓reduceIte, reduceCtorEq, Int.reduceToNat, Int.reduceNeg, Int.reduceLT, Int.reduceLE, decide_true, decide_false, Int.cast_ofNat_Int, Int.reduceEq, Int.reduceNe, Int.reduceGT, Int.reduceGE, Int.reduceAdd, Int.reduceSub, Int.reduceMul, Bool.and_true, Bool.true_and, Bool.and_false, Bool.false_and, Bool.not_true, Bool.not_false]
              exact AgainK.mk (bs.length - (i + 1)) (by simp; omega) ⟨i + 1, P ++ [now], N.dropLast, _, _, _, _, was, U6.ext e7, by first | omega | (simp <;> omega), by omega, rfl, rfl, by simp [Has]⟩
    · simp (disch := first | done | ((try simp only [Heap.add_nxt, Heap.put_nxt, Heap.del_nxt, bump_nxt]) <;> omega) | fail) only [go_sem, Nat.reduceAdd, Nat.reduceSub, Nat.reduceMul, Nat.reduceMod, Nat.reduceGT, Nat.reduceLeDiff, Nat.reduceEqDiff, Nat.reduceBEq, Nat.reduceBNe, Nat.reduceShiftRight, Nat.reduceAnd, Nat.reduceOr, Nat.reduceBneDiff, bne_self_eq_false, Nat.reduceLT, ↓reduceIte, reduceCtorEq, Int.reduceToNat, Int.reduceNeg, Int.reduceLT, Int.reduceLE, decide_true, decide_false, Int.cast_ofNat_Int, Int.reduceEq, Int.reduceNe, Int.reduceGT, Int.reduceGE, Int.reduceAdd, Int.reduceSub, Int.reduceMul, Bool.and_true, Bool.true_and, Bool.and_false, Bool.false_and, Bool.not_true, Bool.not_false]
      exact hQ _ _ rfl
end Go.Proofs.Ytibehogiobencaa
