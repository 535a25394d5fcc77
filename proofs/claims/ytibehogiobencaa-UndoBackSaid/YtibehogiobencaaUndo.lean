/-
  Layer undo: what its functions come to, by lists.
-/
import Derived.Test.YtibehogiobencaaAmSl
import Derived.Test.YtibehogiobencaaAmTl
import Derived.KernelRfl
namespace Go.Proofs.Ytibehogiobencaa
open Go Go.Am
set_option maxRecDepth 100000
set_option maxHeartbeats 4000000
set_option linter.unusedSimpArgs false
set_option linter.unusedVariables false

def I1 (xs : List Int) : List (List AV) := xs.map fun x => [.int .i64 x]

@[simp, go_sem] theorem I1_len (xs : List Int) : (I1 xs).length = xs.length := by simp [I1]
theorem I1_each (xs : List Int) : ∀ l ∈ I1 xs, l.length = 1 := by simp [I1]
theorem I1_leaf (xs : List Int) : ∀ l ∈ I1 xs, l.all AV.leaf = true := by
  intro l hl; simp only [I1, List.mem_map] at hl; obtain ⟨x, _, rfl⟩ := hl; rfl

theorem clone_int {h : Heap} {v : AV} {xs : List Int} (hv : Slc h v 1 (I1 xs)) (hx : xs.length ≤ 1000000) : WF T F 47 [v] h fun v' h' => Ext h h' ∧ Fresh h.nxt h' v' 1 (I1 xs) := by
  obtain ⟨a, c, z, rfl⟩ := hv.form
  rw [I1_len] at hv
  refine WF.gen fun Q hQ => WF.of (F_47) (c := _) rfl ?_
  unfold Try.f47
  simp only [List.length, Nat.reduceSub, Nat.reduceAdd, List.replicate, List.cons_append, List.nil_append]
  simp (disch := first | done | ((try simp only [Heap.add_nxt, Heap.put_nxt, Heap.del_nxt, bump_nxt]) <;> omega) | fail) only [go_sem, Nat.reduceAdd, Nat.reduceSub, Nat.reduceMul, Nat.reduceMod, Nat.reduceGT, Nat.reduceLeDiff, Nat.reduceEqDiff, Nat.reduceBEq, Nat.reduceBNe, Nat.reduceShiftRight, Nat.reduceAnd, Nat.reduceOr, Nat.reduceBneDiff, bne_self_eq_false, Nat.reduceLT, ↓reduceIte, reduceCtorEq, Int.reduceToNat, Int.reduceNeg, Int.reduceLT, Int.reduceLE, decide_true, decide_false, Int.cast_ofNat_Int, Int.reduceEq, Int.reduceNe, Int.reduceGT, Int.reduceGE, Int.reduceAdd, Int.reduceSub, Int.reduceMul, Bool.and_true, Bool.true_and, Bool.and_false, Bool.false_and, Bool.not_true, Bool.not_false]
  refine condK_bool (fun ha => ?_) (fun ha => ?_)
  · have : a = none := by simpa using ha
    subst this
    simp (disch := first | done | ((try simp only [Heap.add_nxt, Heap.put_nxt, Heap.del_nxt, bump_nxt]) <;> omega) | fail) only [go_sem, Nat.reduceAdd, Nat.reduceSub, Nat.reduceMul, Nat.reduceMod, Nat.reduceGT, Nat.reduceLeDiff, Nat.reduceEqDiff, Nat.reduceBEq, Nat.reduceBNe, Nat.reduceShiftRight, Nat.reduceAnd, Nat.reduceOr, Nat.reduceBneDiff, bne_self_eq_false, Nat.reduceLT, ↓reduceIte, reduceCtorEq, Int.reduceToNat, Int.reduceNeg, Int.reduceLT, Int.reduceLE, decide_true, decide_false, Int.cast_ofNat_Int, Int.reduceEq, Int.reduceNe, Int.reduceGT, Int.reduceGE, Int.reduceAdd, Int.reduceSub, Int.reduceMul, Bool.and_true, Bool.true_and, Bool.and_false, Bool.false_and, Bool.not_true, Bool.not_false]
    have hn : xs.length = 0 := by
      rcases hv with ⟨h0, _⟩ | ⟨b, o, cap, cs, wr, e, _⟩
      · simpa [I1] using congrArg List.length h0
      · simp at e
    have : xs = [] := by simpa using hn
    subst this
    exact hQ _ _ ⟨Ext.refl h, Fresh.nil⟩
  · simp (disch := first | done | ((try simp only [Heap.add_nxt, Heap.put_nxt, Heap.del_nxt, bump_nxt]) <;> omega) | fail) only [go_sem, Nat.reduceAdd, Nat.reduceSub, Nat.reduceMul, Nat.reduceMod, Nat.reduceGT, Nat.reduceLeDiff, Nat.reduceEqDiff, Nat.reduceBEq, Nat.reduceBNe, Nat.reduceShiftRight, Nat.reduceAnd, Nat.reduceOr, Nat.reduceBneDiff, bne_self_eq_false, Nat.reduceLT, ↓reduceIte, reduceCtorEq, Int.reduceToNat, Int.reduceNeg, Int.reduceLT, Int.reduceLE, decide_true, decide_false, Int.cast_ofNat_Int, Int.reduceEq, Int.reduceNe, Int.reduceGT, Int.reduceGE, Int.reduceAdd, Int.reduceSub, Int.reduceMul, Bool.and_true, Bool.true_and, Bool.and_false, Bool.false_and, Bool.not_true, Bool.not_false]
    refine append_k (m := h.nxt) (sz := 1) (ls := []) (new := I1 xs) T_24 rfl T_3 rfl (by decide) (by decide) (.inl ⟨rfl, _, _, rfl, fun _ => rfl⟩) (hv.ext (Ext.add h _)) (I1_each xs) (I1_leaf xs) (by simp) (by simp [I1_len, roomA]; omega) ?_
    intro v' h' h1 h2 h3
    simp (disch := first | done | ((try simp only [Heap.add_nxt, Heap.put_nxt, Heap.del_nxt, bump_nxt]) <;> omega) | fail) only [go_sem, Nat.reduceAdd, Nat.reduceSub, Nat.reduceMul, Nat.reduceMod, Nat.reduceGT, Nat.reduceLeDiff, Nat.reduceEqDiff, Nat.reduceBEq, Nat.reduceBNe, Nat.reduceShiftRight, Nat.reduceAnd, Nat.reduceOr, Nat.reduceBneDiff, bne_self_eq_false, Nat.reduceLT, ↓reduceIte, reduceCtorEq, Int.reduceToNat, Int.reduceNeg, Int.reduceLT, Int.reduceLE, decide_true, decide_false, Int.cast_ofNat_Int, Int.reduceEq, Int.reduceNe, Int.reduceGT, Int.reduceGE, Int.reduceAdd, Int.reduceSub, Int.reduceMul, Bool.and_true, Bool.true_and, Bool.and_false, Bool.false_and, Bool.not_true, Bool.not_false]
    have hE : Ext h h' := ⟨by simp at h1; omega, fun b hb => by rw [h2 b (by simp; omega) (by simp [AV.blk]), Heap.get_add, if_neg (by omega)]⟩
    rcases h3 with ⟨h4, rfl, rfl⟩ | ⟨_, h4, _⟩
    · refine hQ _ _ ⟨hE, .inl ⟨h4, _, _, rfl, fun _ => rfl⟩⟩
    · exact hQ _ _ ⟨hE, .inr h4⟩

theorem push_int {h : Heap} {v : AV} {xs : List Int} {x : Int} (hv : Slc h v 1 (I1 xs)) (hx : xs.length ≤ 999999) : WF T F 32 [v, .int .i64 x] h fun v' h' => Ext h h' ∧ Mine h.nxt h' v' 1 (I1 (xs ++ [x])) := by
  obtain ⟨a, c, z, rfl⟩ := hv.form
  rw [I1_len] at hv
  refine WF.gen fun Q hQ => WF.of (F_32) (c := _) rfl ?_
  unfold Try.f32
  simp only [List.length, Nat.reduceSub, Nat.reduceAdd, List.replicate, List.cons_append, List.nil_append]
  simp (disch := first | done | ((try simp only [Heap.add_nxt, Heap.put_nxt, Heap.del_nxt, bump_nxt]) <;> omega) | fail) only [go_sem, Nat.reduceAdd, Nat.reduceSub, Nat.reduceMul, Nat.reduceMod, Nat.reduceGT, Nat.reduceLeDiff, Nat.reduceEqDiff, Nat.reduceBEq, Nat.reduceBNe, Nat.reduceShiftRight, Nat.reduceAnd, Nat.reduceOr, Nat.reduceBneDiff, bne_self_eq_false, Nat.reduceLT, ↓reduceIte, reduceCtorEq, Int.reduceToNat, Int.reduceNeg, Int.reduceLT, Int.reduceLE, decide_true, decide_false, Int.cast_ofNat_Int, Int.reduceEq, Int.reduceNe, Int.reduceGT, Int.reduceGE, Int.reduceAdd, Int.reduceSub, Int.reduceMul, Bool.and_true, Bool.true_and, Bool.and_false, Bool.false_and, Bool.not_true, Bool.not_false]
  refine callV_of F_47 rfl ((clone_int hv (by omega)).mono ?_)
  rintro v1 h1 ⟨e1, o1⟩
  simp (disch := first | done | ((try simp only [Heap.add_nxt, Heap.put_nxt, Heap.del_nxt, bump_nxt]) <;> omega) | fail) only [go_sem, Nat.reduceAdd, Nat.reduceSub, Nat.reduceMul, Nat.reduceMod, Nat.reduceGT, Nat.reduceLeDiff, Nat.reduceEqDiff, Nat.reduceBEq, Nat.reduceBNe, Nat.reduceShiftRight, Nat.reduceAnd, Nat.reduceOr, Nat.reduceBneDiff, bne_self_eq_false, Nat.reduceLT, ↓reduceIte, reduceCtorEq, Int.reduceToNat, Int.reduceNeg, Int.reduceLT, Int.reduceLE, decide_true, decide_false, Int.cast_ofNat_Int, Int.reduceEq, Int.reduceNe, Int.reduceGT, Int.reduceGE, Int.reduceAdd, Int.reduceSub, Int.reduceMul, Bool.and_true, Bool.true_and, Bool.and_false, Bool.false_and, Bool.not_true, Bool.not_false]
  refine append_k (m := h.nxt) (sz := 1) (ls := I1 xs) (new := [[.int .i64 x]]) T_24 rfl T_3 rfl (by decide) (by decide) (o1.own.ext (Ext.add h1 _)) (Slc.lit (ls := [[.int .i64 x]]) (by simp)) (by simp) (by simp [AV.leaf]) (by have := e1.nxt; simp; omega) (by simp [I1_len, roomA]; omega) ?_
  intro v' h' h2 h3 h4
  simp (disch := first | done | ((try simp only [Heap.add_nxt, Heap.put_nxt, Heap.del_nxt, bump_nxt]) <;> omega) | fail) only [go_sem, Nat.reduceAdd, Nat.reduceSub, Nat.reduceMul, Nat.reduceMod, Nat.reduceGT, Nat.reduceLeDiff, Nat.reduceEqDiff, Nat.reduceBEq, Nat.reduceBNe, Nat.reduceShiftRight, Nat.reduceAnd, Nat.reduceOr, Nat.reduceBneDiff, bne_self_eq_false, Nat.reduceLT, ↓reduceIte, reduceCtorEq, Int.reduceToNat, Int.reduceNeg, Int.reduceLT, Int.reduceLE, decide_true, decide_false, Int.cast_ofNat_Int, Int.reduceEq, Int.reduceNe, Int.reduceGT, Int.reduceGE, Int.reduceAdd, Int.reduceSub, Int.reduceMul, Bool.and_true, Bool.true_and, Bool.and_false, Bool.false_and, Bool.not_true, Bool.not_false]
  have hb : ∀ b, v1.blk = some b → h.nxt ≤ b := fun b hb => o1.blk hb
  have hn := e1.nxt
  refine hQ _ _ ⟨⟨by simp at h2; omega, fun b hb2 => ?_⟩, ?_⟩
  · rw [h3 b (by simp; omega) (fun e => by have := hb b e; omega), Heap.get_add, if_neg (by omega)]
    exact e1.get b hb2
  · rcases h4 with h4 | ⟨_, h4, _⟩
    · simp at h4
    · simpa [I1] using h4

theorem pop_int {h : Heap} {v : AV} {xs : List Int} (hv : Slc h v 1 (I1 xs)) (hx : xs.length ≤ 999999) : WF T F 33 [v] h fun v' h' => Ext h h' ∧
    ((xs = [] ∧ v' = .tup [.slc none 0 (some 0) 0, .int .i64 0, .bool false]) ∨ (∃ x p, xs ≠ [] ∧ xs.getLast? = some x ∧ v' = .tup [p, .int .i64 x, .bool true] ∧ Fresh h.nxt h' p 1 (I1 xs.dropLast))) := by
  obtain ⟨a, c, z, rfl⟩ := hv.form
  rw [I1_len] at hv
  refine WF.gen fun Q hQ => WF.of (F_33) (c := _) rfl ?_
  unfold Try.f33
  simp only [List.length, Nat.reduceSub, Nat.reduceAdd, List.replicate, List.cons_append, List.nil_append]
  simp (disch := first | done | ((try simp only [Heap.add_nxt, Heap.put_nxt, Heap.del_nxt, bump_nxt]) <;> omega) | fail) only [go_sem, Nat.reduceAdd, Nat.reduceSub, Nat.reduceMul, Nat.reduceMod, Nat.reduceGT, Nat.reduceLeDiff, Nat.reduceEqDiff, Nat.reduceBEq, Nat.reduceBNe, Nat.reduceShiftRight, Nat.reduceAnd, Nat.reduceOr, Nat.reduceBneDiff, bne_self_eq_false, Nat.reduceLT, ↓reduceIte, reduceCtorEq, Int.reduceToNat, Int.reduceNeg, Int.reduceLT, Int.reduceLE, decide_true, decide_false, Int.cast_ofNat_Int, Int.reduceEq, Int.reduceNe, Int.reduceGT, Int.reduceGE, Int.reduceAdd, Int.reduceSub, Int.reduceMul, Bool.and_true, Bool.true_and, Bool.and_false, Bool.false_and, Bool.not_true, Bool.not_false]
  refine condK_dec (fun ha => ?_) (fun ha => ?_)
  · have : xs = [] := by simpa using ha
    subst this
    simp (disch := first | done | ((try simp only [Heap.add_nxt, Heap.put_nxt, Heap.del_nxt, bump_nxt]) <;> omega) | fail) only [go_sem, Nat.reduceAdd, Nat.reduceSub, Nat.reduceMul, Nat.reduceMod, Nat.reduceGT, Nat.reduceLeDiff, Nat.reduceEqDiff, Nat.reduceBEq, Nat.reduceBNe, Nat.reduceShiftRight, Nat.reduceAnd, Nat.reduceOr, Nat.reduceBneDiff, bne_self_eq_false, Nat.reduceLT, ↓reduceIte, reduceCtorEq, Int.reduceToNat, Int.reduceNeg, Int.reduceLT, Int.reduceLE, decide_true, decide_false, Int.cast_ofNat_Int, Int.reduceEq, Int.reduceNe, Int.reduceGT, Int.reduceGE, Int.reduceAdd, Int.reduceSub, Int.reduceMul, Bool.and_true, Bool.true_and, Bool.and_false, Bool.false_and, Bool.not_true, Bool.not_false]
    exact hQ _ _ ⟨Ext.refl h, .inl ⟨rfl, rfl⟩⟩
  · have hp : 0 < xs.length := by omega
    simp (disch := first | done | ((try simp only [Heap.add_nxt, Heap.put_nxt, Heap.del_nxt, bump_nxt]) <;> omega) | fail) only [go_sem, Nat.reduceAdd, Nat.reduceSub, Nat.reduceMul, Nat.reduceMod, Nat.reduceGT, Nat.reduceLeDiff, Nat.reduceEqDiff, Nat.reduceBEq, Nat.reduceBNe, Nat.reduceShiftRight, Nat.reduceAnd, Nat.reduceOr, Nat.reduceBneDiff, bne_self_eq_false, Nat.reduceLT, ↓reduceIte, reduceCtorEq, Int.reduceToNat, Int.reduceNeg, Int.reduceLT, Int.reduceLE, decide_true, decide_false, Int.cast_ofNat_Int, Int.reduceEq, Int.reduceNe, Int.reduceGT, Int.reduceGE, Int.reduceAdd, Int.reduceSub, Int.reduceMul, Bool.and_true, Bool.true_and, Bool.and_false, Bool.false_and, Bool.not_true, Bool.not_false]
    refine DrawK_of (fun b => b < h.nxt) (by rfl) (fun _ h => h) ?_
    simp (disch := first | done | ((try simp only [Heap.add_nxt, Heap.put_nxt, Heap.del_nxt, bump_nxt]) <;> omega) | fail) only [go_sem, Nat.reduceAdd, Nat.reduceSub, Nat.reduceMul, Nat.reduceMod, Nat.reduceGT, Nat.reduceLeDiff, Nat.reduceEqDiff, Nat.reduceBEq, Nat.reduceBNe, Nat.reduceShiftRight, Nat.reduceAnd, Nat.reduceOr, Nat.reduceBneDiff, bne_self_eq_false, Nat.reduceLT, ↓reduceIte, reduceCtorEq, Int.reduceToNat, Int.reduceNeg, Int.reduceLT, Int.reduceLE, decide_true, decide_false, Int.cast_ofNat_Int, Int.reduceEq, Int.reduceNe, Int.reduceGT, Int.reduceGE, Int.reduceAdd, Int.reduceSub, Int.reduceMul, Bool.and_true, Bool.true_and, Bool.and_false, Bool.false_and, Bool.not_true, Bool.not_false]
    refine slice_hi (hv.ext (Ext.bump h _)) T_24 rfl T_3 rfl (by omega) (by simp; omega) ?_
    intro v1 s1 b1
    simp (disch := first | done | ((try simp only [Heap.add_nxt, Heap.put_nxt, Heap.del_nxt, bump_nxt]) <;> omega) | fail) only [go_sem, Nat.reduceAdd, Nat.reduceSub, Nat.reduceMul, Nat.reduceMod, Nat.reduceGT, Nat.reduceLeDiff, Nat.reduceEqDiff, Nat.reduceBEq, Nat.reduceBNe, Nat.reduceShiftRight, Nat.reduceAnd, Nat.reduceOr, Nat.reduceBneDiff, bne_self_eq_false, Nat.reduceLT, ↓reduceIte, reduceCtorEq, Int.reduceToNat, Int.reduceNeg, Int.reduceLT, Int.reduceLE, decide_true, decide_false, Int.cast_ofNat_Int, Int.reduceEq, Int.reduceNe, Int.reduceGT, Int.reduceGE, Int.reduceAdd, Int.reduceSub, Int.reduceMul, Bool.and_true, Bool.true_and, Bool.and_false, Bool.false_and, Bool.not_true, Bool.not_false]
    have e0 : (I1 xs).take ((xs.length : Int) - 1).toNat = I1 xs.dropLast := by
      simp only [I1]; rw [← List.map_take, List.dropLast_eq_take]; congr 2; omega
    rw [e0] at s1
    refine callV_of F_47 rfl ((clone_int s1 (by rw [List.length_dropLast]; omega)).mono ?_)
    rintro v2 h2 ⟨e2, o2⟩
    have e2n := e2.nxt
    simp only [bump_nxt] at e2n
    refine ⟨fun b hb => e2.get b (by simp; omega), ?_⟩
    simp (disch := first | done | ((try simp only [Heap.add_nxt, Heap.put_nxt, Heap.del_nxt, bump_nxt]) <;> omega) | fail) only [go_sem, Nat.reduceAdd, Nat.reduceSub, Nat.reduceMul, Nat.reduceMod, Nat.reduceGT, Nat.reduceLeDiff, Nat.reduceEqDiff, Nat.reduceBEq, Nat.reduceBNe, Nat.reduceShiftRight, Nat.reduceAnd, Nat.reduceOr, Nat.reduceBneDiff, bne_self_eq_false, Nat.reduceLT, ↓reduceIte, reduceCtorEq, Int.reduceToNat, Int.reduceNeg, Int.reduceLT, Int.reduceLE, decide_true, decide_false, Int.cast_ofNat_Int, Int.reduceEq, Int.reduceNe, Int.reduceGT, Int.reduceGE, Int.reduceAdd, Int.reduceSub, Int.reduceMul, Bool.and_true, Bool.true_and, Bool.and_false, Bool.false_and, Bool.not_true, Bool.not_false]
    obtain ⟨b, o, cs, wr, rfl, rfl, hb, hg, hc⟩ := hv.at1 (by simpa using hp)
    have hg2 : h2.get b = some (.cells cs wr) := (e2.get b (by simp; omega)).trans hg
    obtain ⟨x, hx1⟩ : ∃ x, xs.getLast? = some x := ⟨xs.getLast (by intro e; subst e; simp at hp), List.getLast?_eq_some_getLast _⟩
    have hcx := hc ((xs.length : Int) - 1).toNat (.int .i64 x) (by
      rw [List.getLast?_eq_getElem?] at hx1
      have : ((xs.length : Int) - 1).toNat = xs.length - 1 := by omega
      simp only [I1, List.getElem?_map, this, hx1, Option.map_some])
    simp (disch := first | done | ((try simp only [Heap.add_nxt, Heap.put_nxt, Heap.del_nxt, bump_nxt]) <;> omega) | fail) only [go_sem, Nat.reduceAdd, Nat.reduceSub, Nat.reduceMul, Nat.reduceMod, Nat.reduceGT, Nat.reduceLeDiff, Nat.reduceEqDiff, Nat.reduceBEq, Nat.reduceBNe, Nat.reduceShiftRight, Nat.reduceAnd, Nat.reduceOr, Nat.reduceBneDiff, bne_self_eq_false, Nat.reduceLT, ↓reduceIte, reduceCtorEq, Int.reduceToNat, Int.reduceNeg, Int.reduceLT, Int.reduceLE, decide_true, decide_false, Int.cast_ofNat_Int, Int.reduceEq, Int.reduceNe, Int.reduceGT, Int.reduceGE, Int.reduceAdd, Int.reduceSub, Int.reduceMul, Bool.and_true, Bool.true_and, Bool.and_false, Bool.false_and, Bool.not_true, Bool.not_false]
    refine LoadK_of rfl hb ?_
    simp (disch := first | done | ((try simp only [Heap.add_nxt, Heap.put_nxt, Heap.del_nxt, bump_nxt]) <;> omega) | fail) only [go_sem, Nat.reduceAdd, Nat.reduceSub, Nat.reduceMul, Nat.reduceMod, Nat.reduceGT, Nat.reduceLeDiff, Nat.reduceEqDiff, Nat.reduceBEq, Nat.reduceBNe, Nat.reduceShiftRight, Nat.reduceAnd, Nat.reduceOr, Nat.reduceBneDiff, bne_self_eq_false, Nat.reduceLT, ↓reduceIte, reduceCtorEq, Int.reduceToNat, Int.reduceNeg, Int.reduceLT, Int.reduceLE, decide_true, decide_false, Int.cast_ofNat_Int, Int.reduceEq, Int.reduceNe, Int.reduceGT, Int.reduceGE, Int.reduceAdd, Int.reduceSub, Int.reduceMul, Bool.and_true, Bool.true_and, Bool.and_false, Bool.false_and, Bool.not_true, Bool.not_false, hg2, hcx]
    exact hQ _ _ ⟨(Ext.bump h 15).trans e2, .inr ⟨x, v2, by intro e; subst e; simp at hp, hx1, rfl, o2.le (by simp)⟩⟩

/-- A history, by two lists; its blocks stand from m on. -/
def Hi (m : Nat) (h : Heap) (v : AV) (ps ns : List Int) : Prop := ∃ p q, v = .agg [p, q] ∧ Fresh m h p 1 (I1 ps) ∧ Fresh m h q 1 (I1 ns)
theorem Hi.ext {m : Nat} {h h' : Heap} {v : AV} {ps ns : List Int} (s : Hi m h v ps ns) (e : Ext h h') : Hi m h' v ps ns := by
  obtain ⟨p, q, rfl, a, b⟩ := s; exact ⟨p, q, rfl, a.ext e, b.ext e⟩
theorem Hi.le {m m' : Nat} {h : Heap} {v : AV} {ps ns : List Int} (s : Hi m h v ps ns) (hm : m' ≤ m) : Hi m' h v ps ns := by
  obtain ⟨p, q, rfl, a, b⟩ := s; exact ⟨p, q, rfl, a.le hm, b.le hm⟩
theorem Hi.put {m : Nat} {h : Heap} {v : AV} {ps ns : List Int} (s : Hi m h v ps ns) {b : Nat} (hb : b < m) (x : Blk) : Hi m (h.put b x) v ps ns := by
  obtain ⟨p, q, rfl, a, c⟩ := s; exact ⟨p, q, rfl, a.put hb x, c.put hb x⟩
theorem Hi.nil {m : Nat} {h : Heap} : Hi m h (.agg [.slc none 0 (some 0) 0, .slc none 0 (some 0) 0]) [] [] := ⟨_, _, rfl, Fresh.nil, Fresh.nil⟩

theorem twin_wf {h : Heap} {v : AV} {ps ns : List Int} (hv : Hi 0 h v ps ns) (hp : ps.length ≤ 999999) (hn : ns.length ≤ 999999) : WF T F 34 [v] h fun v' h' => Ext h h' ∧ Hi h.nxt h' v' ps ns := by
  obtain ⟨p, q, rfl, fp, fq⟩ := hv
  have sp := fp.slc
  have sq := fq.slc
  obtain ⟨pa, pc, pz, rfl⟩ := sp.form
  obtain ⟨qa, qc, qz, rfl⟩ := sq.form
  rw [I1_len] at sp sq fp fq
  refine WF.gen fun Q hQ => WF.of (F_34) (c := _) rfl ?_
  unfold Try.f34
  simp only [List.length, Nat.reduceSub, Nat.reduceAdd, List.replicate, List.cons_append, List.nil_append]
  simp (disch := first | done | ((try simp only [Heap.add_nxt, Heap.put_nxt, Heap.del_nxt, bump_nxt]) <;> omega) | fail) only [go_sem, Nat.reduceAdd, Nat.reduceSub, Nat.reduceMul, Nat.reduceMod, Nat.reduceGT, Nat.reduceLeDiff, Nat.reduceEqDiff, Nat.reduceBEq, Nat.reduceBNe, Nat.reduceShiftRight, Nat.reduceAnd, Nat.reduceOr, Nat.reduceBneDiff, bne_self_eq_false, Nat.reduceLT, ↓reduceIte, reduceCtorEq, Int.reduceToNat, Int.reduceNeg, Int.reduceLT, Int.reduceLE, decide_true, decide_false, Int.cast_ofNat_Int, Int.reduceEq, Int.reduceNe, Int.reduceGT, Int.reduceGE, Int.reduceAdd, Int.reduceSub, Int.reduceMul, Bool.and_true, Bool.true_and, Bool.and_false, Bool.false_and, Bool.not_true, Bool.not_false]
  refine DrawK_of (fun b => b < h.nxt + 1) (by rfl) (fun b hb => by simp; omega) ?_
  simp (disch := first | done | ((try simp only [Heap.add_nxt, Heap.put_nxt, Heap.del_nxt, bump_nxt]) <;> omega) | fail) only [go_sem, Nat.reduceAdd, Nat.reduceSub, Nat.reduceMul, Nat.reduceMod, Nat.reduceGT, Nat.reduceLeDiff, Nat.reduceEqDiff, Nat.reduceBEq, Nat.reduceBNe, Nat.reduceShiftRight, Nat.reduceAnd, Nat.reduceOr, Nat.reduceBneDiff, bne_self_eq_false, Nat.reduceLT, ↓reduceIte, reduceCtorEq, Int.reduceToNat, Int.reduceNeg, Int.reduceLT, Int.reduceLE, decide_true, decide_false, Int.cast_ofNat_Int, Int.reduceEq, Int.reduceNe, Int.reduceGT, Int.reduceGE, Int.reduceAdd, Int.reduceSub, Int.reduceMul, Bool.and_true, Bool.true_and, Bool.and_false, Bool.false_and, Bool.not_true, Bool.not_false]
  refine LoadK_of rfl (by simp) ?_
  simp (disch := first | done | ((try simp only [Heap.add_nxt, Heap.put_nxt, Heap.del_nxt, bump_nxt]) <;> omega) | fail) only [go_sem, Nat.reduceAdd, Nat.reduceSub, Nat.reduceMul, Nat.reduceMod, Nat.reduceGT, Nat.reduceLeDiff, Nat.reduceEqDiff, Nat.reduceBEq, Nat.reduceBNe, Nat.reduceShiftRight, Nat.reduceAnd, Nat.reduceOr, Nat.reduceBneDiff, bne_self_eq_false, Nat.reduceLT, ↓reduceIte, reduceCtorEq, Int.reduceToNat, Int.reduceNeg, Int.reduceLT, Int.reduceLE, decide_true, decide_false, Int.cast_ofNat_Int, Int.reduceEq, Int.reduceNe, Int.reduceGT, Int.reduceGE, Int.reduceAdd, Int.reduceSub, Int.reduceMul, Bool.and_true, Bool.true_and, Bool.and_false, Bool.false_and, Bool.not_true, Bool.not_false]
  refine callV_of F_47 rfl ((clone_int (sp.ext (((Ext.add _ _).trans (Ext.add _ _)).trans (Ext.bump _ _))) (by omega)).mono ?_)
  rintro v1 h1 ⟨e1, o1⟩
  obtain ⟨g0, g1, n1, x1⟩ := Ext.at2 ((Ext.bump _ _).trans e1)
  refine ⟨fun b hb => e1.get b (by simp; omega), ?_⟩
  simp (disch := first | done | ((try simp only [Heap.add_nxt, Heap.put_nxt, Heap.del_nxt, bump_nxt]) <;> omega) | fail) only [go_sem, Nat.reduceAdd, Nat.reduceSub, Nat.reduceMul, Nat.reduceMod, Nat.reduceGT, Nat.reduceLeDiff, Nat.reduceEqDiff, Nat.reduceBEq, Nat.reduceBNe, Nat.reduceShiftRight, Nat.reduceAnd, Nat.reduceOr, Nat.reduceBneDiff, bne_self_eq_false, Nat.reduceLT, ↓reduceIte, reduceCtorEq, Int.reduceToNat, Int.reduceNeg, Int.reduceLT, Int.reduceLE, decide_true, decide_false, Int.cast_ofNat_Int, Int.reduceEq, Int.reduceNe, Int.reduceGT, Int.reduceGE, Int.reduceAdd, Int.reduceSub, Int.reduceMul, Bool.and_true, Bool.true_and, Bool.and_false, Bool.false_and, Bool.not_true, Bool.not_false]
  refine LoadK_of rfl (by simp) ?_
  simp (disch := first | done | ((try simp only [Heap.add_nxt, Heap.put_nxt, Heap.del_nxt, bump_nxt]) <;> omega) | fail) only [go_sem, Nat.reduceAdd, Nat.reduceSub, Nat.reduceMul, Nat.reduceMod, Nat.reduceGT, Nat.reduceLeDiff, Nat.reduceEqDiff, Nat.reduceBEq, Nat.reduceBNe, Nat.reduceShiftRight, Nat.reduceAnd, Nat.reduceOr, Nat.reduceBneDiff, bne_self_eq_false, Nat.reduceLT, ↓reduceIte, reduceCtorEq, Int.reduceToNat, Int.reduceNeg, Int.reduceLT, Int.reduceLE, decide_true, decide_false, Int.cast_ofNat_Int, Int.reduceEq, Int.reduceNe, Int.reduceGT, Int.reduceGE, Int.reduceAdd, Int.reduceSub, Int.reduceMul, Bool.and_true, Bool.true_and, Bool.and_false, Bool.false_and, Bool.not_true, Bool.not_false, g0]
  refine callV_of F_47 rfl ((clone_int (sq.ext x1) (by omega)).mono ?_)
  rintro v2 h2 ⟨e2, o2⟩
  refine ⟨fun b hb => e2.get b (by omega), ?_⟩
  have g2 : h2.get (h.nxt + 1) = _ := (e2.get _ (by omega)).trans g1
  obtain ⟨v1a, v1c, v1z, rfl⟩ := o1.slc.form
  obtain ⟨v2a, v2c, v2z, rfl⟩ := o2.slc.form
  rw [I1_len] at o1 o2
  simp (disch := first | done | ((try simp only [Heap.add_nxt, Heap.put_nxt, Heap.del_nxt, bump_nxt]) <;> omega) | fail) only [go_sem, Nat.reduceAdd, Nat.reduceSub, Nat.reduceMul, Nat.reduceMod, Nat.reduceGT, Nat.reduceLeDiff, Nat.reduceEqDiff, Nat.reduceBEq, Nat.reduceBNe, Nat.reduceShiftRight, Nat.reduceAnd, Nat.reduceOr, Nat.reduceBneDiff, bne_self_eq_false, Nat.reduceLT, ↓reduceIte, reduceCtorEq, Int.reduceToNat, Int.reduceNeg, Int.reduceLT, Int.reduceLE, decide_true, decide_false, Int.cast_ofNat_Int, Int.reduceEq, Int.reduceNe, Int.reduceGT, Int.reduceGE, Int.reduceAdd, Int.reduceSub, Int.reduceMul, Bool.and_true, Bool.true_and, Bool.and_false, Bool.false_and, Bool.not_true, Bool.not_false, g2]
  refine ⟨fun b hb => by rw [Heap.get_put, if_neg (by omega)], hQ _ _ ⟨(x1.trans e2).put (by omega), _, _, rfl, ?_, ?_⟩⟩
  · exact ((o1.ext e2).put (by simp) _).le (by simp; omega)
  · exact (o2.put (by omega) _).le (by omega)

theorem Do_wf {h : Heap} {v : AV} {ps ns : List Int} {now : Int} (hv : Hi 0 h v ps ns) (hp : ps.length ≤ 999998) : WF T F 15 [v, .int .i64 now] h fun v' h' => Ext h h' ∧ Hi h.nxt h' v' ((ps ++ [now]).drop ((ps ++ [now]).length - 20)) [] := by
  obtain ⟨p, q, rfl, fp, fq⟩ := hv
  have sp := fp.slc
  have sq := fq.slc
  obtain ⟨pa, pc, pz, rfl⟩ := sp.form
  obtain ⟨qa, qc, qz, rfl⟩ := sq.form
  rw [I1_len] at sp sq fp fq
  refine WF.gen fun Q hQ => WF.of (F_15) (c := _) rfl ?_
  unfold Try.f15
  simp only [List.length, Nat.reduceSub, Nat.reduceAdd, List.replicate, List.cons_append, List.nil_append]
  simp (disch := first | done | ((try simp only [Heap.add_nxt, Heap.put_nxt, Heap.del_nxt, bump_nxt]) <;> omega) | fail) only [go_sem, Nat.reduceAdd, Nat.reduceSub, Nat.reduceMul, Nat.reduceMod, Nat.reduceGT, Nat.reduceLeDiff, Nat.reduceEqDiff, Nat.reduceBEq, Nat.reduceBNe, Nat.reduceShiftRight, Nat.reduceAnd, Nat.reduceOr, Nat.reduceBneDiff, bne_self_eq_false, Nat.reduceLT, ↓reduceIte, reduceCtorEq, Int.reduceToNat, Int.reduceNeg, Int.reduceLT, Int.reduceLE, decide_true, decide_false, Int.cast_ofNat_Int, Int.reduceEq, Int.reduceNe, Int.reduceGT, Int.reduceGE, Int.reduceAdd, Int.reduceSub, Int.reduceMul, Bool.and_true, Bool.true_and, Bool.and_false, Bool.false_and, Bool.not_true, Bool.not_false]
  refine callV_of F_32 rfl ((push_int (sp.ext ((Ext.add _ _).trans (Ext.add _ _))) (by omega)).mono ?_)
  rintro v1 h1 ⟨e1, m1⟩
  obtain ⟨g0, g1, n1, x1⟩ := e1.at2
  obtain ⟨a, c, z, rfl⟩ := m1.slc.form
  rw [I1_len, List.length_append] at m1
  simp (disch := first | done | ((try simp only [Heap.add_nxt, Heap.put_nxt, Heap.del_nxt, bump_nxt]) <;> omega) | fail) only [go_sem, Nat.reduceAdd, Nat.reduceSub, Nat.reduceMul, Nat.reduceMod, Nat.reduceGT, Nat.reduceLeDiff, Nat.reduceEqDiff, Nat.reduceBEq, Nat.reduceBNe, Nat.reduceShiftRight, Nat.reduceAnd, Nat.reduceOr, Nat.reduceBneDiff, bne_self_eq_false, Nat.reduceLT, ↓reduceIte, reduceCtorEq, Int.reduceToNat, Int.reduceNeg, Int.reduceLT, Int.reduceLE, decide_true, decide_false, Int.cast_ofNat_Int, Int.reduceEq, Int.reduceNe, Int.reduceGT, Int.reduceGE, Int.reduceAdd, Int.reduceSub, Int.reduceMul, Bool.and_true, Bool.true_and, Bool.and_false, Bool.false_and, Bool.not_true, Bool.not_false]
  generalize hi : (if 0 > ((ps.length + 1 : Nat) : Int) - 20 then (0 : Int) else ((ps.length + 1 : Nat) : Int) - 20) = i
  have hi2 : i = max 0 ((ps.length : Int) + 1 - 20) := by rw [← hi]; split <;> omega
  refine mine_lo m1 T_24 rfl T_3 rfl (by omega) (by simp; omega) ?_
  intro v2 s2 _
  have : (I1 (ps ++ [now])).drop i.toNat = I1 ((ps ++ [now]).drop ((ps ++ [now]).length - 20)) := by
    simp only [I1, ← List.map_drop]; congr 2; simp; omega
  rw [this] at s2
  obtain ⟨v2a, v2c, v2z, rfl⟩ := s2.slc.form
  simp (disch := first | done | ((try simp only [Heap.add_nxt, Heap.put_nxt, Heap.del_nxt, bump_nxt]) <;> omega) | fail) only [go_sem, Nat.reduceAdd, Nat.reduceSub, Nat.reduceMul, Nat.reduceMod, Nat.reduceGT, Nat.reduceLeDiff, Nat.reduceEqDiff, Nat.reduceBEq, Nat.reduceBNe, Nat.reduceShiftRight, Nat.reduceAnd, Nat.reduceOr, Nat.reduceBneDiff, bne_self_eq_false, Nat.reduceLT, ↓reduceIte, reduceCtorEq, Int.reduceToNat, Int.reduceNeg, Int.reduceLT, Int.reduceLE, decide_true, decide_false, Int.cast_ofNat_Int, Int.reduceEq, Int.reduceNe, Int.reduceGT, Int.reduceGE, Int.reduceAdd, Int.reduceSub, Int.reduceMul, Bool.and_true, Bool.true_and, Bool.and_false, Bool.false_and, Bool.not_true, Bool.not_false, g1]
  exact hQ _ _ ⟨x1.put (by omega), _, _, rfl, by simpa using (Fresh.put s2.fresh (b := h.nxt + 1) (by simp) _).le (m' := h.nxt) (by simp; omega), Fresh.nil⟩

theorem Undo_wf {h : Heap} {v : AV} {ps ns : List Int} {now : Int} (hv : Hi 0 h v ps ns) (hp : ps.length ≤ 999998) (hn : ns.length ≤ 999998) : WF T F 16 [v, .int .i64 now] h fun v' h' => Ext h h' ∧
    ((ps = [] ∧ ∃ x, v' = .tup [x, .int .i64 0, .bool false] ∧ Hi h.nxt h' x ps ns) ∨ ∃ was x, ps.getLast? = some was ∧ v' = .tup [x, .int .i64 was, .bool true] ∧ Hi h.nxt h' x ps.dropLast (ns ++ [now])) := by
  obtain ⟨p, q, rfl, fp, fq⟩ := hv
  have sp := fp.slc
  have sq := fq.slc
  obtain ⟨pa, pc, pz, rfl⟩ := sp.form
  obtain ⟨qa, qc, qz, rfl⟩ := sq.form
  rw [I1_len] at sp sq fp fq
  refine WF.gen fun Q hQ => WF.of (F_16) (c := _) rfl ?_
  unfold Try.f16
  simp only [List.length, Nat.reduceSub, Nat.reduceAdd, List.replicate, List.cons_append, List.nil_append]
  simp (disch := first | done | ((try simp only [Heap.add_nxt, Heap.put_nxt, Heap.del_nxt, bump_nxt]) <;> omega) | fail) only [go_sem, Nat.reduceAdd, Nat.reduceSub, Nat.reduceMul, Nat.reduceMod, Nat.reduceGT, Nat.reduceLeDiff, Nat.reduceEqDiff, Nat.reduceBEq, Nat.reduceBNe, Nat.reduceShiftRight, Nat.reduceAnd, Nat.reduceOr, Nat.reduceBneDiff, bne_self_eq_false, Nat.reduceLT, ↓reduceIte, reduceCtorEq, Int.reduceToNat, Int.reduceNeg, Int.reduceLT, Int.reduceLE, decide_true, decide_false, Int.cast_ofNat_Int, Int.reduceEq, Int.reduceNe, Int.reduceGT, Int.reduceGE, Int.reduceAdd, Int.reduceSub, Int.reduceMul, Bool.and_true, Bool.true_and, Bool.and_false, Bool.false_and, Bool.not_true, Bool.not_false]
  refine callV_of F_33 rfl ((pop_int (sp.ext ((Ext.add _ _).trans (Ext.add _ _))) (by omega)).mono ?_)
  rintro v1 h1 ⟨e1, hc⟩
  obtain ⟨g0, g1, n1, x1⟩ := e1.at2
  rcases hc with ⟨rfl, rfl⟩ | ⟨was, p1, hne, hl, rfl, o1⟩
  · simp (disch := first | done | ((try simp only [Heap.add_nxt, Heap.put_nxt, Heap.del_nxt, bump_nxt]) <;> omega) | fail) only [go_sem, Nat.reduceAdd, Nat.reduceSub, Nat.reduceMul, Nat.reduceMod, Nat.reduceGT, Nat.reduceLeDiff, Nat.reduceEqDiff, Nat.reduceBEq, Nat.reduceBNe, Nat.reduceShiftRight, Nat.reduceAnd, Nat.reduceOr, Nat.reduceBneDiff, bne_self_eq_false, Nat.reduceLT, ↓reduceIte, reduceCtorEq, Int.reduceToNat, Int.reduceNeg, Int.reduceLT, Int.reduceLE, decide_true, decide_false, Int.cast_ofNat_Int, Int.reduceEq, Int.reduceNe, Int.reduceGT, Int.reduceGE, Int.reduceAdd, Int.reduceSub, Int.reduceMul, Bool.and_true, Bool.true_and, Bool.and_false, Bool.false_and, Bool.not_true, Bool.not_false, g0]
    refine callV_of F_34 rfl ((twin_wf (h := h1) (ps := []) (ns := ns) ⟨_, _, rfl, fp.ext x1, fq.ext x1⟩ (by simp) (by omega)).mono ?_)
    rintro v2 h2 ⟨e2, p2, q2, rfl, s2, t2⟩
    have g2 : h2.get (h.nxt + 1) = _ := (e2.get _ (by omega)).trans g1
    obtain ⟨p2a, p2c, p2z, rfl⟩ := s2.slc.form
    obtain ⟨q2a, q2c, q2z, rfl⟩ := t2.slc.form
    rw [I1_len] at s2 t2
    simp (disch := first | done | ((try simp only [Heap.add_nxt, Heap.put_nxt, Heap.del_nxt, bump_nxt]) <;> omega) | fail) only [go_sem, Nat.reduceAdd, Nat.reduceSub, Nat.reduceMul, Nat.reduceMod, Nat.reduceGT, Nat.reduceLeDiff, Nat.reduceEqDiff, Nat.reduceBEq, Nat.reduceBNe, Nat.reduceShiftRight, Nat.reduceAnd, Nat.reduceOr, Nat.reduceBneDiff, bne_self_eq_false, Nat.reduceLT, ↓reduceIte, reduceCtorEq, Int.reduceToNat, Int.reduceNeg, Int.reduceLT, Int.reduceLE, decide_true, decide_false, Int.cast_ofNat_Int, Int.reduceEq, Int.reduceNe, Int.reduceGT, Int.reduceGE, Int.reduceAdd, Int.reduceSub, Int.reduceMul, Bool.and_true, Bool.true_and, Bool.and_false, Bool.false_and, Bool.not_true, Bool.not_false, g2]
    exact hQ _ _ ⟨(x1.trans e2).put (by omega), .inl ⟨rfl, _, rfl, _, _, rfl, (s2.put (by omega) _).le (by omega), (t2.put (by omega) _).le (by omega)⟩⟩
  · simp (disch := first | done | ((try simp only [Heap.add_nxt, Heap.put_nxt, Heap.del_nxt, bump_nxt]) <;> omega) | fail) only [go_sem, Nat.reduceAdd, Nat.reduceSub, Nat.reduceMul, Nat.reduceMod, Nat.reduceGT, Nat.reduceLeDiff, Nat.reduceEqDiff, Nat.reduceBEq, Nat.reduceBNe, Nat.reduceShiftRight, Nat.reduceAnd, Nat.reduceOr, Nat.reduceBneDiff, bne_self_eq_false, Nat.reduceLT, ↓reduceIte, reduceCtorEq, Int.reduceToNat, Int.reduceNeg, Int.reduceLT, Int.reduceLE, decide_true, decide_false, Int.cast_ofNat_Int, Int.reduceEq, Int.reduceNe, Int.reduceGT, Int.reduceGE, Int.reduceAdd, Int.reduceSub, Int.reduceMul, Bool.and_true, Bool.true_and, Bool.and_false, Bool.false_and, Bool.not_true, Bool.not_false, g0]
    refine callV_of F_32 rfl ((push_int (sq.ext x1) (by omega)).mono ?_)
    rintro v2 h2 ⟨e2, m2⟩
    have g2 : h2.get (h.nxt + 1) = _ := (e2.get _ (by omega)).trans g1
    obtain ⟨v1a, v1c, v1z, rfl⟩ := o1.slc.form
    obtain ⟨v2a, v2c, v2z, rfl⟩ := m2.slc.form
    simp (disch := first | done | ((try simp only [Heap.add_nxt, Heap.put_nxt, Heap.del_nxt, bump_nxt]) <;> omega) | fail) only [go_sem, Nat.reduceAdd, Nat.reduceSub, Nat.reduceMul, Nat.reduceMod, Nat.reduceGT, Nat.reduceLeDiff, Nat.reduceEqDiff, Nat.reduceBEq, Nat.reduceBNe, Nat.reduceShiftRight, Nat.reduceAnd, Nat.reduceOr, Nat.reduceBneDiff, bne_self_eq_false, Nat.reduceLT, ↓reduceIte, reduceCtorEq, Int.reduceToNat, Int.reduceNeg, Int.reduceLT, Int.reduceLE, decide_true, decide_false, Int.cast_ofNat_Int, Int.reduceEq, Int.reduceNe, Int.reduceGT, Int.reduceGE, Int.reduceAdd, Int.reduceSub, Int.reduceMul, Bool.and_true, Bool.true_and, Bool.and_false, Bool.false_and, Bool.not_true, Bool.not_false, g2]
    exact hQ _ _ ⟨(x1.trans e2).put (by omega), .inr ⟨was, _, hl, rfl, _, _, rfl, by simpa using (Fresh.put (o1.ext e2) (b := h.nxt + 1) (by simp) _).le (m' := h.nxt) (by simp; omega), by simpa using (Fresh.put m2.fresh (b := h.nxt + 1) (by omega) _).le (m' := h.nxt) (by omega)⟩⟩

theorem Redo_wf {h : Heap} {v : AV} {ps ns : List Int} {now : Int} (hv : Hi 0 h v ps ns) (hp : ps.length ≤ 999998) (hn : ns.length ≤ 999998) : WF T F 17 [v, .int .i64 now] h fun v' h' => Ext h h' ∧
    ((ns = [] ∧ ∃ x, v' = .tup [x, .int .i64 0, .bool false] ∧ Hi h.nxt h' x ps ns) ∨ ∃ was x, ns.getLast? = some was ∧ v' = .tup [x, .int .i64 was, .bool true] ∧ Hi h.nxt h' x (ps ++ [now]) ns.dropLast) := by
  obtain ⟨p, q, rfl, fp, fq⟩ := hv
  have sp := fp.slc
  have sq := fq.slc
  obtain ⟨pa, pc, pz, rfl⟩ := sp.form
  obtain ⟨qa, qc, qz, rfl⟩ := sq.form
  rw [I1_len] at sp sq fp fq
  refine WF.gen fun Q hQ => WF.of (F_17) (c := _) rfl ?_
  unfold Try.f17
  simp only [List.length, Nat.reduceSub, Nat.reduceAdd, List.replicate, List.cons_append, List.nil_append]
  simp (disch := first | done | ((try simp only [Heap.add_nxt, Heap.put_nxt, Heap.del_nxt, bump_nxt]) <;> omega) | fail) only [go_sem, Nat.reduceAdd, Nat.reduceSub, Nat.reduceMul, Nat.reduceMod, Nat.reduceGT, Nat.reduceLeDiff, Nat.reduceEqDiff, Nat.reduceBEq, Nat.reduceBNe, Nat.reduceShiftRight, Nat.reduceAnd, Nat.reduceOr, Nat.reduceBneDiff, bne_self_eq_false, Nat.reduceLT, ↓reduceIte, reduceCtorEq, Int.reduceToNat, Int.reduceNeg, Int.reduceLT, Int.reduceLE, decide_true, decide_false, Int.cast_ofNat_Int, Int.reduceEq, Int.reduceNe, Int.reduceGT, Int.reduceGE, Int.reduceAdd, Int.reduceSub, Int.reduceMul, Bool.and_true, Bool.true_and, Bool.and_false, Bool.false_and, Bool.not_true, Bool.not_false]
  refine callV_of F_33 rfl ((pop_int (sq.ext ((Ext.add _ _).trans (Ext.add _ _))) (by omega)).mono ?_)
  rintro v1 h1 ⟨e1, hc⟩
  obtain ⟨g0, g1, n1, x1⟩ := e1.at2
  rcases hc with ⟨rfl, rfl⟩ | ⟨was, p1, hne, hl, rfl, o1⟩
  · simp (disch := first | done | ((try simp only [Heap.add_nxt, Heap.put_nxt, Heap.del_nxt, bump_nxt]) <;> omega) | fail) only [go_sem, Nat.reduceAdd, Nat.reduceSub, Nat.reduceMul, Nat.reduceMod, Nat.reduceGT, Nat.reduceLeDiff, Nat.reduceEqDiff, Nat.reduceBEq, Nat.reduceBNe, Nat.reduceShiftRight, Nat.reduceAnd, Nat.reduceOr, Nat.reduceBneDiff, bne_self_eq_false, Nat.reduceLT, ↓reduceIte, reduceCtorEq, Int.reduceToNat, Int.reduceNeg, Int.reduceLT, Int.reduceLE, decide_true, decide_false, Int.cast_ofNat_Int, Int.reduceEq, Int.reduceNe, Int.reduceGT, Int.reduceGE, Int.reduceAdd, Int.reduceSub, Int.reduceMul, Bool.and_true, Bool.true_and, Bool.and_false, Bool.false_and, Bool.not_true, Bool.not_false, g0]
    refine callV_of F_34 rfl ((twin_wf (h := h1) (ps := ps) (ns := []) ⟨_, _, rfl, fp.ext x1, fq.ext x1⟩ (by omega) (by simp)).mono ?_)
    rintro v2 h2 ⟨e2, p2, q2, rfl, s2, t2⟩
    have g2 : h2.get (h.nxt + 1) = _ := (e2.get _ (by omega)).trans g1
    obtain ⟨p2a, p2c, p2z, rfl⟩ := s2.slc.form
    obtain ⟨q2a, q2c, q2z, rfl⟩ := t2.slc.form
    rw [I1_len] at s2 t2
    simp (disch := first | done | ((try simp only [Heap.add_nxt, Heap.put_nxt, Heap.del_nxt, bump_nxt]) <;> omega) | fail) only [go_sem, Nat.reduceAdd, Nat.reduceSub, Nat.reduceMul, Nat.reduceMod, Nat.reduceGT, Nat.reduceLeDiff, Nat.reduceEqDiff, Nat.reduceBEq, Nat.reduceBNe, Nat.reduceShiftRight, Nat.reduceAnd, Nat.reduceOr, Nat.reduceBneDiff, bne_self_eq_false, Nat.reduceLT, ↓reduceIte, reduceCtorEq, Int.reduceToNat, Int.reduceNeg, Int.reduceLT, Int.reduceLE, decide_true, decide_false, Int.cast_ofNat_Int, Int.reduceEq, Int.reduceNe, Int.reduceGT, Int.reduceGE, Int.reduceAdd, Int.reduceSub, Int.reduceMul, Bool.and_true, Bool.true_and, Bool.and_false, Bool.false_and, Bool.not_true, Bool.not_false, g2]
    exact hQ _ _ ⟨(x1.trans e2).put (by omega), .inl ⟨rfl, _, rfl, _, _, rfl, (s2.put (by omega) _).le (by omega), (t2.put (by omega) _).le (by omega)⟩⟩
  · simp (disch := first | done | ((try simp only [Heap.add_nxt, Heap.put_nxt, Heap.del_nxt, bump_nxt]) <;> omega) | fail) only [go_sem, Nat.reduceAdd, Nat.reduceSub, Nat.reduceMul, Nat.reduceMod, Nat.reduceGT, Nat.reduceLeDiff, Nat.reduceEqDiff, Nat.reduceBEq, Nat.reduceBNe, Nat.reduceShiftRight, Nat.reduceAnd, Nat.reduceOr, Nat.reduceBneDiff, bne_self_eq_false, Nat.reduceLT, ↓reduceIte, reduceCtorEq, Int.reduceToNat, Int.reduceNeg, Int.reduceLT, Int.reduceLE, decide_true, decide_false, Int.cast_ofNat_Int, Int.reduceEq, Int.reduceNe, Int.reduceGT, Int.reduceGE, Int.reduceAdd, Int.reduceSub, Int.reduceMul, Bool.and_true, Bool.true_and, Bool.and_false, Bool.false_and, Bool.not_true, Bool.not_false, g0]
    refine callV_of F_32 rfl ((push_int (sp.ext x1) (by omega)).mono ?_)
    rintro v2 h2 ⟨e2, m2⟩
    have g2 : h2.get (h.nxt + 1) = _ := (e2.get _ (by omega)).trans g1
    obtain ⟨v1a, v1c, v1z, rfl⟩ := o1.slc.form
    obtain ⟨v2a, v2c, v2z, rfl⟩ := m2.slc.form
    simp (disch := first | done | ((try simp only [Heap.add_nxt, Heap.put_nxt, Heap.del_nxt, bump_nxt]) <;> omega) | fail) only [go_sem, Nat.reduceAdd, Nat.reduceSub, Nat.reduceMul, Nat.reduceMod, Nat.reduceGT, Nat.reduceLeDiff, Nat.reduceEqDiff, Nat.reduceBEq, Nat.reduceBNe, Nat.reduceShiftRight, Nat.reduceAnd, Nat.reduceOr, Nat.reduceBneDiff, bne_self_eq_false, Nat.reduceLT, ↓reduceIte, reduceCtorEq, Int.reduceToNat, Int.reduceNeg, Int.reduceLT, Int.reduceLE, decide_true, decide_false, Int.cast_ofNat_Int, Int.reduceEq, Int.reduceNe, Int.reduceGT, Int.reduceGE, Int.reduceAdd, Int.reduceSub, Int.reduceMul, Bool.and_true, Bool.true_and, Bool.and_false, Bool.false_and, Bool.not_true, Bool.not_false, g2]
    exact hQ _ _ ⟨(x1.trans e2).put (by omega), .inr ⟨was, _, hl, rfl, _, _, rfl, by simpa using (Fresh.put m2.fresh (b := h.nxt + 1) (by omega) _).le (m' := h.nxt) (by omega), by simpa using (Fresh.put (o1.ext e2) (b := h.nxt + 1) (by simp) _).le (m' := h.nxt) (by simp; omega)⟩⟩

/-- Loops: what slots are kept. -/
theorem Same_wf {h : Heap} {a b : AV} {xs ys : List Int} (ha : Slc h a 1 (I1 xs)) (hb : Slc h b 1 (I1 ys)) (hx : xs.length ≤ 1000000) (hy : ys.length ≤ 1000000) : WF T F 18 [a, b] h fun v h' => Ext h h' ∧ v = .bool (decide (xs = ys)) := by
  obtain ⟨aa, ac, az, rfl⟩ := ha.form
  obtain ⟨ba, bc, bz, rfl⟩ := hb.form
  rw [I1_len] at ha hb
  refine WF.gen fun Q hQ => WF.of (F_18) (c := _) rfl ?_
  unfold Try.f18
  simp only [List.length, Nat.reduceSub, Nat.reduceAdd, List.replicate, List.cons_append, List.nil_append]
  simp (disch := first | done | ((try simp only [Heap.add_nxt, Heap.put_nxt, Heap.del_nxt, bump_nxt]) <;> omega) | fail) only [go_sem, Nat.reduceAdd, Nat.reduceSub, Nat.reduceMul, Nat.reduceMod, Nat.reduceGT, Nat.reduceLeDiff, Nat.reduceEqDiff, Nat.reduceBEq, Nat.reduceBNe, Nat.reduceShiftRight, Nat.reduceAnd, Nat.reduceOr, Nat.reduceBneDiff, bne_self_eq_false, Nat.reduceLT, ↓reduceIte, reduceCtorEq, Int.reduceToNat, Int.reduceNeg, Int.reduceLT, Int.reduceLE, decide_true, decide_false, Int.cast_ofNat_Int, Int.reduceEq, Int.reduceNe, Int.reduceGT, Int.reduceGE, Int.reduceAdd, Int.reduceSub, Int.reduceMul, Bool.and_true, Bool.true_and, Bool.and_false, Bool.false_and, Bool.not_true, Bool.not_false]
  refine condK_not (fun hl => ?_) (fun hl => ?_)
  · simp (disch := first | done | ((try simp only [Heap.add_nxt, Heap.put_nxt, Heap.del_nxt, bump_nxt]) <;> omega) | fail) only [go_sem, Nat.reduceAdd, Nat.reduceSub, Nat.reduceMul, Nat.reduceMod, Nat.reduceGT, Nat.reduceLeDiff, Nat.reduceEqDiff, Nat.reduceBEq, Nat.reduceBNe, Nat.reduceShiftRight, Nat.reduceAnd, Nat.reduceOr, Nat.reduceBneDiff, bne_self_eq_false, Nat.reduceLT, ↓reduceIte, reduceCtorEq, Int.reduceToNat, Int.reduceNeg, Int.reduceLT, Int.reduceLE, decide_true, decide_false, Int.cast_ofNat_Int, Int.reduceEq, Int.reduceNe, Int.reduceGT, Int.reduceGE, Int.reduceAdd, Int.reduceSub, Int.reduceMul, Bool.and_true, Bool.true_and, Bool.and_false, Bool.false_and, Bool.not_true, Bool.not_false]
    exact hQ _ _ ⟨Ext.refl h, by rw [decide_eq_false]; intro e; subst e; exact hl rfl⟩
  · simp (disch := first | done | ((try simp only [Heap.add_nxt, Heap.put_nxt, Heap.del_nxt, bump_nxt]) <;> omega) | fail) only [go_sem, Nat.reduceAdd, Nat.reduceSub, Nat.reduceMul, Nat.reduceMod, Nat.reduceGT, Nat.reduceLeDiff, Nat.reduceEqDiff, Nat.reduceBEq, Nat.reduceBNe, Nat.reduceShiftRight, Nat.reduceAnd, Nat.reduceOr, Nat.reduceBneDiff, bne_self_eq_false, Nat.reduceLT, ↓reduceIte, reduceCtorEq, Int.reduceToNat, Int.reduceNeg, Int.reduceLT, Int.reduceLE, decide_true, decide_false, Int.cast_ofNat_Int, Int.reduceEq, Int.reduceNe, Int.reduceGT, Int.reduceGE, Int.reduceAdd, Int.reduceSub, Int.reduceMul, Bool.and_true, Bool.true_and, Bool.and_false, Bool.false_and, Bool.not_true, Bool.not_false]
    refine LoopK_while (fun m s h1 => ∃ i, Ext h h1 ∧ i ≤ xs.length ∧ m = xs.length - i ∧ xs.take i = ys.take i ∧ Keep s 26 [(0, .slc aa xs.length ac az), (1, .slc ba ys.length bc bz), (4, .bool false), (5, .int .i64 i)]) xs.length ⟨0, Ext.refl h, by omega, rfl, rfl, rfl, by simp [Has]⟩ ?_
    rintro m s h1 ⟨i, e1, hi, rfl, heq, hk⟩
    rw [hk.eq]
    obtain ⟨k0, k1, k4, k5, -⟩ := hk.2
    simp only [slotsFrom, Nat.reduceAdd] at k0 k1 k4 k5 ⊢
    simp only [k0, k1, k4, k5]
    simp (disch := first | done | ((try simp only [Heap.add_nxt, Heap.put_nxt, Heap.del_nxt, bump_nxt]) <;> omega) | fail) only [go_sem, Nat.reduceAdd, Nat.reduceSub, Nat.reduceMul, Nat.reduceMod, Nat.reduceGT, Nat.reduceLeDiff, Nat.reduceEqDiff, Nat.reduceBEq, Nat.reduceBNe, Nat.reduceShiftRight, Nat.reduceAnd, Nat.reduceOr, Nat.reduceBneDiff, bne_self_eq_false, Nat.reduceLT, ↓reduceIte, reduceCtorEq, Int.reduceToNat, Int.reduceNeg, Int.reduceLT, Int.reduceLE, decide_true, decide_false, Int.cast_ofNat_Int, Int.reduceEq, Int.reduceNe, Int.reduceGT, Int.reduceGE, Int.reduceAdd, Int.reduceSub, Int.reduceMul, Bool.and_true, Bool.true_and, Bool.and_false, Bool.false_and, Bool.not_true, Bool.not_false]
    refine condK_dec (fun hlt => ?_) (fun hge => ?_)
    · have hlt : i < xs.length := by omega
      obtain ⟨b1, o1, cs1, wr1, rfl, rfl, hb1, hg1, hc1⟩ := ha.at1 (by simp; omega)
      obtain ⟨b2, o2, cs2, wr2, rfl, rfl, hb2, hg2, hc2⟩ := hb.at1 (by simp; omega)
      have g1 : h1.get b1 = _ := (e1.get _ hb1).trans hg1
      have g2 : h1.get b2 = _ := (e1.get _ hb2).trans hg2
      have c1 := hc1 i (.int .i64 xs[i]) (by simp [I1, hlt])
      have hlt2 : i < ys.length := by omega
      have c2 := hc2 i (.int .i64 ys[i]) (by simp [I1, hlt2])
      simp (disch := first | done | ((try simp only [Heap.add_nxt, Heap.put_nxt, Heap.del_nxt, bump_nxt]) <;> omega) | fail) only [go_sem, Nat.reduceAdd, Nat.reduceSub, Nat.reduceMul, Nat.reduceMod, Nat.reduceGT, Nat.reduceLeDiff, Nat.reduceEqDiff, Nat.reduceBEq, Nat.reduceBNe, Nat.reduceShiftRight, Nat.reduceAnd, Nat.reduceOr, Nat.reduceBneDiff, bne_self_eq_false, Nat.reduceLT, ↓reduceIte, reduceCtorEq, Int.reduceToNat, Int.reduceNeg, Int.reduceLT, Int.reduceLE, decide_true, decide_false, Int.cast_ofNat_Int, Int.reduceEq, Int.reduceNe, Int.reduceGT, Int.reduceGE, Int.reduceAdd, Int.reduceSub, Int.reduceMul, Bool.and_true, Bool.true_and, Bool.and_false, Bool.false_and, Bool.not_true, Bool.not_false]
      refine DrawK_quiet (by rfl) ?_
      simp (disch := first | done | ((try simp only [Heap.add_nxt, Heap.put_nxt, Heap.del_nxt, bump_nxt]) <;> omega) | fail) only [go_sem, Nat.reduceAdd, Nat.reduceSub, Nat.reduceMul, Nat.reduceMod, Nat.reduceGT, Nat.reduceLeDiff, Nat.reduceEqDiff, Nat.reduceBEq, Nat.reduceBNe, Nat.reduceShiftRight, Nat.reduceAnd, Nat.reduceOr, Nat.reduceBneDiff, bne_self_eq_false, Nat.reduceLT, ↓reduceIte, reduceCtorEq, Int.reduceToNat, Int.reduceNeg, Int.reduceLT, Int.reduceLE, decide_true, decide_false, Int.cast_ofNat_Int, Int.reduceEq, Int.reduceNe, Int.reduceGT, Int.reduceGE, Int.reduceAdd, Int.reduceSub, Int.reduceMul, Bool.and_true, Bool.true_and, Bool.and_false, Bool.false_and, Bool.not_true, Bool.not_false, g1, g2, Int.toNat_natCast, c1, c2]
      refine condK_not (fun hne => ?_) (fun heq2 => ?_)
      · simp (disch := first | done | ((try simp only [Heap.add_nxt, Heap.put_nxt, Heap.del_nxt, bump_nxt]) <;> omega) | fail) only [go_sem, Nat.reduceAdd, Nat.reduceSub, Nat.reduceMul, Nat.reduceMod, Nat.reduceGT, Nat.reduceLeDiff, Nat.reduceEqDiff, Nat.reduceBEq, Nat.reduceBNe, Nat.reduceShiftRight, Nat.reduceAnd, Nat.reduceOr, Nat.reduceBneDiff, bne_self_eq_false, Nat.reduceLT, ↓reduceIte, reduceCtorEq, Int.reduceToNat, Int.reduceNeg, Int.reduceLT, Int.reduceLE, decide_true, decide_false, Int.cast_ofNat_Int, Int.reduceEq, Int.reduceNe, Int.reduceGT, Int.reduceGE, Int.reduceAdd, Int.reduceSub, Int.reduceMul, Bool.and_true, Bool.true_and, Bool.and_false, Bool.false_and, Bool.not_true, Bool.not_false]
        refine hQ _ _ ⟨e1.trans (Ext.bump _ _), by rw [decide_eq_false]; intro e; subst e; exact hne rfl⟩
      · simp (disch := first | done | ((try simp only [Heap.add_nxt, Heap.put_nxt, Heap.del_nxt, bump_nxt]) <;> omega) | fail) only [go_sem, Nat.reduceAdd, Nat.reduceSub, Nat.reduceMul, Nat.reduceMod, Nat.reduceGT, Nat.reduceLeDiff, Nat.reduceEqDiff, Nat.reduceBEq, Nat.reduceBNe, Nat.reduceShiftRight, Nat.reduceAnd, Nat.reduceOr, Nat.reduceBneDiff, bne_self_eq_false, Nat.reduceLT, ↓reduceIte, reduceCtorEq, Int.reduceToNat, Int.reduceNeg, Int.reduceLT, Int.reduceLE, decide_true, decide_false, Int.cast_ofNat_Int, Int.reduceEq, Int.reduceNe, Int.reduceGT, Int.reduceGE, Int.reduceAdd, Int.reduceSub, Int.reduceMul, Bool.and_true, Bool.true_and, Bool.and_false, Bool.false_and, Bool.not_true, Bool.not_false]
        refine AgainK.mk (xs.length - (i + 1)) (by simp; omega) ⟨i + 1, e1.trans (Ext.bump _ _), by omega, rfl, ?_, rfl, by simp [Has]⟩
        rw [List.take_add_one, List.take_add_one, heq]; simp [hlt, hlt2, heq2]
    · simp (disch := first | done | ((try simp only [Heap.add_nxt, Heap.put_nxt, Heap.del_nxt, bump_nxt]) <;> omega) | fail) only [go_sem, Nat.reduceAdd, Nat.reduceSub, Nat.reduceMul, Nat.reduceMod, Nat.reduceGT, Nat.reduceLeDiff, Nat.reduceEqDiff, Nat.reduceBEq, Nat.reduceBNe, Nat.reduceShiftRight, Nat.reduceAnd, Nat.reduceOr, Nat.reduceBneDiff, bne_self_eq_false, Nat.reduceLT, ↓reduceIte, reduceCtorEq, Int.reduceToNat, Int.reduceNeg, Int.reduceLT, Int.reduceLE, decide_true, decide_false, Int.cast_ofNat_Int, Int.reduceEq, Int.reduceNe, Int.reduceGT, Int.reduceGE, Int.reduceAdd, Int.reduceSub, Int.reduceMul, Bool.and_true, Bool.true_and, Bool.and_false, Bool.false_and, Bool.not_true, Bool.not_false]
      refine hQ _ _ ⟨e1, ?_⟩
      have : i = xs.length := by omega
      subst this
      rw [decide_eq_true]
      rw [List.take_length] at heq
      rw [heq, List.take_of_length_le (by omega)]
end Go.Proofs.Ytibehogiobencaa
