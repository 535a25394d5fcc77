/-
  The law RexCount: what it comes to.
-/
import Derived.Test.YtenpjkinpecnfaaRexM
import Derived.Test.YtenpjkinpecnfaaRexAll
namespace Go.Proofs.Ytenpjkinpecnfaa
open Go Go.Am
set_option maxRecDepth 100000
set_option maxHeartbeats 4000000
set_option linter.unusedSimpArgs false
set_option linter.unusedVariables false

def step_ (n : Int) (x : Item) : Int := if x.op = 1 then n + 1 else if x.op = 2 ∨ x.op = 3 then n - 1 else n
def exec : Int → List Item → Option Int
  | n, [] => some n
  | n, x :: l => if step_ n x < 1 then none else exec (step_ n x) l
def ItemOk (x : Item) : Prop := (x.op = 1 ∧ x.l ≠ [] ∧ ∀ r ∈ x.l, RngOk r) ∨ ((x.op = 2 ∨ x.op = 3 ∨ x.op = 4 ∨ x.op = 5 ∨ x.op = 6) ∧ x.l = [])

theorem exec_items : ∀ {e : Rx}, e.ok → ∀ n : Int, 0 ≤ n → ∀ rest, exec n (e.items ++ rest) = exec (n + 1) rest
  | .cls l, h, n, hn, rest => by
    simp only [Rx.items, List.cons_append, List.nil_append, exec, step_, if_true]
    rw [if_neg (by omega)]
  | .rep op a, h, n, hn, rest => by
    have ho := h.1
    simp only [Rx.items, List.append_assoc, List.cons_append, List.nil_append]
    rw [exec_items h.2 n hn, exec]
    have : step_ (n + 1) ⟨op, []⟩ = n + 1 := by
      simp only [step_]; rw [if_neg (by omega), if_neg (by omega)]
    rw [this, if_neg (by omega)]
  | .bin op a b, h, n, hn, rest => by
    have ho := h.1
    simp only [Rx.items, List.append_assoc, List.cons_append, List.nil_append]
    rw [exec_items h.2.1 n hn, exec_items h.2.2 (n + 1) (by omega), exec]
    have : step_ (n + 1 + 1) ⟨op, []⟩ = n + 1 := by
      simp only [step_]; rw [if_neg (by omega), if_pos (by omega)]; omega
    rw [this, if_neg (by omega)]
theorem items_ok : ∀ {e : Rx}, e.ok → ∀ x ∈ e.items, ItemOk x
  | .cls l, h, x, hx => by
    simp only [Rx.items, List.mem_singleton] at hx; subst hx; exact .inl ⟨rfl, h.1, h.2⟩
  | .rep op a, h, x, hx => by
    simp only [Rx.items, List.mem_append, List.mem_singleton] at hx
    rcases hx with hx | rfl
    · exact items_ok h.2 x hx
    · exact .inr ⟨by rcases h.1 with h | h | h <;> simp [h], rfl⟩
  | .bin op a b, h, x, hx => by
    simp only [Rx.items, List.mem_append, List.mem_singleton] at hx
    rcases hx with hx | hx | rfl
    · exact items_ok h.2.1 x hx
    · exact items_ok h.2.2 x hx
    · exact .inr ⟨by rcases h.1 with h | h <;> simp [h], rfl⟩
theorem parse_exec {s : List UInt8} {l : List Item} (e : parse s = some l) : exec 0 l = some 1 ∧ ∀ x ∈ l, ItemOk x := by
  obtain ⟨r, h1, rfl⟩ := parse_is e
  refine ⟨?_, items_ok h1⟩
  have := exec_items h1 0 (by omega) []
  rw [List.append_nil] at this
  rw [this]; rfl

theorem RexCount_uf {h : Heap} {s : List UInt8} {v : AV} {l : List UInt8} (hv : Lst h v l) : UF T F 4 [v, .str s] h fun v' _ => v' = .bool true := by
  obtain ⟨a, n, c, z, rfl, hn⟩ := hv.form
  refine UF.gen fun Q hQ => UF.of (F_4) (c := _) rfl ?_
  unfold Try.f4
  simp only [List.length, Nat.reduceSub, Nat.reduceAdd, List.replicate, List.cons_append, List.nil_append]
  simp (disch := first | done | ((try simp only [Heap.add_nxt, Heap.put_nxt, Heap.del_nxt, bump_nxt]) <;> omega) | fail) only [go_sem, Nat.reduceAdd, Nat.reduceSub, Nat.reduceMul, Nat.reduceMod, Nat.reduceGT, Nat.reduceLeDiff, Nat.reduceEqDiff, Nat.reduceBEq, Nat.reduceBNe, Nat.reduceShiftRight, Nat.reduceAnd, Nat.reduceOr, Nat.reduceBneDiff, bne_self_eq_false, Nat.reduceLT, ↓reduceIte, reduceCtorEq, Int.reduceToNat, Int.reduceNeg, Int.reduceLT, Int.reduceLE, decide_true, decide_false, Int.cast_ofNat_Int, Int.reduceEq, Int.reduceNe, Int.reduceGT, Int.reduceGE, Int.reduceAdd, Int.reduceSub, Int.reduceMul, Bool.and_true, Bool.true_and, Bool.and_false, Bool.false_and, Bool.not_true, Bool.not_false]
  refine callV_ofU F_21 rfl ((begun3_uf).mono ?_)
  rintro v1 h1 ⟨e1, rfl⟩
  simp (disch := first | done | ((try simp only [Heap.add_nxt, Heap.put_nxt, Heap.del_nxt, bump_nxt]) <;> omega) | fail) only [go_sem, Nat.reduceAdd, Nat.reduceSub, Nat.reduceMul, Nat.reduceMod, Nat.reduceGT, Nat.reduceLeDiff, Nat.reduceEqDiff, Nat.reduceBEq, Nat.reduceBNe, Nat.reduceShiftRight, Nat.reduceAnd, Nat.reduceOr, Nat.reduceBneDiff, bne_self_eq_false, Nat.reduceLT, ↓reduceIte, reduceCtorEq, Int.reduceToNat, Int.reduceNeg, Int.reduceLT, Int.reduceLE, decide_true, decide_false, Int.cast_ofNat_Int, Int.reduceEq, Int.reduceNe, Int.reduceGT, Int.reduceGE, Int.reduceAdd, Int.reduceSub, Int.reduceMul, Bool.and_true, Bool.true_and, Bool.and_false, Bool.false_and, Bool.not_true, Bool.not_false]
  by_cases h20 : (n : Int) > 20
  · simp (disch := first | done | ((try simp only [Heap.add_nxt, Heap.put_nxt, Heap.del_nxt, bump_nxt]) <;> omega) | fail) only [go_sem, Nat.reduceAdd, Nat.reduceSub, Nat.reduceMul, Nat.reduceMod, Nat.reduceGT, Nat.reduceLeDiff, Nat.reduceEqDiff, Nat.reduceBEq, Nat.reduceBNe, Nat.reduceShiftRight, Nat.reduceAnd, Nat.reduceOr, Nat.reduceBneDiff, bne_self_eq_false, Nat.reduceLT, ↓reduceIte, reduceCtorEq, Int.reduceToNat, Int.reduceNeg, Int.reduceLT, Int.reduceLE, decide_true, decide_false, Int.cast_ofNat_Int, Int.reduceEq, Int.reduceNe, Int.reduceGT, Int.reduceGE, Int.reduceAdd, Int.reduceSub, Int.reduceMul, Bool.and_true, Bool.true_and, Bool.and_false, Bool.false_and, Bool.not_true, Bool.not_false, h20]
    exact hQ _ _ rfl
  by_cases h24 : (s.length : Int) > 24
  · simp (disch := first | done | ((try simp only [Heap.add_nxt, Heap.put_nxt, Heap.del_nxt, bump_nxt]) <;> omega) | fail) only [go_sem, Nat.reduceAdd, Nat.reduceSub, Nat.reduceMul, Nat.reduceMod, Nat.reduceGT, Nat.reduceLeDiff, Nat.reduceEqDiff, Nat.reduceBEq, Nat.reduceBNe, Nat.reduceShiftRight, Nat.reduceAnd, Nat.reduceOr, Nat.reduceBneDiff, bne_self_eq_false, Nat.reduceLT, ↓reduceIte, reduceCtorEq, Int.reduceToNat, Int.reduceNeg, Int.reduceLT, Int.reduceLE, decide_true, decide_false, Int.cast_ofNat_Int, Int.reduceEq, Int.reduceNe, Int.reduceGT, Int.reduceGE, Int.reduceAdd, Int.reduceSub, Int.reduceMul, Bool.and_true, Bool.true_and, Bool.and_false, Bool.false_and, Bool.not_true, Bool.not_false, h20, h24]
    exact hQ _ _ rfl
  simp (disch := first | done | ((try simp only [Heap.add_nxt, Heap.put_nxt, Heap.del_nxt, bump_nxt]) <;> omega) | fail) only [go_sem, Nat.reduceAdd, Nat.reduceSub, Nat.reduceMul, Nat.reduceMod, Nat.reduceGT, Nat.reduceLeDiff, Nat.reduceEqDiff, Nat.reduceBEq, Nat.reduceBNe, Nat.reduceShiftRight, Nat.reduceAnd, Nat.reduceOr, Nat.reduceBneDiff, bne_self_eq_false, Nat.reduceLT, ↓reduceIte, reduceCtorEq, Int.reduceToNat, Int.reduceNeg, Int.reduceLT, Int.reduceLE, decide_true, decide_false, Int.cast_ofNat_Int, Int.reduceEq, Int.reduceNe, Int.reduceGT, Int.reduceGE, Int.reduceAdd, Int.reduceSub, Int.reduceMul, Bool.and_true, Bool.true_and, Bool.and_false, Bool.false_and, Bool.not_true, Bool.not_false, h20, h24]
  refine callV_ofU F_22 rfl ((Made_uf (hv.ext e1)).mono ?_)
  rintro v2 h2 ⟨e2, rfl, P2⟩
  simp (disch := first | done | ((try simp only [Heap.add_nxt, Heap.put_nxt, Heap.del_nxt, bump_nxt]) <;> omega) | fail) only [go_sem, Nat.reduceAdd, Nat.reduceSub, Nat.reduceMul, Nat.reduceMod, Nat.reduceGT, Nat.reduceLeDiff, Nat.reduceEqDiff, Nat.reduceBEq, Nat.reduceBNe, Nat.reduceShiftRight, Nat.reduceAnd, Nat.reduceOr, Nat.reduceBneDiff, bne_self_eq_false, Nat.reduceLT, ↓reduceIte, reduceCtorEq, Int.reduceToNat, Int.reduceNeg, Int.reduceLT, Int.reduceLE, decide_true, decide_false, Int.cast_ofNat_Int, Int.reduceEq, Int.reduceNe, Int.reduceGT, Int.reduceGE, Int.reduceAdd, Int.reduceSub, Int.reduceMul, Bool.and_true, Bool.true_and, Bool.and_false, Bool.false_and, Bool.not_true, Bool.not_false]
  refine callV_ofU F_23 rfl ((Rex_uf P2 (by omega)).mono ?_)
  rintro v3 h3 ⟨u3, P3, m, rfl, hm⟩
  simp (disch := first | done | ((try simp only [Heap.add_nxt, Heap.put_nxt, Heap.del_nxt, bump_nxt]) <;> omega) | fail) only [go_sem, Nat.reduceAdd, Nat.reduceSub, Nat.reduceMul, Nat.reduceMod, Nat.reduceGT, Nat.reduceLeDiff, Nat.reduceEqDiff, Nat.reduceBEq, Nat.reduceBNe, Nat.reduceShiftRight, Nat.reduceAnd, Nat.reduceOr, Nat.reduceBneDiff, bne_self_eq_false, Nat.reduceLT, ↓reduceIte, reduceCtorEq, Int.reduceToNat, Int.reduceNeg, Int.reduceLT, Int.reduceLE, decide_true, decide_false, Int.cast_ofNat_Int, Int.reduceEq, Int.reduceNe, Int.reduceGT, Int.reduceGE, Int.reduceAdd, Int.reduceSub, Int.reduceMul, Bool.and_true, Bool.true_and, Bool.and_false, Bool.false_and, Bool.not_true, Bool.not_false]
  obtain ⟨ml, hml⟩ := made_pat hm
  have hm24 : m.length ≤ 24 := by
    rcases hm with rfl | ⟨h24, _⟩
    · simp
    · exact h24
  have hmp := hml.parse hm24
  obtain ⟨hB, eB⟩ : ∃ hB, hB = h3.add (Blk.cells [AV.str m, AV.str s] true) := ⟨_, rfl⟩
  rw [← eB]
  have gB : hB.get h3.nxt = some (.cells [AV.str m, AV.str s] true) := by subst eB; exact get_add_self
  have nB : h3.nxt < hB.nxt := by subst eB; simp
  refine LoopU_while (fun q st hh => ∃ i : Nat, Ext hB hh ∧ i ≤ 2 ∧ q = 2 - i ∧ Keep st 153 [(5, .slc (some (h3.nxt, 0)) 2 (some 2) 1), (6, .int .i64 (i : Nat))]) 2 ⟨0, Ext.refl _, by omega, rfl, rfl, by simp [Has]⟩ ?_
  rintro q st hh ⟨i, eh, hi, rfl, hk⟩
  rw [hk.eq]
  obtain ⟨k5, k6, -⟩ := hk.2
  simp only [slotsFrom, Nat.reduceAdd] at k5 k6 ⊢
  simp only [k5, k6]
  simp (disch := first | done | ((try simp only [Heap.add_nxt, Heap.put_nxt, Heap.del_nxt, bump_nxt]) <;> omega) | fail) only [go_sem, Nat.reduceAdd, Nat.reduceSub, Nat.reduceMul, Nat.reduceMod, Nat.reduceGT, Nat.reduceLeDiff, Nat.reduceEqDiff, Nat.reduceBEq, Nat.reduceBNe, Nat.reduceShiftRight, Nat.reduceAnd, Nat.reduceOr, Nat.reduceBneDiff, bne_self_eq_false, Nat.reduceLT, ↓reduceIte, reduceCtorEq, Int.reduceToNat, Int.reduceNeg, Int.reduceLT, Int.reduceLE, decide_true, decide_false, Int.cast_ofNat_Int, Int.reduceEq, Int.reduceNe, Int.reduceGT, Int.reduceGE, Int.reduceAdd, Int.reduceSub, Int.reduceMul, Bool.and_true, Bool.true_and, Bool.and_false, Bool.false_and, Bool.not_true, Bool.not_false]
  by_cases h2 : (i : Int) < 2
  · have hi2 : i < 2 := by omega
    have gH := (eh.get _ nB).trans gB
    obtain ⟨w, hw1, hw2⟩ : ∃ w : List UInt8, [AV.str m, AV.str s][i]? = some (.str w) ∧ (i = 0 → w = m) := by
      have : i = 0 ∨ i = 1 := by omega
      rcases this with rfl | rfl
      · exact ⟨m, rfl, fun _ => rfl⟩
      · exact ⟨s, rfl, fun h => by omega⟩
    simp (disch := first | done | ((try simp only [Heap.add_nxt, Heap.put_nxt, Heap.del_nxt, bump_nxt]) <;> omega) | fail) only [go_sem, Nat.reduceAdd, Nat.reduceSub, Nat.reduceMul, Nat.reduceMod, Nat.reduceGT, Nat.reduceLeDiff, Nat.reduceEqDiff, Nat.reduceBEq, Nat.reduceBNe, Nat.reduceShiftRight, Nat.reduceAnd, Nat.reduceOr, Nat.reduceBneDiff, bne_self_eq_false, Nat.reduceLT, ↓reduceIte, reduceCtorEq, Int.reduceToNat, Int.reduceNeg, Int.reduceLT, Int.reduceLE, decide_true, decide_false, Int.cast_ofNat_Int, Int.reduceEq, Int.reduceNe, Int.reduceGT, Int.reduceGE, Int.reduceAdd, Int.reduceSub, Int.reduceMul, Bool.and_true, Bool.true_and, Bool.and_false, Bool.false_and, Bool.not_true, Bool.not_false, h2, gH, Int.toNat_natCast, Nat.mul_one, hw1]
    refine callV_ofU F_24 rfl ((parse_uf (s := w)).mono ?_)
    rintro v5 h5 ⟨e5, m5⟩
    simp (disch := first | done | ((try simp only [Heap.add_nxt, Heap.put_nxt, Heap.del_nxt, bump_nxt]) <;> omega) | fail) only [go_sem, Nat.reduceAdd, Nat.reduceSub, Nat.reduceMul, Nat.reduceMod, Nat.reduceGT, Nat.reduceLeDiff, Nat.reduceEqDiff, Nat.reduceBEq, Nat.reduceBNe, Nat.reduceShiftRight, Nat.reduceAnd, Nat.reduceOr, Nat.reduceBneDiff, bne_self_eq_false, Nat.reduceLT, ↓reduceIte, reduceCtorEq, Int.reduceToNat, Int.reduceNeg, Int.reduceLT, Int.reduceLE, decide_true, decide_false, Int.cast_ofNat_Int, Int.reduceEq, Int.reduceNe, Int.reduceGT, Int.reduceGE, Int.reduceAdd, Int.reduceSub, Int.reduceMul, Bool.and_true, Bool.true_and, Bool.and_false, Bool.false_and, Bool.not_true, Bool.not_false]
    have eh5 := eh.trans e5
    cases hp : parse w with
    | none =>
      rw [hp] at m5
      subst m5
      have hi0 : ¬ ((i : Int) = 0) := by
        intro e
        have : w = m := hw2 (by omega)
        rw [this, hmp] at hp; cases hp
      simp (disch := first | done | ((try simp only [Heap.add_nxt, Heap.put_nxt, Heap.del_nxt, bump_nxt]) <;> omega) | fail) only [go_sem, Nat.reduceAdd, Nat.reduceSub, Nat.reduceMul, Nat.reduceMod, Nat.reduceGT, Nat.reduceLeDiff, Nat.reduceEqDiff, Nat.reduceBEq, Nat.reduceBNe, Nat.reduceShiftRight, Nat.reduceAnd, Nat.reduceOr, Nat.reduceBneDiff, bne_self_eq_false, Nat.reduceLT, ↓reduceIte, reduceCtorEq, Int.reduceToNat, Int.reduceNeg, Int.reduceLT, Int.reduceLE, decide_true, decide_false, Int.cast_ofNat_Int, Int.reduceEq, Int.reduceNe, Int.reduceGT, Int.reduceGE, Int.reduceAdd, Int.reduceSub, Int.reduceMul, Bool.and_true, Bool.true_and, Bool.and_false, Bool.false_and, Bool.not_true, Bool.not_false, hi0]
      exact AgainK.mk (2 - (i + 1)) (by simp only; omega) ⟨i + 1, eh5, by omega, rfl, rfl, by simp [Has]⟩
    | some l1 =>
      obtain ⟨f1, f2, _⟩ := parse_few hp
      obtain ⟨x1, x2⟩ := parse_exec hp
      rw [hp] at m5
      obtain ⟨x, rfl, L5⟩ := m5
      obtain ⟨xa, xn, xc, xz, rfl, hxn⟩ := L5.form
      simp (disch := first | done | ((try simp only [Heap.add_nxt, Heap.put_nxt, Heap.del_nxt, bump_nxt]) <;> omega) | fail) only [go_sem, Nat.reduceAdd, Nat.reduceSub, Nat.reduceMul, Nat.reduceMod, Nat.reduceGT, Nat.reduceLeDiff, Nat.reduceEqDiff, Nat.reduceBEq, Nat.reduceBNe, Nat.reduceShiftRight, Nat.reduceAnd, Nat.reduceOr, Nat.reduceBneDiff, bne_self_eq_false, Nat.reduceLT, ↓reduceIte, reduceCtorEq, Int.reduceToNat, Int.reduceNeg, Int.reduceLT, Int.reduceLE, decide_true, decide_false, Int.cast_ofNat_Int, Int.reduceEq, Int.reduceNe, Int.reduceGT, Int.reduceGE, Int.reduceAdd, Int.reduceSub, Int.reduceMul, Bool.and_true, Bool.true_and, Bool.and_false, Bool.false_and, Bool.not_true, Bool.not_false]
      refine LoopU_while (fun q st hg => ∃ (j : Nat) (n : Int), Ext h5 hg ∧ j ≤ l1.length ∧ q = l1.length - j ∧ exec n (l1.drop j) = some 1 ∧ 0 ≤ n ∧ n ≤ j ∧ Keep st 153 [(5, .slc (some (h3.nxt, 0)) 2 (some 2) 1), (6, .int .i64 (i : Nat)), (7, .slc xa xn xc xz), (9, .int .i64 n), (10, .int .i64 (j : Nat))]) l1.length
        ⟨0, 0, Ext.refl _, by omega, rfl, x1, by omega, by omega, rfl, by simp [Has]⟩ ?_
      rintro q st hg ⟨j, n', eg, hj, rfl, hex, hn0, hnj, hk⟩
      rw [hk.eq]
      obtain ⟨k5, k6, k7, k9, k10, -⟩ := hk.2
      simp only [slotsFrom, Nat.reduceAdd] at k5 k6 k7 k9 k10 ⊢
      simp only [k5, k6, k7, k9, k10]
      simp (disch := first | done | ((try simp only [Heap.add_nxt, Heap.put_nxt, Heap.del_nxt, bump_nxt]) <;> omega) | fail) only [go_sem, Nat.reduceAdd, Nat.reduceSub, Nat.reduceMul, Nat.reduceMod, Nat.reduceGT, Nat.reduceLeDiff, Nat.reduceEqDiff, Nat.reduceBEq, Nat.reduceBNe, Nat.reduceShiftRight, Nat.reduceAnd, Nat.reduceOr, Nat.reduceBneDiff, bne_self_eq_false, Nat.reduceLT, ↓reduceIte, reduceCtorEq, Int.reduceToNat, Int.reduceNeg, Int.reduceLT, Int.reduceLE, decide_true, decide_false, Int.cast_ofNat_Int, Int.reduceEq, Int.reduceNe, Int.reduceGT, Int.reduceGE, Int.reduceAdd, Int.reduceSub, Int.reduceMul, Bool.and_true, Bool.true_and, Bool.and_false, Bool.false_and, Bool.not_true, Bool.not_false]
      by_cases hjl : (j : Int) < xn
      · have hj1 : j < l1.length := by omega
        obtain ⟨b1, o1, cs1, w1, _, rfl, rfl, hb1, hg1, ⟨y1, rfl, s1⟩, hr1, ht1, hc1⟩ := L5.slc.at_ (i := j) (x := l1[j]) (List.getElem?_eq_getElem hj1) (k := 2) rfl
        have c0 : cs1[o1 + j * 2]? = some (.int .i64 l1[j].op) := hc1 0 (by decide)
        have c1 : cs1[o1 + j * 2 + 1]? = some y1 := hc1 1 (by decide)
        obtain ⟨ya, yn, yc, yz, rfl, hyn⟩ := s1.form
        have g1 := (eg.get _ hb1).trans hg1
        have hit := x2 _ (List.getElem_mem hj1)
        have hlen := f2 _ (List.getElem_mem hj1)
        rw [List.drop_eq_getElem_cons hj1, exec] at hex
        simp (disch := first | done | ((try simp only [Heap.add_nxt, Heap.put_nxt, Heap.del_nxt, bump_nxt]) <;> omega) | fail) only [go_sem, Nat.reduceAdd, Nat.reduceSub, Nat.reduceMul, Nat.reduceMod, Nat.reduceGT, Nat.reduceLeDiff, Nat.reduceEqDiff, Nat.reduceBEq, Nat.reduceBNe, Nat.reduceShiftRight, Nat.reduceAnd, Nat.reduceOr, Nat.reduceBneDiff, bne_self_eq_false, Nat.reduceLT, ↓reduceIte, reduceCtorEq, Int.reduceToNat, Int.reduceNeg, Int.reduceLT, Int.reduceLE, decide_true, decide_false, Int.cast_ofNat_Int, Int.reduceEq, Int.reduceNe, Int.reduceGT, Int.reduceGE, Int.reduceAdd, Int.reduceSub, Int.reduceMul, Bool.and_true, Bool.true_and, Bool.and_false, Bool.false_and, Bool.not_true, Bool.not_false, hjl, g1, Int.toNat_natCast, c0]
        rcases hit with ⟨hop, hne, hrk⟩ | ⟨hop, hnil⟩
        · have hst : step_ n' l1[j] = n' + 1 := by simp only [step_, if_pos hop]
          rw [hst, if_neg (by omega)] at hex
          have hyp := List.length_pos_iff.2 hne
          simp (disch := first | done | ((try simp only [Heap.add_nxt, Heap.put_nxt, Heap.del_nxt, bump_nxt]) <;> omega) | fail) only [go_sem, Nat.reduceAdd, Nat.reduceSub, Nat.reduceMul, Nat.reduceMod, Nat.reduceGT, Nat.reduceLeDiff, Nat.reduceEqDiff, Nat.reduceBEq, Nat.reduceBNe, Nat.reduceShiftRight, Nat.reduceAnd, Nat.reduceOr, Nat.reduceBneDiff, bne_self_eq_false, Nat.reduceLT, ↓reduceIte, reduceCtorEq, Int.reduceToNat, Int.reduceNeg, Int.reduceLT, Int.reduceLE, decide_true, decide_false, Int.cast_ofNat_Int, Int.reduceEq, Int.reduceNe, Int.reduceGT, Int.reduceGE, Int.reduceAdd, Int.reduceSub, Int.reduceMul, Bool.and_true, Bool.true_and, Bool.and_false, Bool.false_and, Bool.not_true, Bool.not_false, hop]
          refine LoopU_while (fun q st hf => ∃ t : Nat, Ext hg hf ∧ t ≤ yn ∧ q = yn - t ∧ Keep st 153 [(5, .slc (some (h3.nxt, 0)) 2 (some 2) 1), (6, .int .i64 (i : Nat)), (7, .slc (some (b1, o1)) xn xc 2), (9, .int .i64 (n' + 1)), (10, .int .i64 (j : Nat)), (11, .int .i64 (t : Nat))]) yn
            ⟨0, Ext.refl _, by omega, rfl, rfl, by simp [Has]⟩ ?_
          rintro q st hf ⟨t, ef, ht, rfl, hk⟩
          rw [hk.eq]
          obtain ⟨k5, k6, k7, k9, k10, k11, -⟩ := hk.2
          simp only [slotsFrom, Nat.reduceAdd] at k5 k6 k7 k9 k10 k11 ⊢
          simp only [k5, k6, k7, k9, k10, k11]
          have g2 := (ef.get _ (Nat.lt_of_lt_of_le hb1 eg.nxt)).trans g1
          simp (disch := first | done | ((try simp only [Heap.add_nxt, Heap.put_nxt, Heap.del_nxt, bump_nxt]) <;> omega) | fail) only [go_sem, Nat.reduceAdd, Nat.reduceSub, Nat.reduceMul, Nat.reduceMod, Nat.reduceGT, Nat.reduceLeDiff, Nat.reduceEqDiff, Nat.reduceBEq, Nat.reduceBNe, Nat.reduceShiftRight, Nat.reduceAnd, Nat.reduceOr, Nat.reduceBneDiff, bne_self_eq_false, Nat.reduceLT, ↓reduceIte, reduceCtorEq, Int.reduceToNat, Int.reduceNeg, Int.reduceLT, Int.reduceLE, decide_true, decide_false, Int.cast_ofNat_Int, Int.reduceEq, Int.reduceNe, Int.reduceGT, Int.reduceGE, Int.reduceAdd, Int.reduceSub, Int.reduceMul, Bool.and_true, Bool.true_and, Bool.and_false, Bool.false_and, Bool.not_true, Bool.not_false, hjl, g2, Int.toNat_natCast, c1]
          by_cases htl : (t : Int) < yn
          · have htt : t < l1[j].l.length := by omega
            obtain ⟨b3, o3, cs3, _, rfl, rfl, hb3, hg3, rfl, hr3, ht3, hc3⟩ := s1.at_ (i := t) (x := l1[j].l[t]) (List.getElem?_eq_getElem htt) (k := 2) rfl
            have g3 := (ef.get _ (Nat.lt_of_lt_of_le hb3 eg.nxt)).trans ((eg.get _ hb3).trans hg3)
            obtain ⟨r1, r2, r3⟩ := hrk _ (List.getElem_mem htt)
            have d0 : cs3[o3 + t * 2]? = some (.int .u8 l1[j].l[t].lo.toNat) := hc3 0 (by decide)
            have d1 : cs3[o3 + t * 2 + 1]? = some (.int .u8 l1[j].l[t].hi.toNat) := hc3 1 (by decide)
            have q1 : ¬ ((l1[j].l[t].lo.toNat : Int) > l1[j].l[t].hi.toNat) := by omega
            have q2 : ¬ ((l1[j].l[t].lo.toNat : Int) < 32) := by omega
            have q3 : ¬ ((l1[j].l[t].hi.toNat : Int) > 126) := by omega
            simp (disch := first | done | ((try simp only [Heap.add_nxt, Heap.put_nxt, Heap.del_nxt, bump_nxt]) <;> omega) | fail) only [go_sem, Nat.reduceAdd, Nat.reduceSub, Nat.reduceMul, Nat.reduceMod, Nat.reduceGT, Nat.reduceLeDiff, Nat.reduceEqDiff, Nat.reduceBEq, Nat.reduceBNe, Nat.reduceShiftRight, Nat.reduceAnd, Nat.reduceOr, Nat.reduceBneDiff, bne_self_eq_false, Nat.reduceLT, ↓reduceIte, reduceCtorEq, Int.reduceToNat, Int.reduceNeg, Int.reduceLT, Int.reduceLE, decide_true, decide_false, Int.cast_ofNat_Int, Int.reduceEq, Int.reduceNe, Int.reduceGT, Int.reduceGE, Int.reduceAdd, Int.reduceSub, Int.reduceMul, Bool.and_true, Bool.true_and, Bool.and_false, Bool.false_and, Bool.not_true, Bool.not_false, htl]
            refine DrawU_quiet (by rfl) ?_
            simp (disch := first | done | ((try simp only [Heap.add_nxt, Heap.put_nxt, Heap.del_nxt, bump_nxt]) <;> omega) | fail) only [go_sem, Nat.reduceAdd, Nat.reduceSub, Nat.reduceMul, Nat.reduceMod, Nat.reduceGT, Nat.reduceLeDiff, Nat.reduceEqDiff, Nat.reduceBEq, Nat.reduceBNe, Nat.reduceShiftRight, Nat.reduceAnd, Nat.reduceOr, Nat.reduceBneDiff, bne_self_eq_false, Nat.reduceLT, ↓reduceIte, reduceCtorEq, Int.reduceToNat, Int.reduceNeg, Int.reduceLT, Int.reduceLE, decide_true, decide_false, Int.cast_ofNat_Int, Int.reduceEq, Int.reduceNe, Int.reduceGT, Int.reduceGE, Int.reduceAdd, Int.reduceSub, Int.reduceMul, Bool.and_true, Bool.true_and, Bool.and_false, Bool.false_and, Bool.not_true, Bool.not_false, g2, g3, Int.toNat_natCast, c1, d0, d1, q1, q2, q3, hjl, htl]
            exact AgainK.mk (yn - (t + 1)) (by simp only; omega) ⟨t + 1, ef.trans (Ext.bump _ _), by omega, rfl, rfl, by simp [Has]⟩
          · have hy0 : ¬ ((yn : Int) = 0) := by omega
            have hn1 : ¬ (n' + 1 < 1) := by omega
            simp (disch := first | done | ((try simp only [Heap.add_nxt, Heap.put_nxt, Heap.del_nxt, bump_nxt]) <;> omega) | fail) only [go_sem, Nat.reduceAdd, Nat.reduceSub, Nat.reduceMul, Nat.reduceMod, Nat.reduceGT, Nat.reduceLeDiff, Nat.reduceEqDiff, Nat.reduceBEq, Nat.reduceBNe, Nat.reduceShiftRight, Nat.reduceAnd, Nat.reduceOr, Nat.reduceBneDiff, bne_self_eq_false, Nat.reduceLT, ↓reduceIte, reduceCtorEq, Int.reduceToNat, Int.reduceNeg, Int.reduceLT, Int.reduceLE, decide_true, decide_false, Int.cast_ofNat_Int, Int.reduceEq, Int.reduceNe, Int.reduceGT, Int.reduceGE, Int.reduceAdd, Int.reduceSub, Int.reduceMul, Bool.and_true, Bool.true_and, Bool.and_false, Bool.false_and, Bool.not_true, Bool.not_false, htl, hjl, g2, Int.toNat_natCast, c1, hy0, hn1, c0, hop]
            exact AgainK.mk (l1.length - (j + 1)) (by simp only; omega) ⟨j + 1, n' + 1, eg.trans ef, by omega, rfl, hex, by omega, by omega, rfl, by simp [Has]⟩
        · have hy0 : yn = 0 := by rw [hyn, hnil]; rfl
          subst hy0
          have hn1 : ¬ (step_ n' l1[j] < 1) := by
            intro h; rw [if_pos h] at hex; cases hex
          rw [if_neg hn1] at hex
          rcases hop with hop | hop | hop | hop | hop
          all_goals
            simp only [step_, hop] at hn1 hex
            simp only [if_true, if_false, Int.reduceEq, true_or, or_true, or_false, false_or] at hn1 hex
          · simp (disch := first | done | ((try simp only [Heap.add_nxt, Heap.put_nxt, Heap.del_nxt, bump_nxt]) <;> omega) | fail) only [go_sem, Nat.reduceAdd, Nat.reduceSub, Nat.reduceMul, Nat.reduceMod, Nat.reduceGT, Nat.reduceLeDiff, Nat.reduceEqDiff, Nat.reduceBEq, Nat.reduceBNe, Nat.reduceShiftRight, Nat.reduceAnd, Nat.reduceOr, Nat.reduceBneDiff, bne_self_eq_false, Nat.reduceLT, ↓reduceIte, reduceCtorEq, Int.reduceToNat, Int.reduceNeg, Int.reduceLT, Int.reduceLE, decide_true, decide_false, Int.cast_ofNat_Int, Int.reduceEq, Int.reduceNe, Int.reduceGT, Int.reduceGE, Int.reduceAdd, Int.reduceSub, Int.reduceMul, Bool.and_true, Bool.true_and, Bool.and_false, Bool.false_and, Bool.not_true, Bool.not_false, hop, hjl, g1, Int.toNat_natCast, c0, c1, hn1]
            exact AgainK.mk (l1.length - (j + 1)) (by simp only; omega) ⟨j + 1, n' - 1, eg, by omega, rfl, hex, by omega, by omega, rfl, by simp [Has]⟩
          · simp (disch := first | done | ((try simp only [Heap.add_nxt, Heap.put_nxt, Heap.del_nxt, bump_nxt]) <;> omega) | fail) only [go_sem, Nat.reduceAdd, Nat.reduceSub, Nat.reduceMul, Nat.reduceMod, Nat.reduceGT, Nat.reduceLeDiff, Nat.reduceEqDiff, Nat.reduceBEq, Nat.reduceBNe, Nat.reduceShiftRight, Nat.reduceAnd, Nat.reduceOr, Nat.reduceBneDiff, bne_self_eq_false, Nat.reduceLT, ↓reduceIte, reduceCtorEq, Int.reduceToNat, Int.reduceNeg, Int.reduceLT, Int.reduceLE, decide_true, decide_false, Int.cast_ofNat_Int, Int.reduceEq, Int.reduceNe, Int.reduceGT, Int.reduceGE, Int.reduceAdd, Int.reduceSub, Int.reduceMul, Bool.and_true, Bool.true_and, Bool.and_false, Bool.false_and, Bool.not_true, Bool.not_false, hop, hjl, g1, Int.toNat_natCast, c0, c1, hn1]
            exact AgainK.mk (l1.length - (j + 1)) (by simp only; omega) ⟨j + 1, n' - 1, eg, by omega, rfl, hex, by omega, by omega, rfl, by simp [Has]⟩
          · simp (disch := first | done | ((try simp only [Heap.add_nxt, Heap.put_nxt, Heap.del_nxt, bump_nxt]) <;> omega) | fail) only [go_sem, Nat.reduceAdd, Nat.reduceSub, Nat.reduceMul, Nat.reduceMod, Nat.reduceGT, Nat.reduceLeDiff, Nat.reduceEqDiff, Nat.reduceBEq, Nat.reduceBNe, Nat.reduceShiftRight, Nat.reduceAnd, Nat.reduceOr, Nat.reduceBneDiff, bne_self_eq_false, Nat.reduceLT, ↓reduceIte, reduceCtorEq, Int.reduceToNat, Int.reduceNeg, Int.reduceLT, Int.reduceLE, decide_true, decide_false, Int.cast_ofNat_Int, Int.reduceEq, Int.reduceNe, Int.reduceGT, Int.reduceGE, Int.reduceAdd, Int.reduceSub, Int.reduceMul, Bool.and_true, Bool.true_and, Bool.and_false, Bool.false_and, Bool.not_true, Bool.not_false, hop, hjl, g1, Int.toNat_natCast, c0, c1, hn1]
            exact AgainK.mk (l1.length - (j + 1)) (by simp only; omega) ⟨j + 1, n', eg, by omega, rfl, hex, by omega, by omega, rfl, by simp [Has]⟩
          · simp (disch := first | done | ((try simp only [Heap.add_nxt, Heap.put_nxt, Heap.del_nxt, bump_nxt]) <;> omega) | fail) only [go_sem, Nat.reduceAdd, Nat.reduceSub, Nat.reduceMul, Nat.reduceMod, Nat.reduceGT, Nat.reduceLeDiff, Nat.reduceEqDiff, Nat.reduceBEq, Nat.reduceBNe, Nat.reduceShiftRight, Nat.reduceAnd, Nat.reduceOr, Nat.reduceBneDiff, bne_self_eq_false, Nat.reduceLT, ↓reduceIte, reduceCtorEq, Int.reduceToNat, Int.reduceNeg, Int.reduceLT, Int.reduceLE, decide_true, decide_false, Int.cast_ofNat_Int, Int.reduceEq, Int.reduceNe, Int.reduceGT, Int.reduceGE, Int.reduceAdd, Int.reduceSub, Int.reduceMul, Bool.and_true, Bool.true_and, Bool.and_false, Bool.false_and, Bool.not_true, Bool.not_false, hop, hjl, g1, Int.toNat_natCast, c0, c1, hn1]
            exact AgainK.mk (l1.length - (j + 1)) (by simp only; omega) ⟨j + 1, n', eg, by omega, rfl, hex, by omega, by omega, rfl, by simp [Has]⟩
          · simp (disch := first | done | ((try simp only [Heap.add_nxt, Heap.put_nxt, Heap.del_nxt, bump_nxt]) <;> omega) | fail) only [go_sem, Nat.reduceAdd, Nat.reduceSub, Nat.reduceMul, Nat.reduceMod, Nat.reduceGT, Nat.reduceLeDiff, Nat.reduceEqDiff, Nat.reduceBEq, Nat.reduceBNe, Nat.reduceShiftRight, Nat.reduceAnd, Nat.reduceOr, Nat.reduceBneDiff, bne_self_eq_false, Nat.reduceLT, ↓reduceIte, reduceCtorEq, Int.reduceToNat, Int.reduceNeg, Int.reduceLT, Int.reduceLE, decide_true, decide_false, Int.cast_ofNat_Int, Int.reduceEq, Int.reduceNe, Int.reduceGT, Int.reduceGE, Int.reduceAdd, Int.reduceSub, Int.reduceMul, Bool.and_true, Bool.true_and, Bool.and_false, Bool.false_and, Bool.not_true, Bool.not_false, hop, hjl, g1, Int.toNat_natCast, c0, c1, hn1]
            exact AgainK.mk (l1.length - (j + 1)) (by simp only; omega) ⟨j + 1, n', eg, by omega, rfl, hex, by omega, by omega, rfl, by simp [Has]⟩
      · simp (disch := first | done | ((try simp only [Heap.add_nxt, Heap.put_nxt, Heap.del_nxt, bump_nxt]) <;> omega) | fail) only [go_sem, Nat.reduceAdd, Nat.reduceSub, Nat.reduceMul, Nat.reduceMod, Nat.reduceGT, Nat.reduceLeDiff, Nat.reduceEqDiff, Nat.reduceBEq, Nat.reduceBNe, Nat.reduceShiftRight, Nat.reduceAnd, Nat.reduceOr, Nat.reduceBneDiff, bne_self_eq_false, Nat.reduceLT, ↓reduceIte, reduceCtorEq, Int.reduceToNat, Int.reduceNeg, Int.reduceLT, Int.reduceLE, decide_true, decide_false, Int.cast_ofNat_Int, Int.reduceEq, Int.reduceNe, Int.reduceGT, Int.reduceGE, Int.reduceAdd, Int.reduceSub, Int.reduceMul, Bool.and_true, Bool.true_and, Bool.and_false, Bool.false_and, Bool.not_true, Bool.not_false, hjl]
        have : j = l1.length := by omega
        subst this
        rw [List.drop_length, exec] at hex
        simp only [Option.some.injEq] at hex
        subst hex
        simp (disch := first | done | ((try simp only [Heap.add_nxt, Heap.put_nxt, Heap.del_nxt, bump_nxt]) <;> omega) | fail) only [go_sem, Nat.reduceAdd, Nat.reduceSub, Nat.reduceMul, Nat.reduceMod, Nat.reduceGT, Nat.reduceLeDiff, Nat.reduceEqDiff, Nat.reduceBEq, Nat.reduceBNe, Nat.reduceShiftRight, Nat.reduceAnd, Nat.reduceOr, Nat.reduceBneDiff, bne_self_eq_false, Nat.reduceLT, ↓reduceIte, reduceCtorEq, Int.reduceToNat, Int.reduceNeg, Int.reduceLT, Int.reduceLE, decide_true, decide_false, Int.cast_ofNat_Int, Int.reduceEq, Int.reduceNe, Int.reduceGT, Int.reduceGE, Int.reduceAdd, Int.reduceSub, Int.reduceMul, Bool.and_true, Bool.true_and, Bool.and_false, Bool.false_and, Bool.not_true, Bool.not_false]
        exact AgainK.mk (2 - (i + 1)) (by simp only; omega) ⟨i + 1, eh5.trans eg, by omega, rfl, rfl, by simp [Has]⟩
  · simp (disch := first | done | ((try simp only [Heap.add_nxt, Heap.put_nxt, Heap.del_nxt, bump_nxt]) <;> omega) | fail) only [go_sem, Nat.reduceAdd, Nat.reduceSub, Nat.reduceMul, Nat.reduceMod, Nat.reduceGT, Nat.reduceLeDiff, Nat.reduceEqDiff, Nat.reduceBEq, Nat.reduceBNe, Nat.reduceShiftRight, Nat.reduceAnd, Nat.reduceOr, Nat.reduceBneDiff, bne_self_eq_false, Nat.reduceLT, ↓reduceIte, reduceCtorEq, Int.reduceToNat, Int.reduceNeg, Int.reduceLT, Int.reduceLE, decide_true, decide_false, Int.cast_ofNat_Int, Int.reduceEq, Int.reduceNe, Int.reduceGT, Int.reduceGE, Int.reduceAdd, Int.reduceSub, Int.reduceMul, Bool.and_true, Bool.true_and, Bool.and_false, Bool.false_and, Bool.not_true, Bool.not_false, h2]
    exact hQ _ _ rfl

theorem RexCount_law {h : Heap} {s : List UInt8} {v : AV} {zs : List Int} (hv : Slc h v 1 (zs.map fun z => [.int .u8 z])) (hb : ∀ z ∈ zs, IntKind.u8.min ≤ z ∧ z ≤ IntKind.u8.max) : WF T F 4 [v, .str s] h fun v' h' => v' = .bool true := by
  obtain ⟨l, _, L⟩ := bytes_lst hv hb
  exact UF.toW (UF.less (frzV_le h v) (RexCount_uf L))

end Go.Proofs.Ytenpjkinpecnfaa
