/-
  Layer nfa, the answer by sets, without the program: what sets of places tell of a pattern.
-/
import Derived.Test.YtenpjkinpecnfaaNfaL
namespace Go.Proofs.Ytenpjkinpecnfaa
open Go Go.Am
set_option maxRecDepth 100000
set_option linter.unusedSimpArgs false
set_option linter.unusedVariables false

/-- At which places a word of P can end that begins at some of them. -/
def EndsP (P : List UInt8 → Prop) (s : List UInt8) (A : Nat → Prop) (j : Nat) : Prop := ∃ i, A i ∧ i ≤ j ∧ j ≤ s.length ∧ P ((s.take j).drop i)
/-- So many times and once. -/
def PlusN (P : List UInt8 → Prop) : Nat → List UInt8 → Prop
  | 0, w => P w
  | n + 1, w => PlusN P n w ∨ ∃ u v, w = u ++ v ∧ PlusN P n u ∧ P v
theorem PlusN.mono {P : List UInt8 → Prop} {n m : Nat} {w : List UInt8} (h : PlusN P n w) (hm : n ≤ m) : PlusN P m w := by
  induction m with
  | zero => obtain rfl : n = 0 := by omega
            exact h
  | succ m ih =>
    by_cases e : n = m + 1
    · subst e; exact h
    · exact .inl (ih (by omega))
theorem PlusN.cons {P : List UInt8 → Prop} {u : List UInt8} (hu : P u) : ∀ {n : Nat} {v : List UInt8}, PlusN P n v → PlusN P (n + 1) (u ++ v)
  | 0, v, h => .inr ⟨u, v, rfl, hu, h⟩
  | n + 1, v, h => by
    rcases h with h | ⟨a, b, rfl, h1, h2⟩
    · exact .inl (PlusN.cons hu h)
    · exact .inr ⟨u ++ a, b, by simp, PlusN.cons hu h1, h2⟩
theorem Plus.plusN {P : List UInt8 → Prop} {w : List UInt8} (h : Plus P w) : PlusN P w.length w := by
  induction h with
  | one h => exact PlusN.mono (n := 0) h (by omega)
  | @more u v h t ih =>
    by_cases e : u = []
    · subst e; exact ih
    · have := List.length_pos_iff.2 e
      exact (PlusN.cons h ih).mono (by simp only [List.length_append]; omega)
theorem Plus.snoc {P : List UInt8 → Prop} {u v : List UInt8} (h : Plus P u) (hv : P v) : Plus P (u ++ v) := by
  induction h with
  | one h => exact .more h (.one hv)
  | @more a b h t ih => rw [List.append_assoc]; exact .more h ih
theorem PlusN.plus {P : List UInt8 → Prop} : ∀ {n : Nat} {w : List UInt8}, PlusN P n w → Plus P w
  | 0, w, h => .one h
  | n + 1, w, h => by
    rcases h with h | ⟨a, b, rfl, h1, h2⟩
    · exact h.plus
    · exact h1.plus.snoc h2
theorem EndsP.congr {P Q : List UInt8 → Prop} {s : List UInt8} {A B : Nat → Prop} {j : Nat} (h : ∀ w, w.length ≤ s.length → (P w ↔ Q w)) (hA : ∀ i, A i ↔ B i) : EndsP P s A j ↔ EndsP Q s B j := by
  constructor
  · rintro ⟨i, h1, h2, h3, h4⟩
    exact ⟨i, (hA i).1 h1, h2, h3, (h _ (by simp; omega)).1 h4⟩
  · rintro ⟨i, h1, h2, h3, h4⟩
    exact ⟨i, (hA i).2 h1, h2, h3, (h _ (by simp; omega)).2 h4⟩
theorem EndsP.or {P Q : List UInt8 → Prop} {s : List UInt8} {A : Nat → Prop} {j : Nat} : EndsP (fun w => P w ∨ Q w) s A j ↔ EndsP P s A j ∨ EndsP Q s A j := by
  constructor
  · rintro ⟨i, h1, h2, h3, h4 | h4⟩
    · exact .inl ⟨i, h1, h2, h3, h4⟩
    · exact .inr ⟨i, h1, h2, h3, h4⟩
  · rintro (⟨i, h1, h2, h3, h4⟩ | ⟨i, h1, h2, h3, h4⟩)
    · exact ⟨i, h1, h2, h3, .inl h4⟩
    · exact ⟨i, h1, h2, h3, .inr h4⟩
theorem EndsP.nil {s : List UInt8} {A : Nat → Prop} (hA : ∀ i, A i → i ≤ s.length) {j : Nat} : EndsP (fun w => w = []) s A j ↔ A j := by
  constructor
  · rintro ⟨i, h1, h2, h3, h4⟩
    have := congrArg List.length h4
    simp only [List.length_drop, List.length_take, List.length_nil] at this
    obtain rfl : i = j := by omega
    exact h1
  · intro h
    refine ⟨j, h, Nat.le_refl _, hA j h, ?_⟩
    exact List.drop_eq_nil_of_le (by simp; omega)
theorem sub_cut {s : List UInt8} {i m j : Nat} (h1 : i ≤ m) (h2 : m ≤ j) (h3 : j ≤ s.length) : (s.take j).drop i = (s.take m).drop i ++ (s.take j).drop m := by
  have e : s.take m = (s.take j).take m := by rw [List.take_take, Nat.min_eq_left h2]
  rw [e]
  have : (s.take j).drop i = ((s.take j).take m ++ (s.take j).drop m).drop i := by rw [List.take_append_drop]
  rw [this, List.drop_append_of_le_length (by simp; omega)]
theorem EndsP.cat {P Q : List UInt8 → Prop} {s : List UInt8} {A : Nat → Prop} {j : Nat} : EndsP (fun w => ∃ u v, w = u ++ v ∧ P u ∧ Q v) s A j ↔ EndsP Q s (EndsP P s A) j := by
  constructor
  · rintro ⟨i, h1, h2, h3, u, v, h4, h5, h6⟩
    have hl := congrArg List.length h4
    simp only [List.length_drop, List.length_take, List.length_append] at hl
    have hc := sub_cut (s := s) (i := i) (m := i + u.length) (j := j) (by omega) (by omega) h3
    have hlu : ((s.take (i + u.length)).drop i).length = u.length := by simp only [List.length_drop, List.length_take]; omega
    obtain ⟨e1, e2⟩ := List.append_inj (h4.symm.trans hc) hlu.symm
    refine ⟨i + u.length, ⟨i, h1, by omega, by omega, e1 ▸ h5⟩, by omega, h3, e2 ▸ h6⟩
  · rintro ⟨m, ⟨i, h1, h2, h3, h4⟩, h5, h6, h7⟩
    exact ⟨i, h1, by omega, h6, _, _, sub_cut h2 h5 h6, h4, h7⟩
theorem EndsP.plusN {P : List UInt8 → Prop} {s : List UInt8} {A : Nat → Prop} {n j : Nat} : EndsP (PlusN P (n + 1)) s A j ↔ EndsP (PlusN P n) s A j ∨ EndsP P s (EndsP (PlusN P n) s A) j := by
  rw [← EndsP.cat, ← EndsP.or]; exact Iff.rfl
theorem EndsP.plus {P : List UInt8 → Prop} {s : List UInt8} {A : Nat → Prop} {n j : Nat} (hn : s.length ≤ n) : EndsP (PlusN P n) s A j ↔ EndsP (Plus P) s A j :=
  EndsP.congr (fun w hw => ⟨PlusN.plus, fun h => h.plusN.mono (by omega)⟩) fun _ => Iff.rfl
theorem EndsP.one {P : List UInt8 → Prop} {Q : UInt8 → Prop} (hP : ∀ w, P w ↔ ∃ c, w = [c] ∧ Q c) {s : List UInt8} {A : Nat → Prop} {j : Nat} : EndsP P s A j ↔ ∃ i c, j = i + 1 ∧ A i ∧ s[i]? = some c ∧ Q c := by
  constructor
  · rintro ⟨i, h1, h2, h3, h4⟩
    obtain ⟨c, h5, h6⟩ := (hP _).1 h4
    have hl := congrArg List.length h5
    simp only [List.length_drop, List.length_take, List.length_cons, List.length_nil] at hl
    obtain rfl : j = i + 1 := by omega
    refine ⟨i, c, rfl, h1, ?_, h6⟩
    have := congrArg (fun l => l[0]?) h5
    simpa [List.getElem?_drop, List.getElem?_take] using this
  · rintro ⟨i, c, rfl, h1, h2, h3⟩
    have hi := (List.getElem?_eq_some_iff.1 h2).1
    refine ⟨i, h1, by omega, by omega, (hP _).2 ⟨c, ?_, h3⟩⟩
    rw [List.take_add_one, h2, Option.toList_some, List.drop_append_of_le_length (by simp; omega), List.drop_eq_nil_of_le (by simp; omega)]; rfl

end Go.Proofs.Ytenpjkinpecnfaa
