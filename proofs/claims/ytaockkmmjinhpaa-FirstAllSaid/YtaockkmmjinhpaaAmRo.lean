/-
  The abstract machine: what more there is on a heap changes nothing, of an operation.
-/
import Derived.Test.YtaockkmmjinhpaaAmRl
namespace Go.Am
variable {T : TT} {F : Nat → Option Func}
variable {P : Nat → Prop} {g h1 h2 : Heap}

theorem opA_rel (R : Rel P g h1 h2) {ρ : Operand → Option AV} {op : Op} {v : AV} {h1' : Heap} (e : opA T ρ op h1 = some (v, h1')) : ∃ h2', opA T ρ op h2 = some (v, h2') ∧ Rel P g h1' h2' := by
  have pure : pureOp T op = true → h1' = h1 → ∃ h2', opA T ρ op h2 = some (v, h2') ∧ Rel P g h1' h2' := by
    intro hp hh
    subst hh
    exact ⟨h2, pure_any hp e h2, R⟩
  have same : pureOp T op = true → h1' = h1 := by
    intro hp
    have := pure_any hp e h1
    rw [e] at this
    simp only [Option.some.injEq, Prod.mk.injEq] at this
    exact this.2
  by_cases hp : pureOp T op = true
  · exact pure hp (same hp)
  clear pure same
  cases op with
  | alloc t =>
    simp only [opA] at e ⊢
    split at e
    · exact R.some2 (w := fun k => .ptr (some (k, 0))) e
    · simp at e
  | box t x =>
    simp only [opA] at e ⊢
    split at e
    · split at e
      · rename_i c1
        rw [if_pos c1]
        exact R.some2 (w := fun k => .ptr (some (k, 0))) e
      · simp at e
    · simp at e
  | buildSlice t n ps =>
    simp only [opA] at e ⊢
    split at e
    · exact R.buildSliceA e
    · simp at e
  | load t a =>
    simp only [opA] at e ⊢
    split at e
    · rename_i b o ha
      split at e
      · rename_i w hw
        rw [R.load hw]; exact R.some1 e
      · simp at e
    · simp at e
  | store t a x =>
    simp only [opA] at e ⊢
    split at e
    · rename_i b o w ha hx
      split at e
      · rename_i h3 hs
        obtain ⟨h4, e4, R4⟩ := R.store hs
        rw [e4]; exact R4.some1 e
      · simp at e
    · simp at e
  | convert a b x =>
    simp only [opA] at e ⊢
    split at e
    · exact R.convA e
    · simp at e
  | makeSlice t l c =>
    simp only [opA] at e ⊢
    split at e
    · exact R.makeSliceA e
    · simp at e
  | makeMap t r =>
    simp only [opA] at e ⊢
    split at e
    · split at e
      · exact R.some2 (w := fun k => .map (some k)) e
      · exact R.some2 (w := fun k => .map (some k)) e
      · simp at e
    · simp at e
  | lookup t x k ok =>
    simp only [opA] at e ⊢
    split at e
    · split at e
      · rename_i w hw
        rw [R.lookupA hw]; exact R.some1 e
      · simp at e
    · simp at e
  | mapUpdate t m k x =>
    simp only [opA] at e ⊢
    split at e
    · split at e
      · rename_i h3 hs
        obtain ⟨h4, e4, R4⟩ := R.mapUpdateA hs
        rw [e4]; exact R4.some1 e
      · simp at e
    · simp at e
  | call c =>
    simp only [opA] at e ⊢
    split at e
    · split at e
      · exact R.builtinA e
      · simp at e
    · simp at e
  | _ => first
    | (exact absurd rfl hp)
    | (simp [opA] at e)

end Go.Am
