/-
  Layer nfa: the longest front, told of patterns.
-/
import Derived.Test.YtenpjkinpecnfaaNfaM
namespace Go.Proofs.Ytenpjkinpecnfaa
open Go Go.Am
set_option maxRecDepth 100000
set_option linter.unusedSimpArgs false
set_option linter.unusedVariables false

/-- A pattern, by its number, has a word. -/
def HasR (es : List Rx) (w : List UInt8) (m : Nat) : Prop := ∃ e, es[m]? = some e ∧ Lang e w
/-- The longest front, and the first pattern that has it. -/
def BestR (es : List Rx) (s : List UInt8) (k n : Nat) (ok : Bool) : Prop :=
  (ok = false ∧ k = 0 ∧ n = 0 ∧ ∀ j, 0 < j → j ≤ s.length → ∀ m, ¬ HasR es (s.take j) m) ∨
  (ok = true ∧ 0 < n ∧ n ≤ s.length ∧ HasR es (s.take n) k ∧ (∀ m, m < k → ¬ HasR es (s.take n) m) ∧ ∀ j, n < j → j ≤ s.length → ∀ m, ¬ HasR es (s.take j) m)

theorem EndL.none {G : List St} {es : List Rx} (A : Auto G es) {w : List UInt8} (h : EndL G w 0) (m : Nat) : ¬ HasR es w m := by
  intro hm
  obtain ⟨n, q, x, W, hx, hf⟩ := A.acc.2 hm
  rcases h with ⟨_, h⟩ | ⟨h, _⟩
  · have := h q x ⟨(List.getElem?_eq_some_iff.1 hx).1, n, W⟩ hx
    omega
  · omega
theorem EndL.some {G : List St} {es : List Rx} (A : Auto G es) {w : List UInt8} {k : Nat} (h : EndL G w (k + 1)) : HasR es w k ∧ ∀ m, m < k → ¬ HasR es w m := by
  rcases h with ⟨h, _⟩ | ⟨_, ⟨q, x, ⟨hq, n, W⟩, hx, hf⟩, h⟩
  · omega
  · refine ⟨A.acc.1 ⟨n, q, x, W, hx, hf⟩, fun m hm h2 => ?_⟩
    obtain ⟨n2, q2, x2, W2, hx2, hf2⟩ := A.acc.2 h2
    have := h q2 x2 ⟨(List.getElem?_eq_some_iff.1 hx2).1, n2, W2⟩ hx2 (by omega)
    omega
theorem Best.patterns {G : List St} {es : List Rx} (A : Auto G es) {s : List UInt8} {k n : Nat} {ok : Bool} (h : Best G s s.length k n ok) : BestR es s k n ok := by
  rcases h with ⟨h1, h2, h3, h4⟩ | ⟨h1, h2, h3, h4, h5⟩
  · exact .inl ⟨h1, h2, h3, fun j j1 j2 => (h4 j j1 j2).none A⟩
  · exact .inr ⟨h1, h2, h3, (h4.some A).1, (h4.some A).2, fun j j1 j2 => (h5 j j1 j2).none A⟩
theorem BestR.unique {es : List Rx} {s : List UInt8} {k n k2 n2 : Nat} {ok ok2 : Bool} (h : BestR es s k n ok) (h2 : BestR es s k2 n2 ok2) : k = k2 ∧ n = n2 ∧ ok = ok2 := by
  rcases h with ⟨rfl, rfl, rfl, h⟩ | ⟨rfl, a1, a2, a3, a4, a5⟩ <;> rcases h2 with ⟨rfl, rfl, rfl, h2⟩ | ⟨rfl, b1, b2, b3, b4, b5⟩
  · exact ⟨rfl, rfl, rfl⟩
  · exact absurd b3 (h _ b1 b2 _)
  · exact absurd a3 (h2 _ a1 a2 _)
  · have e : n = n2 := by
      rcases Nat.lt_trichotomy n n2 with l | l | l
      · exact absurd b3 (a5 _ l b2 _)
      · exact l
      · exact absurd a3 (b5 _ l a2 _)
    subst e
    refine ⟨?_, rfl, rfl⟩
    rcases Nat.lt_trichotomy k k2 with l | l | l
    · exact absurd a3 (b4 _ l)
    · exact l
    · exact absurd b3 (a4 _ l)

/-- A word of a pattern has no byte below 32. -/
theorem Lang.ge {e : Rx} (h : e.ok) : ∀ {w : List UInt8}, Lang e w → ∀ c ∈ w, 32 ≤ c.toNat := by
  induction e with
  | cls l =>
    rintro w ⟨c, rfl, r, hr, h1, h2⟩ d hd
    obtain rfl := List.mem_singleton.1 hd
    have := (h.2 r hr).2.1
    have := UInt8.le_iff_toNat_le.1 h1
    omega
  | bin op x y ix iy =>
    rintro w (⟨_, u, v, rfl, h1, h2⟩ | ⟨_, h1 | h1⟩) d hd
    · rcases List.mem_append.1 hd with hd | hd
      · exact ix h.2.1 h1 d hd
      · exact iy h.2.2 h2 d hd
    · exact ix h.2.1 h1 d hd
    · exact iy h.2.2 h1 d hd
  | rep op x ix =>
    rintro w (⟨rfl, _⟩ | ⟨_, h1⟩ | ⟨_, h1⟩) d hd
    · cases hd
    · exact ix h.2 h1 d hd
    · induction h1 with
      | one h1 => exact ix h.2 h1 d hd
      | more h1 _ ih =>
        rcases List.mem_append.1 hd with hd | hd
        · exact ix h.2 h1 d hd
        · exact ih hd

end Go.Proofs.Ytenpjkinpecnfaa
