/- Each production of a grammar is one nonterminal's, at its place. For numbers (150) of which the grammar is made. -/
import Derived.Test.YtaockkmmjinhpaaGGram
import Derived.Test.YtaockkmmjinhpaaGBeg
import Derived.KernelRfl
namespace Go.Proofs.Ytaockkmmjinhpaa
open Go Go.Am
set_option maxRecDepth 100000
set_option maxHeartbeats 4000000
set_option linter.unusedSimpArgs false
set_option linter.unusedVariables false

/-- The places of a nonterminal's productions, of the first so many. -/
def offs (ps : List GProd) (n : Int) : Nat → List Int
  | 0 => []
  | i + 1 => offs ps n i ++ (match ps[i]? with | some p => if p.left = n then [(i : Int)] else [] | none => [])
theorem offs_len (ps : List GProd) (n : Int) : ∀ i, (offs ps n i).length ≤ i
  | 0 => by simp [offs]
  | i + 1 => by
    have := offs_len ps n i
    rw [offs, List.length_append]
    split
    · split <;> simp <;> omega
    · simp; omega
theorem offs_mem (ps : List GProd) (n : Int) : ∀ i, ∀ e ∈ offs ps n i, ∃ k : Nat, e = k ∧ k < i ∧ ∃ p, ps[k]? = some p ∧ p.left = n
  | 0, e, h => by simp [offs] at h
  | i + 1, e, h => by
    rw [offs] at h
    rcases List.mem_append.1 h with h | h
    · obtain ⟨k, h1, h2, h3⟩ := offs_mem ps n i e h
      exact ⟨k, h1, by omega, h3⟩
    · split at h
      · rename_i p hp
        split at h
        · simp only [List.mem_singleton] at h
          rename_i hl
          exact ⟨i, h, by omega, p, hp, hl⟩
        · cases h
      · cases h
theorem offs_up (ps : List GProd) (n : Int) : ∀ i, (offs ps n i).Pairwise (· < ·)
  | 0 => by simp [offs]
  | i + 1 => by
    rw [offs, List.pairwise_append]
    refine ⟨offs_up ps n i, ?_, fun a ha b hb => ?_⟩
    · split
      · split <;> simp
      · simp
    · obtain ⟨k, rfl, hk, _⟩ := offs_mem ps n i a ha
      split at hb
      · split at hb
        · simp only [List.mem_singleton] at hb; subst hb; omega
        · cases hb
      · cases hb
def tot (ps : List GProd) (i : Nat) : Nat → Nat
  | 0 => 0
  | n + 1 => tot ps i n + (offs ps (n : Nat) i).length
end Go.Proofs.Ytaockkmmjinhpaa
