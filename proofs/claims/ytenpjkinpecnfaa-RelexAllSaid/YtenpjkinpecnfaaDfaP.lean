/-
  Layer dfa, without the program: rows, one behind the other.
-/
import Derived.Test.YtenpjkinpecnfaaDfaC
import Derived.KernelRfl
namespace Go.Proofs.Ytenpjkinpecnfaa
open Go Go.Am
set_option maxRecDepth 100000
set_option linter.unusedSimpArgs false
set_option linter.unusedVariables false

/-- A row: where it goes with each byte, and which kind ends there. -/
structure Row where
  next : List Int
  fin : Nat
def Row.cells (x : Row) : List AV := x.next.map (fun z => AV.int .i64 z) ++ [.int .i64 x.fin]
instance : Rep Row := ⟨257, fun _ x cs => cs = x.cells ∧ x.next.length = 256, fun ⟨e, hl⟩ => by rw [e]; simp [Row.cells, hl], fun ⟨e, hl⟩ => by rw [e]; simp [Row.cells, AV.leaf], fun e _ => e⟩

theorem rowN_idem (S : List (List Nat)) (t : List Nat) : rowN (rowN S t).1 t = rowN S t := by
  unfold rowN
  by_cases h0 : t = []
  · simp [h0]
  · by_cases h1 : t ∈ S
    · simp [h0, h1]
    · simp only [h0, if_false, h1]
      rw [if_pos (by simp), List.idxOf_append, if_neg h1]
      simp
theorem rowN_mem {S : List (List Nat)} {t : List Nat} : ∀ x ∈ (rowN S t).1, x ∈ S ∨ (x = t ∧ t ≠ []) := by
  unfold rowN
  intro x hx
  split at hx
  · exact .inl hx
  · rename_i h0
    split at hx
    · exact .inl hx
    · rcases List.mem_append.1 hx with hx | hx
      · exact .inl hx
      · simp only [List.mem_singleton] at hx; exact .inr ⟨hx, h0⟩
theorem rowN_pre (S : List (List Nat)) (t : List Nat) : ∃ r, (rowN S t).1 = S ++ r ∧ r.length ≤ 1 := by
  unfold rowN
  split
  · exact ⟨[], by simp, by simp⟩
  · split
    · exact ⟨[], by simp, by simp⟩
    · exact ⟨[t], rfl, by simp⟩
theorem rowN_nodup {S : List (List Nat)} {t : List Nat} (h : S.Nodup) : (rowN S t).1.Nodup := by
  unfold rowN
  split
  · exact h
  · split
    · exact h
    · rename_i h1
      rw [List.nodup_append]
      exact ⟨h, by simp, fun a ha b hb => by simp only [List.mem_singleton] at hb; subst hb; exact fun e => h1 (e ▸ ha)⟩
/-- What a place tells. -/
theorem rowN_at (S : List (List Nat)) (t : List Nat) : (t = [] ∧ (rowN S t).2 = -1) ∨ (t ≠ [] ∧ ∃ j : Nat, (rowN S t).2 = (j : Nat) ∧ (rowN S t).1[j]? = some t) := by
  unfold rowN
  by_cases h0 : t = []
  · exact .inl ⟨h0, by simp [h0]⟩
  · refine .inr ⟨h0, ?_⟩
    rw [if_neg h0]
    by_cases h1 : t ∈ S
    · rw [if_pos h1]
      exact ⟨S.idxOf t, rfl, by rw [List.getElem?_eq_getElem (List.idxOf_lt_length_iff.2 h1), List.getElem_idxOf]⟩
    · rw [if_neg h1]
      exact ⟨S.length, rfl, by simp⟩

/-- A row's bytes, the first ones. -/
noncomputable def rowAll (G : List St) (s : List Nat) : Nat → List (List Nat) → List (List Nat) × List Int
  | 0, S => (S, [])
  | c + 1, S => ((rowN (rowAll G s c S).1 (goes G s (UInt8.ofNat c))).1, (rowAll G s c S).2 ++ [(rowN (rowAll G s c S).1 (goes G s (UInt8.ofNat c))).2])
theorem rowAll_len (G : List St) (s : List Nat) (S : List (List Nat)) : ∀ c, (rowAll G s c S).2.length = c
  | 0 => rfl
  | c + 1 => by rw [rowAll]; simp [rowAll_len G s S c]
theorem rowAll_pre (G : List St) (s : List Nat) (S : List (List Nat)) : ∀ c, ∃ r, (rowAll G s c S).1 = S ++ r ∧ r.length ≤ c
  | 0 => ⟨[], by simp [rowAll], by simp⟩
  | c + 1 => by
    obtain ⟨r, h1, h2⟩ := rowAll_pre G s S c
    obtain ⟨r2, h3, h4⟩ := rowN_pre (rowAll G s c S).1 (goes G s (UInt8.ofNat c))
    exact ⟨r ++ r2, by rw [rowAll, h3, h1, List.append_assoc], by simp; omega⟩
theorem u8_nat {c : Nat} (h : c < 256) : (UInt8.ofNat c).toNat = c := by rw [UInt8.toNat_ofNat']; omega
/-- Where nothing begins and nothing is over, all goes where it went. -/
theorem goes_same {G : List St} {s : List Nat} {c : Nat} (hc : c + 1 < 256) (h : ¬ edge G s (c + 1)) : goes G s (UInt8.ofNat (c + 1)) = goes G s (UInt8.ofNat c) := by
  unfold goes
  refine clo_congr fun i => ?_
  have key : ∀ a, a ∈ tos G s (UInt8.ofNat (c + 1)) ↔ a ∈ tos G s (UInt8.ofNat c) := fun a => by
    rw [mem_tos, mem_tos]
    have hb : ∀ q x, q ∈ s → G[q]? = some x → (x.lo ≤ UInt8.ofNat (c + 1) ∧ UInt8.ofNat (c + 1) ≤ x.hi ↔ x.lo ≤ UInt8.ofNat c ∧ UInt8.ofNat c ≤ x.hi) := fun q x hq hx => by
      have h1 : ¬ (c + 1 = x.lo.toNat ∨ c + 1 = x.hi.toNat + 1) := fun h1 => h (.inr ⟨q, x, hq, hx, h1⟩)
      simp only [UInt8.le_iff_toNat_le, u8_nat hc, u8_nat (show c < 256 by omega)]
      omega
    constructor
    · rintro ⟨q, x, h1, h2, h3, h4⟩; exact ⟨q, x, h1, h2, (hb q x h1 h2).1 h3, h4⟩
    · rintro ⟨q, x, h1, h2, h3, h4⟩; exact ⟨q, x, h1, h2, (hb q x h1 h2).2 h3, h4⟩
  simp only [key]
theorem rowAll_same {G : List St} {s : List Nat} {S : List (List Nat)} {c : Nat} (hc : c + 1 < 256) (h : ¬ edge G s (c + 1)) :
    rowN (rowAll G s (c + 1) S).1 (goes G s (UInt8.ofNat (c + 1))) = ((rowAll G s (c + 1) S).1, (rowN (rowAll G s c S).1 (goes G s (UInt8.ofNat c))).2) := by
  rw [goes_same hc h]
  simp only [rowAll]
  rw [rowN_idem]

/-- The least kind that ends in a set. -/
def finS (r : Nat) (x : Option St) : Nat := match x with
  | some x => if 0 < x.fin ∧ (r = 0 ∨ x.fin < r) then x.fin else r
  | none => r
def finOf (G : List St) (s : List Nat) : Nat := s.foldl (fun r q => finS r G[q]?) 0
theorem finOf_snoc (G : List St) (s : List Nat) (q : Nat) {x : St} (hx : G[q]? = some x) : finOf G (s ++ [q]) = if 0 < x.fin ∧ (finOf G s = 0 ∨ x.fin < finOf G s) then x.fin else finOf G s := by
  have : finOf G (s ++ [q]) = finS (finOf G s) G[q]? := by simp [finOf, List.foldl_append]
  rw [this, hx]; rfl
/-- Rows and sets, so many. -/
noncomputable def ofN (G : List St) : Nat → List (List Nat) × List Row
  | 0 => ((rowN [] (clo G [0])).1, [])
  | i + 1 => match (ofN G i).1[i]? with
    | some s => ((rowAll G s 256 (ofN G i).1).1, (ofN G i).2 ++ [⟨(rowAll G s 256 (ofN G i).1).2, finOf G s⟩])
    | none => ofN G i
theorem ofN_len (G : List St) : ∀ i, i ≤ (ofN G i).1.length → (ofN G i).2.length = i
  | 0, _ => rfl
  | i + 1, h => by
    rw [ofN] at h ⊢
    cases hs : (ofN G i).1[i]? with
    | none =>
      rw [hs] at h
      have := List.getElem?_eq_none_iff.1 hs
      simp only at h
      omega
    | some s =>
      have := (List.getElem?_eq_some_iff.1 hs).1
      simp [ofN_len G i (by omega)]
theorem ofN_bound (G : List St) : ∀ i, (ofN G i).1.length ≤ 1 + 256 * i
  | 0 => by
    obtain ⟨r, h1, h2⟩ := rowN_pre [] (clo G [0])
    rw [ofN, h1]; simp; omega
  | i + 1 => by
    have := ofN_bound G i
    rw [ofN]
    split
    · rename_i s hs
      obtain ⟨r, h1, h2⟩ := rowAll_pre G s (ofN G i).1 256
      simp only [h1, List.length_append]; omega
    · omega

end Go.Proofs.Ytenpjkinpecnfaa
