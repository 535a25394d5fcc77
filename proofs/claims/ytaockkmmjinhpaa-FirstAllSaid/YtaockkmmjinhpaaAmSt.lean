/-
  Stacks: slices of our own that are cut at their end and appended to.
-/
import Derived.Test.YtaockkmmjinhpaaAmUr
namespace Go.Am
set_option maxRecDepth 100000
set_option linter.unusedVariables false
set_option linter.unusedSimpArgs false
variable {T : TT} {F : Nat → Option Func}

theorem setCells_get : ∀ (vs cs : List AV) (o i : Nat), o + vs.length ≤ cs.length → (setCells cs o vs)[i]? = if o ≤ i ∧ i < o + vs.length then vs[i - o]? else cs[i]?
  | [], cs, o, i, _ => by
    rw [setCells, if_neg]
    simp only [List.length_nil]; omega
  | v :: vs, cs, o, i, h => by
    simp only [List.length_cons] at h ⊢
    rw [setCells, setCells_get vs _ _ _ (by simp; omega)]
    by_cases hi : i = o
    · subst hi
      rw [if_neg (by omega), if_pos (by omega), List.getElem?_set_self (by omega), Nat.sub_self]; rfl
    · by_cases h1 : o + 1 ≤ i ∧ i < o + 1 + vs.length
      · rw [if_pos h1, if_pos (by omega), show i - o = (i - (o + 1)) + 1 by omega, List.getElem?_cons_succ]
      · rw [if_neg h1, if_neg (by omega), List.getElem?_set_ne (Ne.symm hi)]

/-- A slice of our own with room that is known. -/
def CapS (m : Nat) (h : Heap) (v : AV) (sz : Nat) (ls : List (List AV)) : Prop :=
  ∃ b o c cs, v = .slc (some (b, o)) ls.length (some c) sz ∧ m ≤ b ∧ ls.length ≤ c ∧ o + c * sz ≤ cs.length ∧ BlkOf h b o sz ls cs true
theorem CapS.slc {m : Nat} {h : Heap} {v : AV} {sz : Nat} {ls : List (List AV)} (s : CapS m h v sz ls) : Slc h v sz ls := by
  obtain ⟨b, o, c, cs, rfl, _, hc, _, hb⟩ := s
  exact .inr ⟨b, o, some c, cs, true, rfl, hb, fun c' e => by simp at e; omega⟩
theorem CapS.base_ {m : Nat} {h : Heap} {v : AV} {sz : Nat} {ls : List (List AV)} (s : CapS m h v sz ls) {b : Nat} (e : v.base = some b) : m ≤ b ∧ b < h.nxt ∧ ∃ cs, h.get b = some (.cells cs true) := by
  obtain ⟨b', o, c, cs, rfl, hm, _, _, hb⟩ := s
  simp [AV.base] at e; subst e
  exact ⟨hm, hb.lt, cs, hb.get⟩
theorem Mine.base_ {m : Nat} {h : Heap} {v : AV} {sz : Nat} {ls : List (List AV)} (s : Mine m h v sz ls) {b : Nat} (e : v.base = some b) : m ≤ b ∧ b < h.nxt ∧ ∃ cs, h.get b = some (.cells cs true) := by
  obtain ⟨b', o, cs, rfl, hm, hb⟩ := s
  simp [AV.base] at e; subst e
  exact ⟨hm, hb.lt, cs, hb.get⟩

/-- A stack of ours. -/
def LStk {α : Type} [Rep α] (m : Nat) (h : Heap) (v : AV) (xs : List α) : Prop := ∃ ls, (Mine m h v (Rep.sz α) ls ∨ CapS m h v (Rep.sz α) ls) ∧ Reps h xs ls
section
variable {α : Type} [Rep α]
theorem LStk.slc {m : Nat} {h : Heap} {v : AV} {xs : List α} (s : LStk m h v xs) : LSlc h v xs := by
  obtain ⟨ls, a | a, b⟩ := s
  · exact ⟨ls, a.slc, b⟩
  · exact ⟨ls, a.slc, b⟩
theorem LStk.form {m : Nat} {h : Heap} {v : AV} {xs : List α} (s : LStk m h v xs) : ∃ a n cap z, v = .slc a n cap z ∧ n = xs.length := by obtain ⟨a, c, z, e⟩ := s.slc.form; exact ⟨a, _, c, z, e, rfl⟩
theorem LStk.base_ {m : Nat} {h : Heap} {v : AV} {xs : List α} (s : LStk m h v xs) {b : Nat} (e : v.base = some b) : m ≤ b ∧ b < h.nxt ∧ ∃ cs, h.get b = some (.cells cs true) := by
  obtain ⟨ls, a | a, _⟩ := s
  · exact a.base_ e
  · exact a.base_ e
theorem LStk.upd {m : Nat} {h h' : Heap} {v : AV} {xs : List α} {S : Nat → Prop} (s : LStk m h v xs) (u : Upd S h h') (hS : ∀ b, m ≤ b → v.base = some b → ¬ S b) : LStk m h' v xs := by
  obtain ⟨ls, a | a, r⟩ := s
  · refine ⟨ls, .inl (a.keep u.nxt fun b o n c z e hb => u.get b hb (hS b ?_ (by rw [e]; rfl))), r.pst u.pst⟩
    exact (a.base_ (b := b) (by rw [e]; rfl)).1
  · refine ⟨ls, .inr ?_, r.pst u.pst⟩
    obtain ⟨b, o, c, cs, rfl, hm, hc, hoc, hb⟩ := a
    exact ⟨b, o, c, cs, rfl, hm, hc, hoc, hb.keep u.nxt (u.get b hb.lt (hS b hm rfl))⟩
end
end Go.Am
