/-
  The abstract machine: the orders in which a region may be carried out.
-/
import GoSem.Core.Region
namespace Go.Am

/-- The edges that bind in any order. -/
def edges (o : Oper) : List Edge := o.after.toList.filter (Region.binds .any)

/-- An order that keeps to a region's edges. -/
def Keeps (ops : Array Oper) (l : List Nat) : Prop :=
  ∀ pre x post, l = pre ++ x :: post → x < ops.size ∧ x ∉ pre ∧ ∀ o, ops[x]? = some o → ∀ e ∈ edges o, e.on ∈ pre

theorem Keeps.nil (ops : Array Oper) : Keeps ops [] := by intro pre x post h; simp at h

theorem Keeps.snoc {ops : Array Oper} {l : List Nat} {y : Nat} (h : Keeps ops l) (h1 : y < ops.size) (h2 : y ∉ l) (h3 : ∀ o, ops[y]? = some o → ∀ e ∈ edges o, e.on ∈ l) : Keeps ops (l ++ [y]) := by
  intro pre x post e
  rcases List.eq_nil_or_concat post with hp | ⟨q, z, hp⟩
  · subst hp
    have := List.append_inj' e rfl
    obtain ⟨rfl, hx⟩ := this
    simp at hx; subst hx
    exact ⟨h1, h2, h3⟩
  · subst hp
    rw [List.concat_eq_append, ← List.cons_append, ← List.append_assoc] at e
    have := List.append_inj' e rfl
    obtain ⟨rfl, hx⟩ := this
    exact h pre x q rfl

def unlisted (n : Nat) (listed : Array Bool) : Nat := (List.range n).countP fun i => !listed.getD i true

theorem countP_lt {n i : Nat} {p q : Nat → Bool} (hi : i < n) (hp : p i = true) (hq : q i = false) (hle : ∀ j, q j = true → p j = true) : (List.range n).countP q < (List.range n).countP p := by
  induction n with
  | zero => omega
  | succ n ih =>
    rw [List.range_succ, List.countP_append, List.countP_append]
    by_cases hin : i = n
    · subst hin
      have h1 : (List.range i).countP q ≤ (List.range i).countP p := List.countP_mono_left (fun j _ => hle j)
      simp [hp, hq]; omega
    · have := ih (by omega)
      have h2 : List.countP q [n] ≤ List.countP p [n] := List.countP_mono_left (fun j _ => hle j)
      omega

theorem lin_go {ops : Array Oper} (hb : ∀ (x : Nat) o, ops[x]? = some o → ∀ e ∈ edges o, e.on < x) : ∀ (fuel t : Nat) (listed : Array Bool) (acc : List Nat), listed.size = ops.size →
    (∀ i, i < ops.size → (listed.getD i true = true ↔ i ∈ acc)) → Keeps ops acc.reverse → (∀ i ∈ acc, i < ops.size) → unlisted ops.size listed ≤ fuel →
    Keeps ops (Region.linearise.go .any ops fuel t listed acc) ∧ ∀ i, i < ops.size → i ∈ Region.linearise.go .any ops fuel t listed acc
  | 0, t, listed, acc, hs, hl, hk, ha, hf => by
    unfold Region.linearise.go
    refine ⟨hk, fun i hi => ?_⟩
    rw [List.mem_reverse, ← hl i hi]
    have h0 : (List.range ops.size).countP (fun i => !listed.getD i true) = 0 := by unfold unlisted at hf; omega
    rw [List.countP_eq_zero] at h0
    have := h0 i (List.mem_range.2 hi)
    simpa using this
  | fuel + 1, t, listed, acc, hs, hl, hk, ha, hf => by
    unfold Region.linearise.go
    simp only
    split
    · rename_i i hri
      have hmem : i ∈ (List.range ops.size).filter fun i => !listed.getD i true && ((ops[i]?).map (·.after.all fun e => !Region.binds .any e || listed.getD e.on false)).getD false := List.mem_of_getElem? hri
      rw [List.mem_filter, List.mem_range] at hmem
      obtain ⟨hi, hcond⟩ := hmem
      simp only [Bool.and_eq_true, Bool.not_eq_true'] at hcond
      obtain ⟨hnl, hpre⟩ := hcond
      have hni : i ∉ acc := fun h => by rw [(hl i hi).2 h] at hnl; cases hnl
      obtain ⟨o, ho⟩ : ∃ o, ops[i]? = some o := ⟨ops[i], Array.getElem?_eq_getElem hi⟩
      rw [ho] at hpre
      simp only [Option.map_some, Option.getD_some] at hpre
      have hedges : ∀ e ∈ edges o, e.on ∈ acc := by
        intro e he
        obtain ⟨he1, h2⟩ := List.mem_filter.1 he
        rw [Array.all_eq_true'] at hpre
        have h1 := hpre e (by simpa using he1)
        have hlt : e.on < ops.size := by have := hb i o ho _ he; omega
        rw [h2] at h1
        simp only [Bool.not_true, Bool.false_or] at h1
        rw [← hl _ hlt]
        rw [Array.getD_eq_getD_getElem?] at h1 ⊢
        cases hq : listed[e.on]? with
        | none => rw [hq] at h1; simp at h1
        | some b => rw [hq] at h1; simpa using h1
      refine lin_go hb fuel _ _ (i :: acc) (by simpa using hs) ?_ ?_ ?_ ?_
      · intro k hk'
        rw [Array.getD_eq_getD_getElem?, Array.getElem?_setIfInBounds]
        by_cases hik : i = k
        · subst hik; simp [hs, hk']
        · rw [if_neg hik, ← Array.getD_eq_getD_getElem?, hl k hk']
          simp
          intro h; exact absurd h.symm hik
      · rw [List.reverse_cons]
        refine hk.snoc hi (by simpa using hni) fun o' ho' e he => ?_
        rw [ho] at ho'; simp at ho'; subst ho'
        simpa using hedges e he
      · intro k hk'
        simp at hk'
        rcases hk' with rfl | hk'
        · exact hi
        · exact ha k hk'
      · have : unlisted ops.size (listed.setIfInBounds i true) < unlisted ops.size listed := by
          unfold unlisted
          refine countP_lt hi (by simp [hnl]) ?_ ?_
          · rw [Array.getD_eq_getD_getElem?, Array.getElem?_setIfInBounds]; simp [hs, hi]
          · intro j hj
            rw [Array.getD_eq_getD_getElem?, Array.getElem?_setIfInBounds] at hj
            rw [Array.getD_eq_getD_getElem?]
            split at hj
            · rename_i hij; subst hij; simp [hs, hi] at hj
            · exact hj
        omega
    · rename_i hrs
      refine ⟨hk, fun i hi => ?_⟩
      rw [List.mem_reverse, ← hl i hi]
      -- none is ready: all are listed, by the least one that is not
      have hnil : ((List.range ops.size).filter fun i => !listed.getD i true && ((ops[i]?).map (·.after.all fun e => !Region.binds .any e || listed.getD e.on false)).getD false) = [] := by
        generalize ((List.range ops.size).filter fun i => !listed.getD i true && ((ops[i]?).map (·.after.all fun e => !Region.binds .any e || listed.getD e.on false)).getD false) = rs at hrs
        cases rs with
        | nil => rfl
        | cons x rs =>
          rw [List.getElem?_eq_none_iff] at hrs
          have := Nat.mod_lt t (show 0 < (x :: rs).length by simp)
          omega
      have hall : ∀ m i, i ≤ m → i < ops.size → listed.getD i true = true := by
        intro m
        induction m with
        | zero =>
          intro i hi0 hi
          refine Decidable.byContradiction fun hn => ?_
          have hmem : i ∈ ((List.range ops.size).filter fun i => !listed.getD i true && ((ops[i]?).map (·.after.all fun e => !Region.binds .any e || listed.getD e.on false)).getD false) := by
            rw [List.mem_filter, List.mem_range]
            refine ⟨hi, ?_⟩
            have ho : ops[i]? = some ops[i] := Array.getElem?_eq_getElem hi
            simp only [Bool.and_eq_true, Bool.not_eq_true', ho, Option.map_some, Option.getD_some]
            refine ⟨by simpa using hn, ?_⟩
            rw [Array.all_eq_true']
            intro e he
            cases hbd : Region.binds .any e with
            | false => simp
            | true =>
              have := hb i _ ho e (List.mem_filter.2 ⟨by simpa using he, hbd⟩)
              omega
          rw [hnil] at hmem; cases hmem
        | succ m ih =>
          intro i hi0 hi
          refine Decidable.byContradiction fun hn => ?_
          have hmem : i ∈ ((List.range ops.size).filter fun i => !listed.getD i true && ((ops[i]?).map (·.after.all fun e => !Region.binds .any e || listed.getD e.on false)).getD false) := by
            rw [List.mem_filter, List.mem_range]
            refine ⟨hi, ?_⟩
            have ho : ops[i]? = some ops[i] := Array.getElem?_eq_getElem hi
            simp only [Bool.and_eq_true, Bool.not_eq_true', ho, Option.map_some, Option.getD_some]
            refine ⟨by simpa using hn, ?_⟩
            rw [Array.all_eq_true']
            intro e he
            cases hbd : Region.binds .any e with
            | false => simp
            | true =>
              have hlt := hb i _ ho e (List.mem_filter.2 ⟨by simpa using he, hbd⟩)
              have := ih e.on (by omega) (by omega)
              rw [Array.getD_eq_getD_getElem?] at this ⊢
              have hsz : e.on < listed.size := by omega
              rw [Array.getElem?_eq_getElem hsz] at this ⊢
              simp only [Option.getD_some] at this ⊢
              rw [this]; simp
          rw [hnil] at hmem; cases hmem
      exact hall i i (Nat.le_refl _) hi

/-- What the machine draws keeps to the edges, and leaves nothing out. -/
theorem schedule_keeps {ops : Array Oper} (hb : ∀ (x : Nat) o, ops[x]? = some o → ∀ e ∈ edges o, e.on < x) (t : Nat) :
    Keeps ops (Region.schedule true ops t) ∧ ∀ i, i < ops.size → i ∈ Region.schedule true ops t := by
  have : Region.schedule true ops t = Region.linearise .any ops t := by
    unfold Region.schedule; simp
  rw [this]
  unfold Region.linearise
  refine lin_go hb _ _ _ _ (by simp) (fun i hi => ?_) (Keeps.nil ops) (by simp) ?_
  · simp [Array.getD_eq_getD_getElem?, hi]
  · unfold unlisted
    have := List.countP_le_length (p := fun i => !(Array.replicate ops.size false).getD i true) (l := List.range ops.size)
    simpa using this

end Go.Am
