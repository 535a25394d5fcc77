/-
  Weakest conditions over the abstract machine: no fuel in sight.
-/
import Derived.Test.YtenpjkinpecnfaaAmP
namespace Go.Am
variable {T : TT} {F : Nat → Option Func}

structure Mono (T : TT) (F : Nat → Option Func) (n : Nat) : Prop where
  c : ∀ fn ro c f r, evalC T F n fn ro c f = some r → evalC T F (n + 1) fn ro c f = some r
  o : ∀ ops is s h r, evalOs T F n ops is s h = some r → evalOs T F (n + 1) ops is s h = some r
  d : ∀ ops bf base is st r, evalDs T F n ops bf base is st = some r → evalDs T F (n + 1) ops bf base is st = some r
  f : ∀ f args h r, callF T F n f args h = some r → callF T F (n + 1) f args h = some r
  r : ∀ l args h r, roundF T F n l args h = some r → roundF T F (n + 1) l args h = some r

theorem mono_zero : Mono T F 0 := ⟨fun _ _ _ _ _ e => by simp [evalC] at e, fun _ _ _ _ _ e => by simp [evalOs] at e, fun _ _ _ _ _ _ e => by simp [evalDs] at e, fun _ _ _ _ e => by simp [callF] at e, fun _ _ _ _ e => by simp [roundF] at e⟩

theorem mono_c {n : Nat} (ih : Mono T F n) : ∀ fn ro c f r, evalC T F (n + 1) fn ro c f = some r → evalC T F (n + 2) fn ro c f = some r := by
  intro fn ro c f r e
  cases c with
  | skip => rw [evalC] at e ⊢; exact e
  | label l => rw [evalC] at e ⊢; exact e
  | exit i => rw [evalC] at e ⊢; exact e
  | ret => rw [evalC] at e ⊢; exact e
  | goto l => simp [evalC] at e
  | refuse w => simp [evalC] at e
  | scope x => rw [evalC] at e ⊢; exact ih.c _ _ _ _ _ e
  | seq a b =>
    rw [evalC] at e ⊢
    cases ha : evalC T F n fn ro a f with
    | none => rw [ha] at e; simp at e
    | some p =>
      rw [ih.c _ _ _ _ _ ha]; rw [ha] at e
      obtain ⟨k, f1⟩ := p
      cases k with
      | normal => exact ih.c _ _ _ _ _ e
      | exit i => exact e
      | ret => exact e
  | loop x =>
    rw [evalC] at e ⊢
    cases ha : evalC T F n fn ro x f with
    | none => rw [ha] at e; simp at e
    | some p =>
      rw [ih.c _ _ _ _ _ ha]; rw [ha] at e
      obtain ⟨k, f1⟩ := p
      cases k with
      | normal => exact ih.c _ _ _ _ _ e
      | exit i => exact e
      | ret => exact e
  | block id x =>
    rw [evalC] at e ⊢
    cases ha : evalC T F n fn ro x f with
    | none => rw [ha] at e; simp at e
    | some p =>
      rw [ih.c _ _ _ _ _ ha]; rw [ha] at e
      exact e
  | cond x a b =>
    rw [evalC] at e ⊢
    cases hx : evalO f.s x with
    | none => rw [hx] at e; simp at e
    | some v =>
      rw [hx] at e
      cases v with
      | bool b => cases b <;> exact ih.c _ _ _ _ _ e
      | _ => simp at e
  | region i ops draw =>
    rw [evalC] at e ⊢
    cases draw with
    | false =>
      simp only [Bool.false_eq_true, if_false] at e ⊢
      cases ho : evalOs T F n ops.toList (List.range ops.size) f.s f.h with
      | none => rw [ho] at e; simp at e
      | some p => rw [ih.o _ _ _ _ _ ho]; rw [ho] at e; exact e
    | true =>
      simp only [if_true] at e ⊢
      by_cases hd : drawOk T ops = true
      · simp only [hd, if_true] at e ⊢
        cases hk : evalDs T F n ops.toList (befores ops.toList []) f.h.nxt (List.range ops.size) ⟨[], f.s, [], 0, ⟨f.h.nxt + ops.size, f.h.l⟩, []⟩ with
        | none => rw [hk] at e; simp at e
        | some st => rw [ih.d _ _ _ _ _ _ hk]; rw [hk] at e; exact e
      · simp only [hd, if_false, Bool.false_eq_true] at e; simp at e
  | rangeFunc g ps assign body =>
    rw [evalC] at e ⊢
    cases hx : evalO f.s g with
    | none => rw [hx] at e; simp at e
    | some v =>
      rw [hx] at e
      cases v with
      | func k caps =>
        cases k with
        | func k =>
          simp only at e ⊢
          cases hen : enterA ro f with
          | none => rw [hen] at e; simp at e
          | some q =>
            obtain ⟨df, ms, h⟩ := q
            rw [hen] at e
            simp only at e ⊢
            cases hc : callF T F n k (.func (.yield h.nxt) [] :: caps) (h.add (.loop { state := .ready, pending := none, fn := fn, tmps := f.s, params := ps.toList, assign, body, defers := df })) with
            | none => rw [hc] at e; simp at e
            | some p => rw [ih.f _ _ _ _ hc]; rw [hc] at e; exact e
        | _ => simp at e
      | _ => simp at e

theorem mono_o {n : Nat} (ih : Mono T F n) : ∀ ops is s h r, evalOs T F (n + 1) ops is s h = some r → evalOs T F (n + 2) ops is s h = some r := by
  intro ops is s h r e
  cases is with
  | nil => rw [evalOs] at e ⊢; exact e
  | cons i is =>
    rw [evalOs] at e ⊢
    cases ho : ops[i]? with
    | none => rw [ho] at e; simp at e
    | some o =>
      rw [ho] at e
      simp only at e ⊢
      by_cases hw : wantedA o ops s = true
      · simp only [hw, if_true] at e ⊢
        have key : ∀ x y : Option (AV × Heap), (∀ q, x = some q → y = some q) → (match x with | some (v, h') => evalOs T F n ops is (putA s o.dst v) h' | none => none) = some r → (match y with | some (v, h') => evalOs T F (n + 1) ops is (putA s o.dst v) h' | none => none) = some r := by
          intro x y hxy hx
          cases x with
          | none => simp at hx
          | some q => rw [hxy q rfl]; exact ih.o _ _ _ _ _ hx
        refine key _ _ ?_ e
        intro q hq
        split at hq
        · rename_i f args heq
          split at hq
          · rename_i g caps l h1 h2
            cases hx : externO F g (l ++ caps) with
            | some v => simp only [hx] at hq ⊢; exact hq
            | none => simp only [hx] at hq ⊢; exact ih.f _ _ _ _ hq
          · exact ih.r _ _ _ _ hq
          · simp at hq
        · exact hq
      · simp only [hw, if_false, Bool.false_eq_true] at e ⊢
        exact ih.o _ _ _ _ _ e

theorem mono_d {n : Nat} (ih : Mono T F n) : ∀ ops bf base is st r, evalDs T F (n + 1) ops bf base is st = some r → evalDs T F (n + 2) ops bf base is st = some r := by
  intro ops bf base is st r e
  cases is with
  | nil => rw [evalDs] at e ⊢; exact e
  | cons i is =>
    rw [evalDs] at e ⊢
    cases ho : ops[i]? with
    | none => rw [ho] at e; simp at e
    | some o =>
      rw [ho] at e
      simp only at e ⊢
      cases hk : dkind T o.op with
      | eff =>
        simp only [hk] at e ⊢
        cases hx : evalOs T F n ops [i] st.s (heapFor base st.nb (bf.getD i 0) st.msk st.h) with
        | none => rw [hx] at e; simp at e
        | some p => rw [ih.o _ _ _ _ _ hx]; rw [hx] at e; exact ih.d _ _ _ _ _ _ e
      | new =>
        simp only [hk] at e ⊢
        by_cases hw : wantedA o ops st.s = true
        · simp only [hw, if_true] at e ⊢
          cases hx : allocA T (evalO st.s) o.op (base + i) with
          | none => rw [hx] at e; simp at e
          | some p => rw [hx] at e; exact ih.d _ _ _ _ _ _ e
        · simp only [hw, if_false, Bool.false_eq_true] at e ⊢
          exact ih.d _ _ _ _ _ _ e
      | quiet =>
        simp only [hk] at e ⊢
        by_cases hw : wantedA o ops st.s = true
        · simp only [hw, if_true] at e ⊢
          cases hx : opA T (evalO st.s) o.op (heapFor base st.nb (bf.getD i 0) st.msk st.h) with
          | none => rw [hx] at e; simp at e
          | some p => rw [hx] at e; exact ih.d _ _ _ _ _ _ e
        · simp only [hw, if_false, Bool.false_eq_true] at e ⊢
          exact ih.d _ _ _ _ _ _ e
      | no => simp only [hk] at e; simp at e

theorem mono_f {n : Nat} (ih : Mono T F n) : ∀ f args h r, callF T F (n + 1) f args h = some r → callF T F (n + 2) f args h = some r := by
  intro f args h r e
  rw [callF] at e ⊢
  cases hF : F f with
  | none => rw [hF] at e; simp at e
  | some fn =>
    rw [hF] at e
    simp only at e ⊢
    cases hb : fn.body with
    | none => rw [hb] at e; simp at e
    | some c =>
      rw [hb] at e
      simp only at e ⊢
      cases hc : evalC T F n f none c { s := args ++ List.replicate (fn.ntmps - args.length) undefA, ms := [], h } with
      | none => rw [hc] at e; simp at e
      | some p => rw [ih.c _ _ _ _ _ hc]; rw [hc] at e; exact e

theorem mono_r {n : Nat} (ih : Mono T F n) : ∀ l args h r, roundF T F (n + 1) l args h = some r → roundF T F (n + 2) l args h = some r := by
  intro l args h r e
  rw [roundF] at e ⊢
  cases hl : h.get l with
  | none => rw [hl] at e; simp at e
  | some b =>
    rw [hl] at e
    cases b with
    | loop q =>
      simp only at e ⊢
      by_cases ha : args.length ≠ q.params.length
      · rw [if_pos ha] at e; simp at e
      · rw [if_neg ha] at e ⊢
        cases hc : evalC T F n q.fn (some l) q.assign { s := setAll q.tmps q.params args, ms := [], h } with
        | none => rw [hc] at e; simp at e
        | some p =>
          rw [ih.c _ _ _ _ _ hc]; rw [hc] at e
          obtain ⟨k, f1⟩ := p
          cases k with
          | normal =>
            simp only at e ⊢
            cases hg : f1.h.get l with
            | none => rw [hg] at e; simp at e
            | some b1 =>
              rw [hg] at e
              cases b1 with
              | loop r1 =>
                simp only at e ⊢
                by_cases hr : r1.state ≠ .ready ∨ f1.ms ≠ []
                · rw [if_pos hr] at e; simp at e
                · rw [if_neg hr] at e ⊢
                  cases hc2 : evalC T F n q.fn (some l) q.body { f1 with h := f1.h.put l (.loop { r1 with state := .busy }) } with
                  | none => rw [hc2] at e; simp at e
                  | some p2 => rw [ih.c _ _ _ _ _ hc2]; rw [hc2] at e; exact e
              | _ => simp at e
          | _ => simp at e
    | _ => simp at e

theorem mono1 : ∀ n, Mono T F n
  | 0 => mono_zero
  | n + 1 => have ih := mono1 n; ⟨mono_c ih, mono_o ih, mono_d ih, mono_f ih, mono_r ih⟩

theorem evalC_le {n m : Nat} (h : n ≤ m) {fn ro c f r} (e : evalC T F n fn ro c f = some r) : evalC T F m fn ro c f = some r := by
  obtain ⟨k, rfl⟩ := Nat.exists_eq_add_of_le h
  clear h
  induction k with
  | zero => exact e
  | succ k ih => exact (mono1 (n + k)).c _ _ _ _ _ ih
theorem evalOs_le {n m : Nat} (h : n ≤ m) {ops is s hp r} (e : evalOs T F n ops is s hp = some r) : evalOs T F m ops is s hp = some r := by
  obtain ⟨k, rfl⟩ := Nat.exists_eq_add_of_le h
  clear h
  induction k with
  | zero => exact e
  | succ k ih => exact (mono1 (n + k)).o _ _ _ _ _ ih
theorem evalDs_le {n m : Nat} (h : n ≤ m) {ops bf base is st r} (e : evalDs T F n ops bf base is st = some r) : evalDs T F m ops bf base is st = some r := by
  obtain ⟨k, rfl⟩ := Nat.exists_eq_add_of_le h
  clear h
  induction k with
  | zero => exact e
  | succ k ih => exact (mono1 (n + k)).d _ _ _ _ _ _ ih
theorem callF_le {n m : Nat} (h : n ≤ m) {f args hp r} (e : callF T F n f args hp = some r) : callF T F m f args hp = some r := by
  obtain ⟨k, rfl⟩ := Nat.exists_eq_add_of_le h
  clear h
  induction k with
  | zero => exact e
  | succ k ih => exact (mono1 (n + k)).f _ _ _ _ ih
theorem roundF_le {n m : Nat} (h : n ≤ m) {l args hp r} (e : roundF T F n l args hp = some r) : roundF T F m l args hp = some r := by
  obtain ⟨k, rfl⟩ := Nat.exists_eq_add_of_le h
  clear h
  induction k with
  | zero => exact e
  | succ k ih => exact (mono1 (n + k)).r _ _ _ _ ih

end Go.Am
