import Derived.Test.YtaockkmmjinhpaaAmP
/-
  Weakest conditions over the abstract machine: no fuel in sight.
-/
namespace Go.Am
variable {T : TT} {F : Nat → Option Func}

structure Mono (T : TT) (F : Nat → Option Func) (n : Nat) : Prop where
  c : ∀ fn ro c f r, evalC T F n fn ro c f = some r → evalC T F (n + 1) fn ro c f = some r
  o : ∀ ops is s h r, evalOs T F n ops is s h = some r → evalOs T F (n + 1) ops is s h = some r
  d : ∀ ops bf base is st r, evalDs T F n ops bf base is st = some r → evalDs T F (n + 1) ops bf base is st = some r
  f : ∀ f args h r, callF T F n f args h = some r → callF T F (n + 1) f args h = some r
  r : ∀ l args h r, roundF T F n l args h = some r → roundF T F (n + 1) l args h = some r

theorem mono_zero : Mono T F 0 := ⟨fun _ _ _ _ _ e => by simp [evalC] at e, fun _ _ _ _ _ e => by simp [evalOs] at e, fun _ _ _ _ _ _ e => by simp [evalDs] at e, fun _ _ _ _ e => by simp [callF] at e, fun _ _ _ _ e => by simp [roundF] at e⟩

theorem mono_c {n : Nat} (ih : Mono T F n) : ∀ fn ro c f r, evalC T F (n + 1) fn ro c f = some r → evalC T F (n + 2) fn ro c f = some r := by
  intro fn ro c f r e
  cases c with
  | skip => rw [evalC] at e ⊢; exact e
  | label l => rw [evalC] at e ⊢; exact e
  | exit i => rw [evalC] at e ⊢; exact e
  | ret => rw [evalC] at e ⊢; exact e
  | goto l => simp [evalC] at e
  | refuse w => simp [evalC] at e
  | scope x => rw [evalC] at e ⊢; exact ih.c _ _ _ _ _ e
  | seq a b =>
    rw [evalC] at e ⊢
    cases ha : evalC T F n fn ro a f with
    | none => rw [ha] at e; simp at e
    | some p =>
      rw [ih.c _ _ _ _ _ ha]; rw [ha] at e
      obtain ⟨k, f1⟩ := p
      cases k with
      | normal => exact ih.c _ _ _ _ _ e
      | exit i => exact e
      | ret => exact e
  | loop x =>
    rw [evalC] at e ⊢
    cases ha : evalC T F n fn ro x f with
    | none => rw [ha] at e; simp at e
    | some p =>
      rw [ih.c _ _ _ _ _ ha]; rw [ha] at e
      obtain ⟨k, f1⟩ := p
      cases k with
      | normal => exact ih.c _ _ _ _ _ e
      | exit i => exact e
      | ret => exact e
  | block id x =>
    rw [evalC] at e ⊢
    cases ha : evalC T F n fn ro x f with
    | none => rw [ha] at e; simp at e
    | some p =>
      rw [ih.c _ _ _ _ _ ha]; rw [ha] at e
      exact e
  | cond x a b =>
    rw [evalC] at e ⊢
    cases hx : evalO f.s x with
    | none => rw [hx] at e; simp at e
    | some v =>
      rw [hx] at e
      cases v with
      | bool b => cases b <;> exact ih.c _ _ _ _ _ e
      | _ => simp at e
  | region i ops draw =>
    rw [evalC] at e ⊢
    cases draw with
    | false =>
      simp only [Bool.false_eq_true, if_false] at e ⊢
      cases ho : evalOs T F n ops.toList (List.range ops.size) f.s f.h with
      | none => rw [ho] at e; simp at e
      | some p => rw [ih.o _ _ _ _ _ ho]; rw [ho] at e; exact e
    | true =>
      simp only [if_true] at e ⊢
      by_cases hd : drawOk T ops = true
      · simp only [hd, if_true] at e ⊢
        cases hk : evalDs T F n ops.toList (befores ops.toList []) f.h.nxt (List.range ops.size) ⟨[], f.s, [], 0, ⟨f.h.nxt + ops.size, f.h.l⟩, []⟩ with
        | none => rw [hk] at e; simp at e
        | some st => rw [ih.d _ _ _ _ _ _ hk]; rw [hk] at e; exact e
      · simp only [hd, if_false, Bool.false_eq_true] at e; simp at e
  | rangeFunc g ps assign body =>
    rw [evalC] at e ⊢
    cases hx : evalO f.s g with
    | none => rw [hx] at e; simp at e
    | some v =>
      rw [hx] at e
      cases v with
      | func k caps =>
        cases k with
        | func k =>
          simp only at e ⊢
          cases hen : enterA ro f with
          | none => rw [hen] at e; simp at e
          | some q =>
            obtain ⟨df, ms, h⟩ := q
            rw [hen] at e
            simp only at e ⊢
            cases hc : callF T F n k (.func (.yield h.nxt) [] :: caps) (h.add (.loop { state := .ready, pending := none, fn := fn, tmps := f.s, params := ps.toList, assign, body, defers := df })) with
            | none => rw [hc] at e; simp at e
            | some p => rw [ih.f _ _ _ _ hc]; rw [hc] at e; exact e
        | _ => simp at e
      | _ => simp at e

theorem mono_o {n : Nat} (ih : Mono T F n) : ∀ ops is s h r, evalOs T F (n + 1) ops is s h = some r → evalOs T F (n + 2) ops is s h = some r := by
  intro ops is s h r e
  cases is with
  | nil => rw [evalOs] at e ⊢; exact e
  | cons i is =>
    rw [evalOs] at e ⊢
    cases ho : ops[i]? with
    | none => rw [ho] at e; simp at e
    | some o =>
      rw [ho] at e
      simp only at e ⊢
      by_cases hw : wantedA o ops s = true
      · simp only [hw, if_true] at e ⊢
        have key : ∀ x y : Option (AV × Heap), (∀ q, x = some q → y = some q) → (match x with | some (v, h') => evalOs T F n ops is (putA s o.dst v) h' | none => none) = some r → (match y with | some (v, h') => evalOs T F (n + 1) ops is (putA s o.dst v) h' | none => none) = some r := by
          intro x y hxy hx
          cases x with
          | none => simp at hx
          | some q => rw [hxy q rfl]; exact ih.o _ _ _ _ _ hx
        refine key _ _ ?_ e
        intro q hq
        split at hq
        · rename_i f args heq
          split at hq
          · rename_i g caps l h1 h2
            cases hx : externO F g (l ++ caps) with
            | some v => simp only [hx] at hq ⊢; exact hq
            | none => simp only [hx] at hq ⊢; exact ih.f _ _ _ _ hq
          · exact ih.r _ _ _ _ hq
          · simp at hq
        · exact hq
      · simp only [hw, if_false, Bool.false_eq_true] at e ⊢
        exact ih.o _ _ _ _ _ e

theorem mono_d {n : Nat} (ih : Mono T F n) : ∀ ops bf base is st r, evalDs T F (n + 1) ops bf base is st = some r → evalDs T F (n + 2) ops bf base is st = some r := by
  intro ops bf base is st r e
  cases is with
  | nil => rw [evalDs] at e ⊢; exact e
  | cons i is =>
    rw [evalDs] at e ⊢
    cases ho : ops[i]? with
    | none => rw [ho] at e; simp at e
    | some o =>
      rw [ho] at e
      simp only at e ⊢
      cases hk : dkind T o.op with
      | eff =>
        simp only [hk] at e ⊢
        cases hx : evalOs T F n ops [i] st.s (heapFor base st.nb (bf.getD i 0) st.msk st.h) with
        | none => rw [hx] at e; simp at e
        | some p => rw [ih.o _ _ _ _ _ hx]; rw [hx] at e; exact ih.d _ _ _ _ _ _ e
      | new =>
        simp only [hk] at e ⊢
        by_cases hw : wantedA o ops st.s = true
        · simp only [hw, if_true] at e ⊢
          cases hx : allocA T (evalO st.s) o.op (base + i) with
          | none => rw [hx] at e; simp at e
          | some p => rw [hx] at e; exact ih.d _ _ _ _ _ _ e
        · simp only [hw, if_false, Bool.false_eq_true] at e ⊢
          exact ih.d _ _ _ _ _ _ e
      | quiet =>
        simp only [hk] at e ⊢
        by_cases hw : wantedA o ops st.s = true
        · simp only [hw, if_true] at e ⊢
          cases hx : opA T (evalO st.s) o.op (heapFor base st.nb (bf.getD i 0) st.msk st.h) with
          | none => rw [hx] at e; simp at e
          | some p => rw [hx] at e; exact ih.d _ _ _ _ _ _ e
        · simp only [hw, if_false, Bool.false_eq_true] at e ⊢
          exact ih.d _ _ _ _ _ _ e
      | no => simp only [hk] at e; simp at e

theorem mono_f {n : Nat} (ih : Mono T F n) : ∀ f args h r, callF T F (n + 1) f args h = some r → callF T F (n + 2) f args h = some r := by
  intro f args h r e
  rw [callF] at e ⊢
  cases hF : F f with
  | none => rw [hF] at e; simp at e
  | some fn =>
    rw [hF] at e
    simp only at e ⊢
    cases hb : fn.body with
    | none => rw [hb] at e; simp at e
    | some c =>
      rw [hb] at e
      simp only at e ⊢
      cases hc : evalC T F n f none c { s := args ++ List.replicate (fn.ntmps - args.length) undefA, ms := [], h } with
      | none => rw [hc] at e; simp at e
      | some p => rw [ih.c _ _ _ _ _ hc]; rw [hc] at e; exact e

theorem mono_r {n : Nat} (ih : Mono T F n) : ∀ l args h r, roundF T F (n + 1) l args h = some r → roundF T F (n + 2) l args h = some r := by
  intro l args h r e
  rw [roundF] at e ⊢
  cases hl : h.get l with
  | none => rw [hl] at e; simp at e
  | some b =>
    rw [hl] at e
    cases b with
    | loop q =>
      simp only at e ⊢
      by_cases ha : args.length ≠ q.params.length
      · rw [if_pos ha] at e; simp at e
      · rw [if_neg ha] at e ⊢
        cases hc : evalC T F n q.fn (some l) q.assign { s := setAll q.tmps q.params args, ms := [], h } with
        | none => rw [hc] at e; simp at e
        | some p =>
          rw [ih.c _ _ _ _ _ hc]; rw [hc] at e
          obtain ⟨k, f1⟩ := p
          cases k with
          | normal =>
            simp only at e ⊢
            cases hg : f1.h.get l with
            | none => rw [hg] at e; simp at e
            | some b1 =>
              rw [hg] at e
              cases b1 with
              | loop r1 =>
                simp only at e ⊢
                by_cases hr : r1.state ≠ .ready ∨ f1.ms ≠ []
                · rw [if_pos hr] at e; simp at e
                · rw [if_neg hr] at e ⊢
                  cases hc2 : evalC T F n q.fn (some l) q.body { f1 with h := f1.h.put l (.loop { r1 with state := .busy }) } with
                  | none => rw [hc2] at e; simp at e
                  | some p2 => rw [ih.c _ _ _ _ _ hc2]; rw [hc2] at e; exact e
              | _ => simp at e
          | _ => simp at e
    | _ => simp at e

theorem mono1 : ∀ n, Mono T F n
  | 0 => mono_zero
  | n + 1 => have ih := mono1 n; ⟨mono_c ih, mono_o ih, mono_d ih, mono_f ih, mono_r ih⟩

theorem evalC_le {n m : Nat} (h : n ≤ m) {fn ro c f r} (e : evalC T F n fn ro c f = some r) : evalC T F m fn ro c f = some r := by
  obtain ⟨k, rfl⟩ := Nat.exists_eq_add_of_le h
  clear h
  induction k with
  | zero => exact e
  | succ k ih => exact (mono1 (n + k)).c _ _ _ _ _ ih
theorem evalOs_le {n m : Nat} (h : n ≤ m) {ops is s hp r} (e : evalOs T F n ops is s hp = some r) : evalOs T F m ops is s hp = some r := by
  obtain ⟨k, rfl⟩ := Nat.exists_eq_add_of_le h
  clear h
  induction k with
  | zero => exact e
  | succ k ih => exact (mono1 (n + k)).o _ _ _ _ _ ih
theorem evalDs_le {n m : Nat} (h : n ≤ m) {ops bf base is st r} (e : evalDs T F n ops bf base is st = some r) : evalDs T F m ops bf base is st = some r := by
  obtain ⟨k, rfl⟩ := Nat.exists_eq_add_of_le h
  clear h
  induction k with
  | zero => exact e
  | succ k ih => exact (mono1 (n + k)).d _ _ _ _ _ _ ih
theorem callF_le {n m : Nat} (h : n ≤ m) {f args hp r} (e : callF T F n f args hp = some r) : callF T F m f args hp = some r := by
  obtain ⟨k, rfl⟩ := Nat.exists_eq_add_of_le h
  clear h
  induction k with
  | zero => exact e
  | succ k ih => exact (mono1 (n + k)).f _ _ _ _ ih
theorem roundF_le {n m : Nat} (h : n ≤ m) {l args hp r} (e : roundF T F n l args hp = some r) : roundF T F m l args hp = some r := by
  obtain ⟨k, rfl⟩ := Nat.exists_eq_add_of_le h
  clear h
  induction k with
  | zero => exact e
  | succ k ih => exact (mono1 (n + k)).r _ _ _ _ ih

end Go.Am

/-
  Weakest conditions over the abstract machine: by code.
-/
namespace Go.Am
variable {T : TT} {F : Nat → Option Func}

def WF (T : TT) (F : Nat → Option Func) (f : Nat) (args : List AV) (h : Heap) (Q : AV → Heap → Prop) : Prop := ∃ n v h', callF T F n f args h = some (v, h') ∧ Q v h'
def WR (T : TT) (F : Nat → Option Func) (l : Nat) (args : List AV) (h : Heap) (Q : AV → Heap → Prop) : Prop := ∃ n v h', roundF T F n l args h = some (v, h') ∧ Q v h'
def WC (T : TT) (F : Nat → Option Func) (fn : Nat) (ro : Option Nat) (c : Code) (f : Frm) (Q : AE → Frm → Prop) : Prop := ∃ n e f1, evalC T F n fn ro c f = some (e, f1) ∧ Q e f1
def OB (r : Option (AV × Heap)) (k : AV → Heap → Prop) : Prop := match r with | some (v, h) => k v h | none => False

theorem WF.mono {f args h} {Q Q' : AV → Heap → Prop} (w : WF T F f args h Q) (q : ∀ v h', Q v h' → Q' v h') : WF T F f args h Q' := by
  obtain ⟨n, v, h', e, k⟩ := w; exact ⟨n, v, h', e, q _ _ k⟩
theorem WR.mono {f args h} {Q Q' : AV → Heap → Prop} (w : WR T F f args h Q) (q : ∀ v h', Q v h' → Q' v h') : WR T F f args h Q' := by
  obtain ⟨n, v, h', e, k⟩ := w; exact ⟨n, v, h', e, q _ _ k⟩
theorem WC.mono {fn ro c f} {Q Q' : AE → Frm → Prop} (w : WC T F fn ro c f Q) (q : ∀ e f1, Q e f1 → Q' e f1) : WC T F fn ro c f Q' := by
  obtain ⟨n, v, h', e, k⟩ := w; exact ⟨n, v, h', e, q _ _ k⟩
theorem OB.mono {r} {Q Q' : AV → Heap → Prop} (w : OB r Q) (q : ∀ v h', Q v h' → Q' v h') : OB r Q' := by
  cases r with
  | none => exact w
  | some p => exact q _ _ w

/-- An operation, calls too. -/
def WK (T : TT) (F : Nat → Option Func) (op : Op) (s : List AV) (h : Heap) (k : AV → Heap → Prop) : Prop :=
  match op with
  | .call { callee := .value f, args, .. } =>
    (match evalO s f, evalAll (evalO s) args.toList with
     | some (.func (.func g) caps), some l => (match externO F g (l ++ caps) with | some v => k v h | none => WF T F g (l ++ caps) h k)
     | some (.func (.yield l) _), some as => WR T F l as h k
     | _, _ => False)
  | op => OB (opA T (evalO s) op h) k

/-- Operations, one behind the other. -/
def WL (T : TT) (F : Nat → Option Func) (all : List Oper) : List Oper → List AV → Heap → (List AV → Heap → Prop) → Prop
  | [], s, h, Q => Q s h
  | o :: l, s, h, Q => (wantedA o all s = true → WK T F o.op s h fun v h' => WL T F all l (putA s o.dst v) h' Q) ∧ (wantedA o all s = false → WL T F all l (putA s o.dst undefA) h Q)

def runO (T : TT) (F : Nat → Option Func) (n : Nat) (op : Op) (s : List AV) (h : Heap) : Option (AV × Heap) :=
  match op with
  | .call { callee := .value f, args, .. } =>
    (match evalO s f, evalAll (evalO s) args.toList with
    | some (.func (.func g) caps), some l => (match externO F g (l ++ caps) with | some v => some (v, h) | none => callF T F n g (l ++ caps) h)
    | some (.func (.yield l) _), some as => roundF T F n l as h
    | _, _ => none)
  | op => opA T (evalO s) op h

theorem evalOs_cons {n : Nat} {ops : List Oper} {i : Nat} {is : List Nat} {s : List AV} {h : Heap} {o : Oper} (ho : ops[i]? = some o) :
    evalOs T F (n + 1) ops (i :: is) s h = if wantedA o ops s then (match runO T F n o.op s h with | some (v, h') => evalOs T F n ops is (putA s o.dst v) h' | none => none) else evalOs T F n ops is (putA s o.dst undefA) h := by
  rw [evalOs, ho]
  rfl

theorem WK.run {op : Op} {s : List AV} {h : Heap} {k : AV → Heap → Prop} (w : WK T F op s h k) : ∃ n v h', runO T F n op s h = some (v, h') ∧ k v h' := by
  unfold WK at w
  unfold runO
  split at w
  · rename_i f args
    split at w
    · rename_i g caps l h1 h2
      split at w
      · rename_i v hv
        exact ⟨0, v, h, rfl, w⟩
      · rename_i hv
        obtain ⟨n, v, h', e, q⟩ := w
        exact ⟨n, v, h', e, q⟩
    · rename_i l as h1 h2
      obtain ⟨n, v, h', e, q⟩ := w
      exact ⟨n, v, h', e, q⟩
    · exact w.elim
  · rename_i hn
    unfold OB at w
    split at w
    · rename_i v h' e
      exact ⟨0, v, h', by simpa using e, w⟩
    · exact w.elim

theorem runO_le {n m : Nat} (hnm : n ≤ m) {op : Op} {s : List AV} {h : Heap} {r} (e : runO T F n op s h = some r) : runO T F m op s h = some r := by
  unfold runO at e ⊢
  split at e
  · split at e
    · rename_i g caps l h1 h2
      split at e
      · rename_i v hv
        exact e
      · rename_i hv
        exact callF_le hnm e
    · rename_i l as h1 h2
      exact roundF_le hnm e
    · simp at e
  · exact e

theorem WL.run {all : List Oper} : ∀ {l : List Oper} {s : List AV} {h : Heap} {Q : List AV → Heap → Prop} (_ : WL T F all l s h Q) (k : Nat) (_ : all.drop k = l), ∃ n s' h', evalOs T F n all (List.range' k l.length) s h = some (s', h') ∧ Q s' h'
  | [], s, h, Q, w, k, hd => ⟨1, s, h, by simp [evalOs], w⟩
  | o :: l, s, h, Q, w, k, hd => by
    have hk : all[k]? = some o := by
      have := congrArg (fun x => x[0]?) hd
      simpa using this
    have hd' : all.drop (k + 1) = l := by
      have := congrArg (List.drop 1) hd
      simpa [List.drop_drop, Nat.add_comm] using this
    unfold WL at w
    cases hw : wantedA o all s with
    | true =>
      obtain ⟨n, v, h1, e1, q⟩ := (w.1 hw).run
      obtain ⟨m, s', h2, e2, q2⟩ := WL.run q (k + 1) hd'
      refine ⟨max n m + 1, s', h2, ?_, q2⟩
      simp only [List.length_cons, List.range'_succ]
      rw [evalOs_cons hk, hw, if_pos rfl, runO_le (Nat.le_max_left n m) e1]
      exact evalOs_le (Nat.le_max_right n m) e2
    | false =>
      obtain ⟨m, s', h2, e2, q2⟩ := WL.run (w.2 hw) (k + 1) hd'
      refine ⟨m + 1, s', h2, ?_, q2⟩
      simp only [List.length_cons, List.range'_succ]
      rw [evalOs_cons hk, hw, if_neg (by simp)]
      exact e2

/-- A region whose order is drawn. -/
def WD (T : TT) (F : Nat → Option Func) (all : List Oper) (bf : List Nat) (base : Nat) : List Oper → Nat → DSt → (DSt → Prop) → Prop
  | [], _, st, Q => Q st
  | o :: l, i, st, Q =>
    match dkind T o.op with
    | .eff => WL T F all [o] st.s (heapFor base st.nb (bf.getD i 0) st.msk st.h) fun s' h' => WD T F all bf base l (i + 1) { ss := st.ss ++ [st.s], s := s', hs := st.hs ++ [(st.msk, st.h)], msk := st.msk ||| bf.getD i 0, h := h', nb := st.nb } Q
    | .new =>
      (wantedA o all st.s = true → match allocA T (evalO st.s) o.op (base + i) with
        | some (v, b) => WD T F all bf base l (i + 1) { st with ss := st.ss ++ [st.s], s := putA st.s o.dst v, nb := st.nb ++ [(i, b)] } Q
        | none => False) ∧
      (wantedA o all st.s = false → WD T F all bf base l (i + 1) { st with ss := st.ss ++ [st.s], s := putA st.s o.dst undefA } Q)
    | .quiet =>
      (wantedA o all st.s = true → match opA T (evalO st.s) o.op (heapFor base st.nb (bf.getD i 0) st.msk st.h) with
        | some (v, _) => WD T F all bf base l (i + 1) { st with ss := st.ss ++ [st.s], s := putA st.s o.dst v } Q
        | none => False) ∧
      (wantedA o all st.s = false → WD T F all bf base l (i + 1) { st with ss := st.ss ++ [st.s], s := putA st.s o.dst undefA } Q)
    | .no => False

theorem WL.run1 {all : List Oper} {o : Oper} {k : Nat} (hk : all[k]? = some o) {s : List AV} {h : Heap} {Q : List AV → Heap → Prop} (w : WL T F all [o] s h Q) : ∃ n s' h', evalOs T F n all [k] s h = some (s', h') ∧ Q s' h' := by
  simp only [WL] at w
  cases hw : wantedA o all s with
  | true =>
    obtain ⟨n, v, h1, e1, q⟩ := (w.1 hw).run
    refine ⟨n + 2, _, h1, ?_, q⟩
    rw [evalOs_cons hk, hw, if_pos rfl, runO_le (Nat.le_succ n) e1]
    simp only [evalOs]
  | false =>
    refine ⟨2, _, h, ?_, w.2 hw⟩
    rw [evalOs_cons hk, hw, if_neg (by simp)]
    simp only [evalOs]

theorem WD.run {all : List Oper} {bf : List Nat} {base : Nat} : ∀ {l : List Oper} {k : Nat} {st : DSt} {Q : DSt → Prop} (_ : WD T F all bf base l k st Q) (_ : all.drop k = l), ∃ n st', evalDs T F n all bf base (List.range' k l.length) st = some st' ∧ Q st'
  | [], k, st, Q, w, hd => ⟨1, st, by simp [evalDs], w⟩
  | o :: l, k, st, Q, w, hd => by
    have hk : all[k]? = some o := by
      have := congrArg (fun x => x[0]?) hd
      simpa using this
    have hd' : all.drop (k + 1) = l := by
      have := congrArg (List.drop 1) hd
      simpa [List.drop_drop, Nat.add_comm] using this
    unfold WD at w
    split at w
    · rename_i hkd
      obtain ⟨n, s', h', e1, q⟩ := w.run1 hk
      obtain ⟨m, st', e2, q2⟩ := WD.run q hd'
      refine ⟨max n m + 1, st', ?_, q2⟩
      simp only [List.length_cons, List.range'_succ]
      simp only [evalDs, hk, hkd]
      rw [evalOs_le (Nat.le_max_left n m) e1]
      exact evalDs_le (Nat.le_max_right n m) e2
    · rename_i hkd
      cases hw : wantedA o all st.s with
      | true =>
        have w1 := w.1 hw
        split at w1
        · rename_i v b hv
          obtain ⟨m, st', e2, q2⟩ := WD.run w1 hd'
          refine ⟨m + 1, st', ?_, q2⟩
          simp only [List.length_cons, List.range'_succ]
          simp only [evalDs, hk, hkd, hw, if_true, hv]
          exact e2
        · exact w1.elim
      | false =>
        obtain ⟨m, st', e2, q2⟩ := WD.run (w.2 hw) hd'
        refine ⟨m + 1, st', ?_, q2⟩
        simp only [List.length_cons, List.range'_succ]
        simp only [evalDs, hk, hkd, hw, if_false, Bool.false_eq_true]
        exact e2
    · rename_i hkd
      cases hw : wantedA o all st.s with
      | true =>
        have w1 := w.1 hw
        split at w1
        · rename_i v b hv
          obtain ⟨m, st', e2, q2⟩ := WD.run w1 hd'
          refine ⟨m + 1, st', ?_, q2⟩
          simp only [List.length_cons, List.range'_succ]
          simp only [evalDs, hk, hkd, hw, if_true, hv]
          exact e2
        · exact w1.elim
      | false =>
        obtain ⟨m, st', e2, q2⟩ := WD.run (w.2 hw) hd'
        refine ⟨m + 1, st', ?_, q2⟩
        simp only [List.length_cons, List.range'_succ]
        simp only [evalDs, hk, hkd, hw, if_false, Bool.false_eq_true]
        exact e2
    · exact w.elim

def seqK (k : Frm → Prop) (Q : AE → Frm → Prop) : AE → Frm → Prop
  | .normal, f => k f
  | .exit i, f => Q (.exit i) f
  | .ret, f => Q .ret f

def blockK (id : Nat) (Q : AE → Frm → Prop) : AE → Frm → Prop
  | .exit i, f => if i = id then Q .normal f else Q (.exit i) f
  | .normal, f => Q .normal f
  | .ret, f => Q .ret f

/-- Code, but loops. -/
def WP (T : TT) (F : Nat → Option Func) (fn : Nat) (ro : Option Nat) : Code → Frm → (AE → Frm → Prop) → Prop
  | .skip, f, Q => Q .normal f
  | .label _, f, Q => Q .normal f
  | .seq a b, f, Q => WP T F fn ro a f (seqK (fun f1 => WP T F fn ro b f1 Q) Q)
  | .cond c a b, f, Q => (match evalO f.s c with
    | some (.bool x) => (x = true → WP T F fn ro a f Q) ∧ (x = false → WP T F fn ro b f Q)
    | _ => False)
  | .block id c, f, Q => WP T F fn ro c f (blockK id Q)
  | .scope c, f, Q => WP T F fn ro c f Q
  | .exit id, f, Q => Q (.exit id) f
  | .ret, f, Q => Q .ret f
  | .region _ ops draw, f, Q =>
    if draw then drawOk T ops = true ∧ WD T F ops.toList (befores ops.toList []) f.h.nxt ops.toList 0 ⟨[], f.s, [], 0, ⟨f.h.nxt + ops.size, f.h.l⟩, []⟩ fun st =>
      drawChk T ops.toList f.h.nxt st = true ∧ Q .normal ⟨st.s, f.ms, putsA f.h.nxt (st.nb.filter fun p => !st.msk.testBit p.1) st.h⟩
    else WL T F ops.toList ops.toList f.s f.h fun s h => Q .normal ⟨s, f.ms, h⟩
  | .loop c, f, Q => WC T F fn ro (.loop c) f Q
  | .rangeFunc g ps a b, f, Q => WC T F fn ro (.rangeFunc g ps a b) f Q
  | _, _, _ => False

theorem WC.seq {fn ro a b f} {Q : AE → Frm → Prop} (w : WC T F fn ro a f (seqK (fun f1 => WC T F fn ro b f1 Q) Q)) : WC T F fn ro (.seq a b) f Q := by
  obtain ⟨n, e, f1, h1, q⟩ := w
  cases e with
  | normal =>
    obtain ⟨m, e2, f2, h2, q2⟩ := q
    refine ⟨max n m + 1, e2, f2, ?_, q2⟩
    rw [evalC, evalC_le (Nat.le_max_left n m) h1]
    exact evalC_le (Nat.le_max_right n m) h2
  | exit i => exact ⟨n + 1, .exit i, f1, by rw [evalC, h1], q⟩
  | ret => exact ⟨n + 1, .ret, f1, by rw [evalC, h1], q⟩

theorem WC.loop {fn ro a f} {Q : AE → Frm → Prop} (w : WC T F fn ro a f (seqK (fun f1 => WC T F fn ro (.loop a) f1 Q) Q)) : WC T F fn ro (.loop a) f Q := by
  obtain ⟨n, e, f1, h1, q⟩ := w
  cases e with
  | normal =>
    obtain ⟨m, e2, f2, h2, q2⟩ := q
    refine ⟨max n m + 1, e2, f2, ?_, q2⟩
    rw [evalC, evalC_le (Nat.le_max_left n m) h1]
    exact evalC_le (Nat.le_max_right n m) h2
  | exit i => exact ⟨n + 1, .exit i, f1, by rw [evalC, h1], q⟩
  | ret => exact ⟨n + 1, .ret, f1, by rw [evalC, h1], q⟩

theorem WP.run {fn : Nat} {ro : Option Nat} : ∀ {c : Code} {f : Frm} {Q : AE → Frm → Prop}, WP T F fn ro c f Q → WC T F fn ro c f Q
  | .skip, f, Q, w => ⟨1, .normal, f, by rw [evalC], w⟩
  | .label _, f, Q, w => ⟨1, .normal, f, by rw [evalC], w⟩
  | .seq a b, f, Q, w => WC.seq ((WP.run (c := a) w).mono fun e f1 q => by
      cases e with
      | normal => exact WP.run (c := b) q
      | exit i => exact q
      | ret => exact q)
  | .cond c a b, f, Q, w => by
    simp only [WP] at w
    split at w
    · rename_i x hx
      cases x with
      | true =>
        obtain ⟨n, e, f1, h1, q⟩ := WP.run (c := a) (w.1 rfl)
        exact ⟨n + 1, e, f1, by rw [evalC, hx]; exact h1, q⟩
      | false =>
        obtain ⟨n, e, f1, h1, q⟩ := WP.run (c := b) (w.2 rfl)
        exact ⟨n + 1, e, f1, by rw [evalC, hx]; exact h1, q⟩
    · exact w.elim
  | .block id c, f, Q, w => by
    obtain ⟨n, e, f1, h1, q⟩ := WP.run (c := c) (Q := blockK id Q) w
    cases e with
    | normal => exact ⟨n + 1, .normal, f1, by rw [evalC, h1], q⟩
    | ret => exact ⟨n + 1, .ret, f1, by rw [evalC, h1], q⟩
    | exit i =>
      simp only [blockK] at q
      by_cases hi : i = id
      · rw [if_pos hi] at q; exact ⟨n + 1, .normal, f1, by rw [evalC, h1]; simp only [hi, if_true], q⟩
      · rw [if_neg hi] at q; exact ⟨n + 1, .exit i, f1, by rw [evalC, h1]; simp only [hi, if_false], q⟩
  | .scope c, f, Q, w => by
    obtain ⟨n, e, f1, h1, q⟩ := WP.run (c := c) (Q := Q) w
    exact ⟨n + 1, e, f1, by rw [evalC, h1], q⟩
  | .exit id, f, Q, w => ⟨1, .exit id, f, by rw [evalC], w⟩
  | .ret, f, Q, w => ⟨1, .ret, f, by rw [evalC], w⟩
  | .loop c, f, Q, w => w
  | .rangeFunc g ps a b, f, Q, w => w
  | .region i ops draw, f, Q, w => by
    simp only [WP] at w
    cases draw with
    | false =>
      simp only [Bool.false_eq_true, if_false] at w
      obtain ⟨n, s', h', e, q⟩ := w.run 0 rfl
      refine ⟨n + 1, .normal, _, ?_, q⟩
      rw [evalC]
      simp only [Bool.false_eq_true, if_false]
      rw [List.range_eq_range']
      simp only [Array.length_toList] at e
      rw [e]
    | true =>
      simp only [if_true] at w
      obtain ⟨n, st, e, h1, q⟩ := w.2.run rfl
      refine ⟨n + 1, .normal, _, ?_, q⟩
      rw [evalC]
      simp only [if_true, w.1]
      rw [List.range_eq_range']
      simp only [Array.length_toList] at e
      rw [e]
      simp only [h1, if_true]
  | .goto _, _, _, w => w.elim
  | .refuse _, _, _, w => w.elim

/-- What a function tells, behind its code. -/
def callK (T : TT) (res : List ResultVar) (Q : AV → Heap → Prop) : AE → Frm → Prop
  | .exit _, _ => False
  | _, f1 => match takeMarks f1.ms f1.h with
    | none => False
    | some h2 => match resultsA T h2 f1.s res with
      | some [v] => Q v h2
      | some l => Q (.tup l) h2
      | none => False

theorem WF.of {f : Nat} {args : List AV} {h : Heap} {Q : AV → Heap → Prop} {fn : Func} {c : Code} (hF : F f = some fn) (hb : fn.body = some c)
    (w : WP T F f none c ⟨args ++ List.replicate (fn.ntmps - args.length) undefA, [], h⟩ (callK T fn.results.toList Q)) : WF T F f args h Q := by
  obtain ⟨n, e, f1, h1, q⟩ := w.run
  have key : ∀ x : Option (AV × Heap), (match takeMarks f1.ms f1.h with
      | none => none
      | some h2 => match resultsA T h2 f1.s fn.results.toList with
        | some [v] => some (v, h2)
        | some l => some (.tup l, h2)
        | none => none) = x → (match takeMarks f1.ms f1.h with
      | none => False
      | some h2 => match resultsA T h2 f1.s fn.results.toList with
        | some [v] => Q v h2
        | some l => Q (.tup l) h2
        | none => False) → ∃ v h', x = some (v, h') ∧ Q v h' := by
    intro x hx q
    subst hx
    split at q
    · exact q.elim
    · rename_i h2 hm
      split at q
      · exact ⟨_, _, rfl, q⟩
      · exact ⟨_, _, rfl, q⟩
      · exact q.elim
  cases e with
  | exit i => exact q.elim
  | normal =>
    obtain ⟨v, h', e2, q2⟩ := key _ rfl q
    refine ⟨n + 1, v, h', ?_, q2⟩
    rw [callF, hF]
    simp only [hb, h1]
    exact e2
  | ret =>
    obtain ⟨v, h', e2, q2⟩ := key _ rfl q
    refine ⟨n + 1, v, h', ?_, q2⟩
    rw [callF, hF]
    simp only [hb, h1]
    exact e2

end Go.Am
