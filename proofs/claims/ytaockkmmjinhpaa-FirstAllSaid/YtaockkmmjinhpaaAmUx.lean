/-
  Weakest conditions over the abstract machine, on a heap of which less is known, and less may be written, than there is.
-/
import Derived.Test.YtaockkmmjinhpaaAmUp
namespace Go.Am
variable {T : TT} {F : Nat → Option Func}

def UF (T : TT) (F : Nat → Option Func) (f : Nat) (args : List AV) (h : Heap) (Q : AV → Heap → Prop) : Prop := ∀ g, Le h g → ∃ n v g', callF T F n f args g = some (v, g') ∧ ∃ h', Le h' g' ∧ Q v h'
def UR (T : TT) (F : Nat → Option Func) (l : Nat) (args : List AV) (h : Heap) (Q : AV → Heap → Prop) : Prop := ∀ g, Le h g → ∃ n v g', roundF T F n l args g = some (v, g') ∧ ∃ h', Le h' g' ∧ Q v h'
def UC (T : TT) (F : Nat → Option Func) (fn : Nat) (ro : Option Nat) (c : Code) (f : Frm) (Q : AE → Frm → Prop) : Prop :=
  ∀ g, Le f.h g → ∃ n e f1, evalC T F n fn ro c { f with h := g } = some (e, f1) ∧ ∃ h', Le h' f1.h ∧ Q e { f1 with h := h' }

theorem UF.mono {f args h} {Q Q' : AV → Heap → Prop} (w : UF T F f args h Q) (q : ∀ v h', Q v h' → Q' v h') : UF T F f args h Q' := by
  intro g R; obtain ⟨n, v, g', e, h', R', k⟩ := w g R; exact ⟨n, v, g', e, h', R', q _ _ k⟩
theorem UR.mono {f args h} {Q Q' : AV → Heap → Prop} (w : UR T F f args h Q) (q : ∀ v h', Q v h' → Q' v h') : UR T F f args h Q' := by
  intro g R; obtain ⟨n, v, g', e, h', R', k⟩ := w g R; exact ⟨n, v, g', e, h', R', q _ _ k⟩
theorem UC.mono {fn ro c f} {Q Q' : AE → Frm → Prop} (w : UC T F fn ro c f Q) (q : ∀ e f1, Q e f1 → Q' e f1) : UC T F fn ro c f Q' := by
  intro g R; obtain ⟨n, v, g', e, h', R', k⟩ := w g R; exact ⟨n, v, g', e, h', R', q _ _ k⟩

/-- Less is known. -/
theorem UF.less {f args h h0} {Q : AV → Heap → Prop} (l : Le h0 h) (w : UF T F f args h0 Q) : UF T F f args h Q := fun g R => w g (l.trans R)
theorem UR.less {f args h h0} {Q : AV → Heap → Prop} (l : Le h0 h) (w : UR T F f args h0 Q) : UR T F f args h Q := fun g R => w g (l.trans R)
theorem UC.less {fn ro c s ms h h0} {Q : AE → Frm → Prop} (l : Le h0 h) (w : UC T F fn ro c ⟨s, ms, h0⟩ Q) : UC T F fn ro c ⟨s, ms, h⟩ Q := fun g R => w g (l.trans R)
/-- Less is known behind it. -/
theorem UF.lessQ {f args h} {Q : AV → Heap → Prop} (w : UF T F f args h fun v h' => ∃ h0, Le h0 h' ∧ Q v h0) : UF T F f args h Q := by
  intro g R; obtain ⟨n, v, g', e, h', R', h0, R0, k⟩ := w g R; exact ⟨n, v, g', e, h0, R0.trans R', k⟩
theorem UC.lessQ {fn ro c f} {Q : AE → Frm → Prop} (w : UC T F fn ro c f fun e f1 => ∃ h0, Le h0 f1.h ∧ Q e { f1 with h := h0 }) : UC T F fn ro c f Q := by
  intro g R; obtain ⟨n, v, g', e, h', R', h0, R0, k⟩ := w g R; exact ⟨n, v, g', e, h0, R0.trans R', k⟩

/-- A run on a heap is one where less is known. -/
theorem UF.ofW {f args h} {Q : AV → Heap → Prop} (w : WF T F f args h Q) : UF T F f args h Q := by
  intro g R
  obtain ⟨n, v, h', e, q⟩ := w
  obtain ⟨g', e', R'⟩ := (up n).f _ _ _ _ _ e g R
  exact ⟨n, v, g', e', h', R', q⟩
theorem UR.ofW {f args h} {Q : AV → Heap → Prop} (w : WR T F f args h Q) : UR T F f args h Q := by
  intro g R
  obtain ⟨n, v, h', e, q⟩ := w
  obtain ⟨g', e', R'⟩ := (up n).r _ _ _ _ _ e g R
  exact ⟨n, v, g', e', h', R', q⟩

/-- An operation, calls too. -/
def UK (T : TT) (F : Nat → Option Func) (op : Op) (s : List AV) (h : Heap) (k : AV → Heap → Prop) : Prop :=
  match op with
  | .call { callee := .value f, args, .. } =>
    (match evalO s f, evalAll (evalO s) args.toList with
     | some (.func (.func g) caps), some l => (match externO F g (l ++ caps) with | some v => k v h | none => UF T F g (l ++ caps) h k)
     | some (.func (.yield l) _), some as => UR T F l as h k
     | _, _ => False)
  | op => OB (opA T (evalO s) op h) k

/-- Operations, one behind the other. -/
def UL (T : TT) (F : Nat → Option Func) (all : List Oper) : List Oper → List AV → Heap → (List AV → Heap → Prop) → Prop
  | [], s, h, Q => Q s h
  | o :: l, s, h, Q => (wantedA o all s = true → UK T F o.op s h fun v h' => UL T F all l (putA s o.dst v) h' Q) ∧ (wantedA o all s = false → UL T F all l (putA s o.dst undefA) h Q)

theorem UK.run {op : Op} {s : List AV} {h g : Heap} {k : AV → Heap → Prop} (w : UK T F op s h k) (R : Le h g) : ∃ n v g', runO T F n op s g = some (v, g') ∧ ∃ h', Le h' g' ∧ k v h' := by
  unfold UK at w
  unfold runO
  split at w
  · rename_i f args ts
    split at w
    · rename_i g2 caps l h1 h2
      split at w
      · rename_i v hv
        exact ⟨0, v, g, by simp only [h1, h2, hv], h, R, w⟩
      · rename_i hv
        simp only [h1, h2, hv]
        exact w g R
    · rename_i l _ as h1 h2
      simp only [h1, h2]
      exact w g R
    · exact w.elim
  · rename_i hn
    unfold OB at w
    split at w
    · rename_i v h' e
      obtain ⟨g', e', R'⟩ := opA_le R e
      exact ⟨0, v, g', by simpa using e', h', R', w⟩
    · exact w.elim

theorem UL.run {all : List Oper} : ∀ {l : List Oper} {s : List AV} {h g : Heap} {Q : List AV → Heap → Prop} (_ : UL T F all l s h Q) (_ : Le h g) (k : Nat) (_ : all.drop k = l), ∃ n s' g', evalOs T F n all (List.range' k l.length) s g = some (s', g') ∧ ∃ h', Le h' g' ∧ Q s' h'
  | [], s, h, g, Q, w, R, k, hd => ⟨1, s, g, by simp [evalOs], h, R, w⟩
  | o :: l, s, h, g, Q, w, R, k, hd => by
    have hk : all[k]? = some o := by
      have := congrArg (fun x => x[0]?) hd
      simpa using this
    have hd' : all.drop (k + 1) = l := by
      have := congrArg (List.drop 1) hd
      simpa [List.drop_drop, Nat.add_comm] using this
    unfold UL at w
    cases hw : wantedA o all s with
    | true =>
      obtain ⟨n, v, g1, e1, h1, R1, q⟩ := (w.1 hw).run R
      obtain ⟨m, s', g2, e2, q2⟩ := UL.run q R1 (k + 1) hd'
      refine ⟨max n m + 1, s', g2, ?_, q2⟩
      simp only [List.length_cons, List.range'_succ]
      rw [evalOs_cons hk, hw, if_pos rfl, runO_le (Nat.le_max_left n m) e1]
      exact evalOs_le (Nat.le_max_right n m) e2
    | false =>
      obtain ⟨m, s', g2, e2, q2⟩ := UL.run (w.2 hw) R (k + 1) hd'
      refine ⟨m + 1, s', g2, ?_, q2⟩
      simp only [List.length_cons, List.range'_succ]
      rw [evalOs_cons hk, hw, if_neg (by simp)]
      exact e2

/-- A region whose order is drawn. -/
def UD (T : TT) (F : Nat → Option Func) (all : List Oper) (bf : List Nat) (base : Nat) : List Oper → Nat → DSt → (DSt → Prop) → Prop
  | [], _, st, Q => Q st
  | o :: l, i, st, Q =>
    match dkind T o.op with
    | .eff => UL T F all [o] st.s (heapFor base st.nb (bf.getD i 0) st.msk st.h) fun s' h' => UD T F all bf base l (i + 1) { ss := st.ss ++ [st.s], s := s', hs := st.hs ++ [(st.msk, st.h)], msk := st.msk ||| bf.getD i 0, h := h', nb := st.nb } Q
    | .new =>
      (wantedA o all st.s = true → match allocA T (evalO st.s) o.op (base + i) with
        | some (v, b) => UD T F all bf base l (i + 1) { st with ss := st.ss ++ [st.s], s := putA st.s o.dst v, nb := st.nb ++ [(i, b)] } Q
        | none => False) ∧
      (wantedA o all st.s = false → UD T F all bf base l (i + 1) { st with ss := st.ss ++ [st.s], s := putA st.s o.dst undefA } Q)
    | .quiet =>
      (wantedA o all st.s = true → match opA T (evalO st.s) o.op (heapFor base st.nb (bf.getD i 0) st.msk st.h) with
        | some (v, _) => UD T F all bf base l (i + 1) { st with ss := st.ss ++ [st.s], s := putA st.s o.dst v } Q
        | none => False) ∧
      (wantedA o all st.s = false → UD T F all bf base l (i + 1) { st with ss := st.ss ++ [st.s], s := putA st.s o.dst undefA } Q)
    | .no => False

theorem UL.run1 {all : List Oper} {o : Oper} {k : Nat} (hk : all[k]? = some o) {s : List AV} {h g : Heap} {Q : List AV → Heap → Prop} (w : UL T F all [o] s h Q) (R : Le h g) : ∃ n s' g', evalOs T F n all [k] s g = some (s', g') ∧ ∃ h', Le h' g' ∧ Q s' h' := by
  simp only [UL] at w
  cases hw : wantedA o all s with
  | true =>
    obtain ⟨n, v, g1, e1, q⟩ := (w.1 hw).run R
    refine ⟨n + 2, _, g1, ?_, q⟩
    rw [evalOs_cons hk, hw, if_pos rfl, runO_le (Nat.le_succ n) e1]
    simp only [evalOs]
  | false =>
    refine ⟨2, _, g, ?_, h, R, w.2 hw⟩
    rw [evalOs_cons hk, hw, if_neg (by simp)]
    simp only [evalOs]

theorem UD.run {all : List Oper} {bf : List Nat} {base : Nat} : ∀ {l : List Oper} {k : Nat} {st t : DSt} {Q : DSt → Prop} (_ : UD T F all bf base l k st Q) (_ : LeD st t) (_ : all.drop k = l), ∃ n t', evalDs T F n all bf base (List.range' k l.length) t = some t' ∧ ∃ st', LeD st' t' ∧ Q st'
  | [], k, st, t, Q, w, D, hd => ⟨1, t, by simp [evalDs], st, D, w⟩
  | o :: l, k, st, t, Q, w, D, hd => by
    have hk : all[k]? = some o := by
      have := congrArg (fun x => x[0]?) hd
      simpa using this
    have hd' : all.drop (k + 1) = l := by
      have := congrArg (List.drop 1) hd
      simpa [List.drop_drop, Nat.add_comm] using this
    unfold UD at w
    split at w
    · rename_i hkd
      obtain ⟨n, s', g', e1, h', R', q⟩ := w.run1 hk (heapFor_le D.h)
      obtain ⟨m, st', e2, q2⟩ := UD.run (t := { ss := t.ss ++ [t.s], s := s', hs := t.hs ++ [(t.msk, t.h)], msk := t.msk ||| bf.getD k 0, h := g', nb := t.nb }) q
        ⟨by simp only [D.ss, D.s], rfl, by simp only [D.msk]; exact D.hs.push D.h, by simp only [D.msk], R', D.nb⟩ hd'
      refine ⟨max n m + 1, st', ?_, q2⟩
      simp only [List.length_cons, List.range'_succ]
      simp only [evalDs, hk, hkd]
      rw [D.s, D.nb, D.msk, evalOs_le (Nat.le_max_left n m) e1]
      rw [D.s, D.nb, D.msk] at e2
      exact evalDs_le (Nat.le_max_right n m) e2
    · rename_i hkd
      cases hw : wantedA o all st.s with
      | true =>
        have w1 := w.1 hw
        split at w1
        · rename_i v b hv
          obtain ⟨m, st', e2, q2⟩ := UD.run (t := { t with ss := t.ss ++ [t.s], s := putA t.s o.dst v, nb := t.nb ++ [(k, b)] }) w1 ⟨by simp only [D.ss, D.s], by simp only [D.s], D.hs, D.msk, D.h, by simp only [D.nb]⟩ hd'
          refine ⟨m + 1, st', ?_, q2⟩
          simp only [List.length_cons, List.range'_succ]
          simp only [evalDs, hk, hkd, D.s, hw, if_true, hv]
          rw [D.s] at e2
          exact e2
        · exact w1.elim
      | false =>
        obtain ⟨m, st', e2, q2⟩ := UD.run (t := { t with ss := t.ss ++ [t.s], s := putA t.s o.dst undefA }) (w.2 hw) ⟨by simp only [D.ss, D.s], by simp only [D.s], D.hs, D.msk, D.h, D.nb⟩ hd'
        refine ⟨m + 1, st', ?_, q2⟩
        simp only [List.length_cons, List.range'_succ]
        simp only [evalDs, hk, hkd, D.s, hw, if_false, Bool.false_eq_true]
        rw [D.s] at e2
        exact e2
    · rename_i hkd
      cases hw : wantedA o all st.s with
      | true =>
        have w1 := w.1 hw
        split at w1
        · rename_i v b hv
          obtain ⟨g', e', _⟩ := opA_le (heapFor_le (base := base) (nb := st.nb) (b := bf.getD k 0) (msk := st.msk) D.h) hv
          obtain ⟨m, st', e2, q2⟩ := UD.run (t := { t with ss := t.ss ++ [t.s], s := putA t.s o.dst v }) w1 ⟨by simp only [D.ss, D.s], by simp only [D.s], D.hs, D.msk, D.h, D.nb⟩ hd'
          refine ⟨m + 1, st', ?_, q2⟩
          simp only [List.length_cons, List.range'_succ]
          simp only [evalDs, hk, hkd, D.s, hw, if_true, D.nb, D.msk, e']
          rw [D.s, D.nb, D.msk] at e2
          exact e2
        · exact w1.elim
      | false =>
        obtain ⟨m, st', e2, q2⟩ := UD.run (t := { t with ss := t.ss ++ [t.s], s := putA t.s o.dst undefA }) (w.2 hw) ⟨by simp only [D.ss, D.s], by simp only [D.s], D.hs, D.msk, D.h, D.nb⟩ hd'
        refine ⟨m + 1, st', ?_, q2⟩
        simp only [List.length_cons, List.range'_succ]
        simp only [evalDs, hk, hkd, D.s, hw, if_false, Bool.false_eq_true]
        rw [D.s] at e2
        exact e2
    · exact w.elim

/-- Code, but loops. -/
def UP (T : TT) (F : Nat → Option Func) (fn : Nat) (ro : Option Nat) : Code → Frm → (AE → Frm → Prop) → Prop
  | .skip, f, Q => Q .normal f
  | .label _, f, Q => Q .normal f
  | .seq a b, f, Q => UP T F fn ro a f (seqK (fun f1 => UP T F fn ro b f1 Q) Q)
  | .cond c a b, f, Q => (match evalO f.s c with
    | some (.bool x) => (x = true → UP T F fn ro a f Q) ∧ (x = false → UP T F fn ro b f Q)
    | _ => False)
  | .block id c, f, Q => UP T F fn ro c f (blockK id Q)
  | .scope c, f, Q => UP T F fn ro c f Q
  | .exit id, f, Q => Q (.exit id) f
  | .ret, f, Q => Q .ret f
  | .region _ ops draw, f, Q =>
    if draw then drawOk T ops = true ∧ UD T F ops.toList (befores ops.toList []) f.h.nxt ops.toList 0 ⟨[], f.s, [], 0, ⟨f.h.nxt + ops.size, f.h.l⟩, []⟩ fun st =>
      drawChk T ops.toList f.h.nxt st = true ∧ Q .normal ⟨st.s, f.ms, putsA f.h.nxt (st.nb.filter fun p => !st.msk.testBit p.1) st.h⟩
    else UL T F ops.toList ops.toList f.s f.h fun s h => Q .normal ⟨s, f.ms, h⟩
  | .loop c, f, Q => UC T F fn ro (.loop c) f Q
  | .rangeFunc g ps a b, f, Q => UC T F fn ro (.rangeFunc g ps a b) f Q
  | _, _, _ => False

theorem UC.seq {fn ro a b f} {Q : AE → Frm → Prop} (w : UC T F fn ro a f (seqK (fun f1 => UC T F fn ro b f1 Q) Q)) : UC T F fn ro (.seq a b) f Q := by
  intro g R
  obtain ⟨n, e, f1, h1, h', R', q⟩ := w g R
  cases e with
  | normal =>
    obtain ⟨m, e2, f2, h2, q2⟩ := q _ R'
    refine ⟨max n m + 1, e2, f2, ?_, q2⟩
    rw [evalC, evalC_le (Nat.le_max_left n m) h1]
    exact evalC_le (Nat.le_max_right n m) h2
  | exit i => exact ⟨n + 1, .exit i, f1, by rw [evalC, h1], h', R', q⟩
  | ret => exact ⟨n + 1, .ret, f1, by rw [evalC, h1], h', R', q⟩

theorem UC.loop {fn ro a f} {Q : AE → Frm → Prop} (w : UC T F fn ro a f (seqK (fun f1 => UC T F fn ro (.loop a) f1 Q) Q)) : UC T F fn ro (.loop a) f Q := by
  intro g R
  obtain ⟨n, e, f1, h1, h', R', q⟩ := w g R
  cases e with
  | normal =>
    obtain ⟨m, e2, f2, h2, q2⟩ := q _ R'
    refine ⟨max n m + 1, e2, f2, ?_, q2⟩
    rw [evalC, evalC_le (Nat.le_max_left n m) h1]
    exact evalC_le (Nat.le_max_right n m) h2
  | exit i => exact ⟨n + 1, .exit i, f1, by rw [evalC, h1], h', R', q⟩
  | ret => exact ⟨n + 1, .ret, f1, by rw [evalC, h1], h', R', q⟩

theorem UP.run {fn : Nat} {ro : Option Nat} : ∀ {c : Code} {f : Frm} {Q : AE → Frm → Prop}, UP T F fn ro c f Q → UC T F fn ro c f Q
  | .skip, f, Q, w => fun g R => ⟨1, .normal, { f with h := g }, by rw [evalC], f.h, R, w⟩
  | .label _, f, Q, w => fun g R => ⟨1, .normal, { f with h := g }, by rw [evalC], f.h, R, w⟩
  | .seq a b, f, Q, w => UC.seq ((UP.run (c := a) w).mono fun e f1 q => by
      cases e with
      | normal => exact UP.run (c := b) q
      | exit i => exact q
      | ret => exact q)
  | .cond c a b, f, Q, w => by
    simp only [UP] at w
    intro g R
    split at w
    · rename_i x hx
      cases x with
      | true =>
        obtain ⟨n, e, f1, h1, q⟩ := UP.run (c := a) (w.1 rfl) g R
        exact ⟨n + 1, e, f1, by rw [evalC]; simp only [hx]; exact h1, q⟩
      | false =>
        obtain ⟨n, e, f1, h1, q⟩ := UP.run (c := b) (w.2 rfl) g R
        exact ⟨n + 1, e, f1, by rw [evalC]; simp only [hx]; exact h1, q⟩
    · exact w.elim
  | .block id c, f, Q, w => by
    intro g R
    obtain ⟨n, e, f1, h1, h', R', q⟩ := UP.run (c := c) (Q := blockK id Q) w g R
    cases e with
    | normal => exact ⟨n + 1, .normal, f1, by rw [evalC, h1], h', R', q⟩
    | ret => exact ⟨n + 1, .ret, f1, by rw [evalC, h1], h', R', q⟩
    | exit i =>
      simp only [blockK] at q
      by_cases hi : i = id
      · rw [if_pos hi] at q; exact ⟨n + 1, .normal, f1, by rw [evalC, h1]; simp only [hi, if_true], h', R', q⟩
      · rw [if_neg hi] at q; exact ⟨n + 1, .exit i, f1, by rw [evalC, h1]; simp only [hi, if_false], h', R', q⟩
  | .scope c, f, Q, w => by
    intro g R
    obtain ⟨n, e, f1, h1, q⟩ := UP.run (c := c) (Q := Q) w g R
    exact ⟨n + 1, e, f1, by rw [evalC, h1], q⟩
  | .exit id, f, Q, w => fun g R => ⟨1, .exit id, { f with h := g }, by rw [evalC], f.h, R, w⟩
  | .ret, f, Q, w => fun g R => ⟨1, .ret, { f with h := g }, by rw [evalC], f.h, R, w⟩
  | .loop c, f, Q, w => w
  | .rangeFunc g ps a b, f, Q, w => w
  | .region i ops draw, f, Q, w => by
    simp only [UP] at w
    intro g R
    cases draw with
    | false =>
      simp only [Bool.false_eq_true, if_false] at w
      obtain ⟨n, s', g', e, h', R', q⟩ := w.run R 0 rfl
      refine ⟨n + 1, .normal, ⟨s', f.ms, g'⟩, ?_, h', R', q⟩
      rw [evalC]
      simp only [Bool.false_eq_true, if_false]
      rw [List.range_eq_range']
      simp only [Array.length_toList] at e
      rw [e]
    | true =>
      simp only [if_true] at w
      obtain ⟨n, t, e, st, D, h1, q⟩ := w.2.run (t := ⟨[], f.s, [], 0, ⟨g.nxt + ops.size, g.l⟩, []⟩) ⟨rfl, rfl, .nil, rfl, R.bump _, rfl⟩ rfl
      refine ⟨n + 1, .normal, ⟨t.s, f.ms, putsA f.h.nxt (t.nb.filter fun p => !t.msk.testBit p.1) t.h⟩, ?_, putsA f.h.nxt (st.nb.filter fun p => !st.msk.testBit p.1) st.h, ?_, ?_⟩
      · rw [evalC]
        simp only [if_true, w.1]
        rw [List.range_eq_range', R.nxt]
        simp only [Array.length_toList] at e
        rw [R.nxt] at e
        rw [e]
        simp only [drawChk_le D h1, if_true]
      · rw [D.nb, D.msk]; exact putsA_le _ D.h
      · rw [D.s]; exact q
  | .goto _, _, _, w => w.elim
  | .refuse _, _, _, w => w.elim

theorem UF.of {f : Nat} {args : List AV} {h : Heap} {Q : AV → Heap → Prop} {fn : Func} {c : Code} (hF : F f = some fn) (hb : fn.body = some c)
    (w : UP T F f none c ⟨args ++ List.replicate (fn.ntmps - args.length) undefA, [], h⟩ (callK T fn.results.toList Q)) : UF T F f args h Q := by
  intro g R
  obtain ⟨n, e, f1, h1, h', R', q⟩ := w.run g R
  have key : ∀ x : Option (AV × Heap), (match takeMarks f1.ms f1.h with
      | none => none
      | some h2 => match resultsA T h2 f1.s fn.results.toList with
        | some [v] => some (v, h2)
        | some l => some (.tup l, h2)
        | none => none) = x → (match takeMarks f1.ms h' with
      | none => False
      | some h2 => match resultsA T h2 f1.s fn.results.toList with
        | some [v] => Q v h2
        | some l => Q (.tup l) h2
        | none => False) → ∃ v g', x = some (v, g') ∧ ∃ h', Le h' g' ∧ Q v h' := by
    intro x hx q
    subst hx
    split at q
    · exact q.elim
    · rename_i h2 hm
      obtain ⟨g2, e2, R2⟩ := takeMarks_up R' hm
      rw [e2]
      simp only
      split at q
      · rename_i v hr
        rw [resultsA_up R2 hr]
        exact ⟨v, g2, rfl, h2, R2, q⟩
      · rename_i l hn hr
        rw [resultsA_up R2 hr]
        refine ⟨.tup l, g2, ?_, h2, R2, q⟩
        split
        · rename_i w hw
          simp only [Option.some.injEq] at hw
          exact absurd hw (hn _)
        · rename_i l' _ hl'
          simp only [Option.some.injEq] at hl'
          rw [hl']
        · rename_i hl'; cases hl'
      · exact q.elim
  cases e with
  | exit i => exact q.elim
  | normal =>
    obtain ⟨v, g', e2, q2⟩ := key _ rfl q
    refine ⟨n + 1, v, g', ?_, q2⟩
    rw [callF, hF]
    simp only [hb, h1]
    exact e2
  | ret =>
    obtain ⟨v, g', e2, q2⟩ := key _ rfl q
    refine ⟨n + 1, v, g', ?_, q2⟩
    rw [callF, hF]
    simp only [hb, h1]
    exact e2

end Go.Am
