/-
  The abstract machine: what is built, cut, read, appended, made: what these come to in the model.
-/
import Derived.Test.YtenpjkinpecnfaaAmD
namespace Go.Am
variable {P : Program} {T : TT} {w0 : Frz} {w : World} {μ : Mu} {h h' : Heap}

theorem eqGuard_plain (op : BinOp) (t : TypeId) (ox oy : Operand) (a b : Value) (h1 : ∀ x y, ¬ (a = .agg x ∧ b = .agg y)) (h2 : ¬ (a = .nilIface ∧ b = .nilIface)) : (eqGuard op t ox oy a b).run P w = .ok () w := by
  unfold eqGuard
  cases a <;> cases b <;> first
    | exact absurd ⟨rfl, rfl⟩ h2
    | exact absurd ⟨rfl, rfl⟩ (h1 _ _)
    | (cases op <;> rfl)

theorem VR.not_agg {a : AV} {v : Value} (k : VR μ a v) (ha : ∀ cs, a ≠ .agg cs) : ∀ ds, v ≠ .agg ds := by
  intro ds e; subst e
  cases a with
  | agg cs => exact ha cs rfl
  | tup _ => simp [VR] at k
  | ptr p => cases p with
    | none => simp [VR] at k
    | some p => obtain ⟨b, o⟩ := p; simp [VR] at k
  | slc p n c sz => cases p with
    | none => simp [VR] at k
    | some p => obtain ⟨b, o⟩ := p; simp [VR] at k
  | map r => cases r <;> simp [VR] at k
  | func f caps => cases f <;> simp [VR] at k
  | iface t x => simp [VR] at k
  | int k' n => simp [VR] at k
  | bool b => simp [VR] at k
  | str s => simp [VR] at k
  | nilFn => simp [VR] at k
  | nilIface => simp [VR] at k

theorem eqv_none {d t : Nat} {x y : AV} {b : Bool} (e : eqv T d t x y = some b) : x ≠ .nilIface := by
  rintro rfl
  cases d with
  | zero => simp [eqv] at e
  | succ d =>
    unfold eqv at e
    split at e
    · simp at e
    · split at e <;> simp_all

theorem eqv_agg {d t : Nat} {xs ys : List AV} {b : Bool} (e : eqv T d t (.agg xs) (.agg ys) = some b) : ∃ ti, T t = some ti ∧ ti.eqOk = true := by
  cases d with
  | zero => simp [eqv] at e
  | succ d =>
    unfold eqv at e
    split at e
    · simp at e
    · rename_i ti ht
      split at e <;> simp_all

theorem eqv_agg' {d t : Nat} {x y : AV} {b : Bool} (e : eqv T d t x y = some b) : (∃ xs ys, x = .agg xs ∧ y = .agg ys) ∨ ((∀ xs, x ≠ .agg xs) ∧ (∀ ys, y ≠ .agg ys)) := by
  cases d with
  | zero => simp [eqv] at e
  | succ d =>
    unfold eqv at e
    split at e
    · simp at e
    · split at e <;> first
        | (simp at e; done)
        | (left; exact ⟨_, _, rfl, rfl⟩)
        | (right; constructor <;> intro z hz <;> cases hz; done)
        | (right; refine ⟨fun z hz => by cases hz, fun z hz => ?_⟩; subst hz; simp at e)

theorem eql_binOp (t : TypeId) {x y : AV} {vx vy : Value} (hx : VR μ x vx) (hy : VR μ y vy) (hni : ∀ k a k' b, ¬ (x = .int k a ∧ y = .int k' b)) (hns : ∀ a b, ¬ (x = .str a ∧ y = .str b))
    {d : Nat} {b : Bool} (e : eqv T d t x y = some b) : ∀ w, (binOp .eql t vx vy).run P w = ((Op.equal t vx vy).run P w).andThen (fun r w' => .ok (.bool r) w') ∧ (binOp .neq t vx vy).run P w = ((Op.equal t vx vy).run P w).andThen (fun r w' => .ok (.bool (!r)) w') := by
  intro w
  cases d with
  | zero => simp [eqv] at e
  | succ d =>
    unfold eqv at e
    split at e
    · simp at e
    · split at e <;> first
        | (simp at e; done)
        | exact absurd ⟨rfl, rfl⟩ (hni _ _ _ _)
        | exact absurd ⟨rfl, rfl⟩ (hns _ _)
        | skip
      · simp only [VR] at hx hy; subst hx hy; simp [binOp]
      · rename_i bb _
        simp only [VR] at hx; subst hx
        cases bb with
        | none => simp only [VR] at hy; subst hy; simp [binOp]
        | some p => obtain ⟨b1, o1⟩ := p; simp only [VR] at hy; obtain ⟨L, _, rfl⟩ := hy; simp [binOp]
      · rename_i p _
        obtain ⟨b1, o1⟩ := p
        simp only [VR] at hx hy; obtain ⟨L, _, rfl⟩ := hx; subst hy; simp [binOp]
      · rename_i p n2 c2 z2 _
        simp only [VR] at hx; obtain ⟨c3, _, _, rfl⟩ := hx
        cases p with
        | none => simp only [VR] at hy; obtain ⟨c4, _, _, rfl⟩ := hy; simp [binOp]
        | some p => obtain ⟨b1, o1⟩ := p; simp only [VR] at hy; obtain ⟨L, _, _, _, rfl, _⟩ := hy; simp [binOp]
      · rename_i p n1 c1 z1 n2 c2 z2 _
        obtain ⟨b1, o1⟩ := p
        simp only [VR] at hx hy; obtain ⟨L, _, _, _, rfl, _⟩ := hx; obtain ⟨c4, _, _, rfl⟩ := hy; simp [binOp]
      · rename_i p _
        simp only [VR] at hx; subst hx
        cases p with
        | none => simp only [VR] at hy; subst hy; simp [binOp]
        | some p => simp only [VR] at hy; obtain ⟨L, _, rfl⟩ := hy; simp [binOp]
      · simp only [VR] at hx hy; obtain ⟨L, _, rfl⟩ := hx; subst hy; simp [binOp]
      · simp only [VR] at hx hy; subst hx hy; simp [binOp]
      · rename_i f1 caps _
        simp only [VR] at hx; subst hx
        cases f1 with
        | func f => simp only [VR] at hy; obtain ⟨_, _, rfl⟩ := hy; simp [binOp]
        | yield l => simp only [VR] at hy; obtain ⟨_, _, _, rfl⟩ := hy; simp [binOp]
        | method _ => simp [VR] at hy
        | methodOf _ _ => simp [VR] at hy
        | via _ _ _ _ => simp [VR] at hy
      · rename_i f1 caps _
        simp only [VR] at hy; subst hy
        cases f1 with
        | func f => simp only [VR] at hx; obtain ⟨_, _, rfl⟩ := hx; simp [binOp]
        | yield l => simp only [VR] at hx; obtain ⟨_, _, _, rfl⟩ := hx; simp [binOp]
        | method _ => simp [VR] at hx
        | methodOf _ _ => simp [VR] at hx
        | via _ _ _ _ => simp [VR] at hx
      · simp only [VR] at hx hy; obtain ⟨vxs, hx, rfl⟩ := hx; obtain ⟨vys, hy, rfl⟩ := hy
        simp [binOp]

theorem binOp_run (hT : TypesOk P T) {op : BinOp} {t : Nat} {x y a : AV} {vx vy : Value} (e : binOpA T op t x y = some a) (hx : VR μ x vx) (hy : VR μ y vy) (ox oy : Operand) :
    (∀ w, (do eqGuard op t ox oy vx vy; binOp op t vx vy : Sem Value).run P w = .ok (scal a) w) ∧ ∀ ν, VR ν a (scal a) := by
  unfold binOpA at e
  split at e
  · rename_i k a1 k' b1
    simp only [VR] at hx hy; subst hx hy
    have hg : ∀ w, (eqGuard op t ox oy (.int k a1) (.int k' b1)).run P w = .ok () w := fun w => eqGuard_plain op t ox oy _ _ (by simp) (by simp)
    split at e
    · rename_i hs
      obtain ⟨r1, r2⟩ := shiftOp_run (P := P) (k' := k') e hs t
      exact ⟨fun w => by simp only [Sem.run_bind, hg, Result.andThen_ok, r1], r2⟩
    · split at e
      · rename_i hk; subst hk
        obtain ⟨r1, r2⟩ := intOp_run (P := P) e t
        exact ⟨fun w => by simp only [Sem.run_bind, hg, Result.andThen_ok, r1], r2⟩
      · simp at e
  · rename_i a1 b1
    simp only [VR] at hx hy; subst hx hy
    have hg : ∀ w, (eqGuard op t ox oy (.string ⟨a1.toArray⟩) (.string ⟨b1.toArray⟩)).run P w = .ok () w := fun w => eqGuard_plain op t ox oy _ _ (by simp) (by simp)
    obtain ⟨r1, r2⟩ := strOp_run (P := P) e t
    exact ⟨fun w => by simp only [Sem.run_bind, hg, Result.andThen_ok, r1], r2⟩
  · rename_i hni hns
    have hni' : ∀ k a k' b, ¬ (x = .int k a ∧ y = .int k' b) := fun k a k' b ⟨e1, e2⟩ => hni k a k' b e1 e2
    have hns' : ∀ a b, ¬ (x = .str a ∧ y = .str b) := fun a b ⟨e1, e2⟩ => hns a b e1 e2
    have hguard : ∀ d b, eqv T d t x y = some b → ∀ w, (eqGuard op t ox oy vx vy).run P w = .ok () w := fun d b hq w => by
      rcases eqv_agg' hq with ⟨xs, ys, rfl, rfl⟩ | ⟨n1, n2⟩
      · obtain ⟨ti, ht, hok⟩ := eqv_agg hq
        simp only [VR] at hx hy; obtain ⟨vxs, hx, rfl⟩ := hx; obtain ⟨vys, hy, rfl⟩ := hy
        exact run_eqGuard_agg w op t ox oy vxs vys ((hT _ _ ht).eq hok).1
      · refine eqGuard_plain op t ox oy _ _ (fun p q ⟨e1, e2⟩ => hx.not_agg n1 p e1) (fun ⟨e1, e2⟩ => ?_)
        subst e1
        have := eqv_none hq
        cases x with
        | nilIface => exact this rfl
        | agg cs => exact n1 cs rfl
        | tup _ => simp [VR] at hx
        | ptr p => cases p with
          | none => simp [VR] at hx
          | some p => obtain ⟨b, o⟩ := p; simp [VR] at hx
        | slc p n c sz => cases p with
          | none => simp [VR] at hx
          | some p => obtain ⟨b, o⟩ := p; simp [VR] at hx
        | map r => cases r <;> simp [VR] at hx
        | func f caps => cases f <;> simp [VR] at hx
        | iface t x => simp [VR] at hx
        | int k' n => simp [VR] at hx
        | bool b => simp [VR] at hx
        | str s => simp [VR] at hx
        | nilFn => simp [VR] at hx
    split at e
    · split at e
      · rename_i b hq
        simp only [Option.some.injEq] at e; subst e
        have := eqv_run hT (10000 - 20) eqDepth t x y b vx vy hq hx hy
        refine ⟨fun w => ?_, fun ν => by simp [VR, scal]⟩
        simp only [Sem.run_bind, hguard _ _ hq, Result.andThen_ok, (eql_binOp t hx hy hni' hns' hq w).1]
        have h2 : (Op.equal t vx vy).run P w = .ok b w := this w
        rw [h2]; rfl
      · simp at e
    · split at e
      · rename_i b hq
        simp only [Option.some.injEq] at e; subst e
        have := eqv_run hT (10000 - 20) eqDepth t x y b vx vy hq hx hy
        refine ⟨fun w => ?_, fun ν => by simp [VR, scal]⟩
        simp only [Sem.run_bind, hguard _ _ hq, Result.andThen_ok, (eql_binOp t hx hy hni' hns' hq w).2]
        have h2 : (Op.equal t vx vy).run P w = .ok b w := this w
        rw [h2]; rfl
      · simp at e
    · simp at e

theorem unOp_run {op : UnOp} {x a : AV} {vx : Value} (e : unOpA op x = some a) (hx : VR μ x vx) : (∀ w, (Op.unary op vx).run P w = .ok (scal a) w) ∧ ∀ ν, VR ν a (scal a) := by
  unfold unOpA at e
  split at e
  · simp only [Option.some.injEq] at e; subst e; simp only [VR] at hx; subst hx; exact ⟨fun w => by simp [Op.unary, Op.intArith, scal], fun ν => by simp [VR, scal]⟩
  · simp only [Option.some.injEq] at e; subst e; simp only [VR] at hx; subst hx; exact ⟨fun w => by simp [Op.unary, scal], fun ν => by simp [VR, scal]⟩
  · simp at e

end Go.Am
