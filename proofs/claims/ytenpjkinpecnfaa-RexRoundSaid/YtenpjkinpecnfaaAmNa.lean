/-
  The abstract machine: what it tells is so in the model; one operation.
-/
import Derived.Test.YtenpjkinpecnfaaAmM
import Derived.RangeFuncIn
namespace Go.Am
variable {P : Program} {T : TT} {F : Nat → Option Func}

def SoundC (P : Program) (T : TT) (F : Nat → Option Func) (n : Nat) : Prop :=
  ∀ fn ro c f e f', evalC T F n fn ro c f = some (e, f') → ∀ (w0 : Frz) (μ : Mu) (w : World) (act : Act) (b : Frame) (k : List Item) (cs : List Frame),
    Sim w0 μ f.h w → VRs μ f.s act.tmps.toList → DRel μ f.ms act.defers → RoRel μ ro b.roundOf → b.fn = fn → b.kind = .normal →
    ∃ μ' w' act', μ.le μ' ∧ Sim w0 μ' f'.h w' ∧ VRs μ' f'.s act'.tmps.toList ∧ DRel μ' f'.ms act'.defers ∧ Lands P b k cs (lone (b.atR act (.code c :: k)) cs w) act' w' e

def SoundL (P : Program) (T : TT) (F : Nat → Option Func) (n : Nat) : Prop :=
  ∀ fn ro x f e f', evalC T F n fn ro (.loop x) f = some (e, f') → ∀ (w0 : Frz) (μ : Mu) (w : World) (act : Act) (b : Frame) (k : List Item) (cs : List Frame),
    Sim w0 μ f.h w → VRs μ f.s act.tmps.toList → DRel μ f.ms act.defers → RoRel μ ro b.roundOf → b.fn = fn → b.kind = .normal →
    ∃ μ' w' act', μ.le μ' ∧ Sim w0 μ' f'.h w' ∧ VRs μ' f'.s act'.tmps.toList ∧ DRel μ' f'.ms act'.defers ∧ Lands P b k cs (lone (b.atR act (.inLoop x :: k)) cs w) act' w' e

def SoundO (P : Program) (T : TT) (F : Nat → Option Func) (n : Nat) : Prop :=
  ∀ (ops : Array Oper) is s h s' h', evalOs T F n ops.toList is s h = some (s', h') → ∀ (w0 : Frz) (μ : Mu) (w : World) (act : Act) (b : Frame) (k : List Item) (cs : List Frame),
    Sim w0 μ h w → VRs μ s act.tmps.toList → b.kind = .normal →
    ∃ μ' w' act', μ.le μ' ∧ Sim w0 μ' h' w' ∧ VRs μ' s' act'.tmps.toList ∧ act'.defers = act.defers ∧ Steps P (lone (b.atR act (.inRegion ops is :: k)) cs w) (lone (b.atR act' k) cs w')

def SoundF (P : Program) (T : TT) (F : Nat → Option Func) (n : Nat) : Prop :=
  ∀ f args h v h', callF T F n f args h = some (v, h') → ∀ (w0 : Frz) (μ : Mu) (w : World) (vargs : Array Value), Sim w0 μ h w → VRs μ args vargs.toList →
    (∃ fn, P.funcs[f]? = some fn ∧ (fn.name == "runtime.NumGoroutine") = false ∧ fn.body.isNone = false) ∧
    ∀ cs, ∃ w' fr vv μ', μ.le μ' ∧ Sim w0 μ' h' w' ∧ VR μ' v vv ∧ Steps P (lone (Frame.enter P f vargs .normal) cs w) (lone fr cs w') ∧ fr.fn = f ∧ fr.leaving P w' (.returned vv)

def SoundR (P : Program) (T : TT) (F : Nat → Option Func) (n : Nat) : Prop :=
  ∀ l args h v h', roundF T F n l args h = some (v, h') → ∀ (w0 : Frz) (μ : Mu) (w : World) (vargs : Array Value) (L : Loc), Sim w0 μ h w → VRs μ args vargs.toList → μ l = some L →
    ∃ fn tmps assign body, (Instr.yield L.blk vargs).run P w = .ok (.round L.blk fn tmps assign body) w ∧
    ∀ (c : Frame) cs, ∃ w' vv μ', μ.le μ' ∧ Sim w0 μ' h' w' ∧ VR μ' v vv ∧ Steps P (lone (Frame.round L.blk fn tmps assign body .normal) (c :: cs) w) (lone (c.finish vv) cs w')

/-- One operation. -/
def SoundS (P : Program) (T : TT) (F : Nat → Option Func) (n : Nat) : Prop :=
  ∀ (ops : Array Oper) i is s h s' h', evalOs T F n ops.toList (i :: is) s h = some (s', h') → ∃ m s1 h1, n = m + 1 ∧ evalOs T F m ops.toList is s1 h1 = some (s', h') ∧
    ∀ (w0 : Frz) (μ : Mu) (w : World) (act : Act) (b : Frame) (k : List Item) (cs : List Frame) (rest : List Nat), Sim w0 μ h w → VRs μ s act.tmps.toList → b.kind = .normal →
      ∃ μ' w' act', μ.le μ' ∧ Sim w0 μ' h1 w' ∧ VRs μ' s1 act'.tmps.toList ∧ act'.defers = act.defers ∧ Steps P (lone (b.atR act (.inRegion ops (i :: rest) :: k)) cs w) (lone (b.atR act' (.inRegion ops rest :: k)) cs w')

theorem sound_S {n : Nat} (hT : TypesOk P T) (hFu : FuncsOk P F) (hF : SoundF P T F n) (hR : SoundR P T F n) : SoundS P T F (n + 1) := by
  intro ops i is s h s' h' e
  simp only [evalOs, Array.getElem?_toList] at e
  split at e
  · simp at e
  · rename_i o ho
    split at e
    · rename_i hw
      split at e
      · rename_i v h1 hop
        refine ⟨n, _, _, rfl, e, ?_⟩
        intro w0 μ w act b k cs rest S hs hk
        have hwr := wanted_rel hs o ops
        rw [← hwr] at hw
        have hρ := evalO_rel hs
        split at hop
        · rename_i f args ts hop'
          split at hop
          · rename_i g caps l hf hargs
            have hvf := hρ _ _ hf
            simp only [VR] at hvf
            obtain ⟨ccaps, hcaps, hfe⟩ := hvf
            have hrel := evalAll_rel hρ hargs
            have hall : VRs μ (l ++ caps) ((args.map act.eval) ++ ccaps).toList := by simpa using hrel.append hcaps
            have hdd : ∀ c, o.op ≠ .defer c := fun c hc => by rw [hop'] at hc; cases hc
            split at hop
            · rename_i v0 hex
              simp only [Option.some.injEq, Prod.mk.injEq] at hop
              obtain ⟨rfl, rfl⟩ := hop
              unfold externO at hex
              split at hex
              · rename_i fn hfn
                obtain ⟨q1, q2⟩ := hFu g fn hfn
                obtain ⟨vv, hv, hrun⟩ := extern_run q1 q2 hall hex
                have hr : (execOp act.eval o).run P w = .ok (.value vv) w := by
                  simp only [execOp, hop', Sem.run_bind, resolve, hfe, Deferred.ofValue, Sem.run_pure, Result.andThen_ok, invoke]
                  rw [← hrun w]
                  simp
                exact ⟨μ, w, act.put o.dst vv, Mu.le_refl _, S, put_rel hs o.dst hv, by cases o.dst <;> rfl, .one (stepR_value ho hw hdd hr)⟩
              · simp at hex
            · obtain ⟨⟨fn, q1, q2, q3⟩, hcall⟩ := hF g _ h v h1 hop w0 μ w _ S hall
              have hr : (execOp act.eval o).run P w = .ok (.enter g ((args.map act.eval) ++ ccaps)) w := by
                simp only [execOp, hop', Sem.run_bind, resolve, hfe, Deferred.ofValue, Sem.run_pure, Result.andThen_ok, invoke]
                rw [callFunc_run q1 q2 q3]
                simp
              have hdd : ∀ c, o.op ≠ .defer c := fun c hc => by rw [hop'] at hc; cases hc
              obtain ⟨w1, fr, vv, μ1, m1, m2, m3, m4, m5, m6⟩ := hcall (b.atR act (.inRegion ops (i :: rest) :: k) :: cs)
              have hfin : (b.atR act (.inRegion ops (i :: rest) :: k)).finish vv = b.atR (act.put o.dst vv) (.inRegion ops rest :: k) := by
                rw [Frame.finish_atR, ho]; rfl
              refine ⟨μ1, w1, act.put o.dst vv, m1, m2, put_rel (VRs.mono m1 _ _ hs) o.dst m3, by cases o.dst <;> rfl, ?_⟩
              refine Steps.head (stepR_enter ho hw hdd hr) (Steps.trans m4 (.one ?_))
              rw [← hfin]; exact step_leave_returned m6
          · rename_i l caps as hf hargs
            have hvf := hρ _ _ hf
            simp only [VR] at hvf
            obtain ⟨L, hL, _, hfe⟩ := hvf
            have hrel := evalAll_rel hρ hargs
            obtain ⟨fn, tmps, assign, body, hy, hround⟩ := hR l as h v h1 hop w0 μ w (args.map act.eval) L S (by simpa using hrel) hL
            have hr : (execOp act.eval o).run P w = .ok (.round L.blk fn tmps assign body) w := by
              simp only [execOp, hop', Sem.run_bind, resolve, hfe, Deferred.ofValue, Sem.run_pure, Result.andThen_ok, invoke]
              rw [← hy]
              simp
            have hdd : ∀ c, o.op ≠ .defer c := fun c hc => by rw [hop'] at hc; cases hc
            obtain ⟨w1, vv, μ1, m1, m2, m3, m4⟩ := hround (b.atR act (.inRegion ops (i :: rest) :: k)) cs
            have hfin : (b.atR act (.inRegion ops (i :: rest) :: k)).finish vv = b.atR (act.put o.dst vv) (.inRegion ops rest :: k) := by
              rw [Frame.finish_atR, ho]; rfl
            refine ⟨μ1, w1, act.put o.dst vv, m1, m2, put_rel (VRs.mono m1 _ _ hs) o.dst m3, by cases o.dst <;> rfl, ?_⟩
            rw [hfin] at m4
            exact Steps.head (stepR_roundv ho hw hdd hr) m4
          · simp at hop
        · obtain ⟨μ1, w1, r, r1, r2, r3, r4⟩ := op_sim hT S hρ o hop
          have hdd := opA_not_defer hop
          rcases r4 with ⟨vv, rfl, hv⟩ | ⟨rfl, rfl⟩
          · exact ⟨μ1, w1, act.put o.dst vv, r2, r3, put_rel (VRs.mono r2 _ _ hs) o.dst hv, by cases o.dst <;> rfl, .one (stepR_value ho hw hdd r1)⟩
          · exact ⟨μ1, w1, act.put o.dst undef, r2, r3, put_rel (VRs.mono r2 _ _ hs) o.dst (VR.undef _), by cases o.dst <;> rfl, .one (stepR_skipv ho hw hdd r1)⟩
      · simp at e
    · rename_i hw
      refine ⟨n, _, _, rfl, e, ?_⟩
      intro w0 μ w act b k cs rest S hs hk
      have hwr := wanted_rel hs o ops
      rw [← hwr] at hw
      have hstep := stepR_op_skip (P := P) (b := b) (a := act) (k := k) (cs := cs) (w := w) (ops := ops) (i := i) (rest := rest) (by simp [ho]; simpa using hw)
      simp only [ho, Option.bind_some] at hstep
      exact ⟨μ, w, act.put o.dst undef, Mu.le_refl _, S, put_rel hs o.dst (VR.undef _), by cases o.dst <;> rfl, .one hstep⟩

theorem sound_O {n : Nat} (hS : SoundS P T F (n + 1)) (hO : SoundO P T F n) : SoundO P T F (n + 1) := by
  intro ops is s h s' h' e w0 μ w act b k cs S hs hk
  cases is with
  | nil =>
    simp only [evalOs, Option.some.injEq, Prod.mk.injEq] at e
    obtain ⟨rfl, rfl⟩ := e
    exact ⟨μ, w, act, Mu.le_refl _, S, hs, rfl, .one stepR_region_end⟩
  | cons i is =>
    obtain ⟨m, s1, h1, hm, e1, hst⟩ := hS ops i is s h s' h' e
    cases hm
    obtain ⟨μ1, w1, act1, k1, k2, k3, k4, k5⟩ := hst w0 μ w act b k cs is S hs hk
    obtain ⟨μ2, w2, act2, j1, j2, j3, j4, j5⟩ := hO ops is _ _ _ _ e1 w0 μ1 w1 act1 b k cs k2 k3 hk
    exact ⟨μ2, w2, act2, Mu.le_trans k1 j1, j2, j3, j4.trans k4, Steps.trans k5 j5⟩

end Go.Am
