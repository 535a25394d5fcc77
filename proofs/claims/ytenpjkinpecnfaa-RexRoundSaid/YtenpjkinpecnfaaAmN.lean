/-
  The abstract machine: what it tells is so in the model.
-/
import Derived.Test.YtenpjkinpecnfaaAmV
import Derived.RangeFuncIn
namespace Go.Am
variable {P : Program} {T : TT} {F : Nat → Option Func}

theorem sound_L {n : Nat} (hC : SoundC P T F n) (hL : SoundL P T F n) : SoundL P T F (n + 1) := by
  intro fn ro x f e f' ev w0 μ w act b k cs S hs hd hro hfn hk
  simp only [evalC] at ev
  split at ev
  · rename_i f1 h1
    obtain ⟨μ1, w1, act1, a1, a2, a3, a4, a5⟩ := hC fn ro x f _ f1 h1 w0 μ w act b (.inLoop x :: k) cs S hs hd hro hfn hk
    obtain ⟨μ2, w2, act2, b1, b2, b3, b4, b5⟩ := hL fn ro x f1 e f' ev w0 μ1 w1 act1 b k cs a2 a3 a4 (hro.mono a1) hfn hk
    exact ⟨μ2, w2, act2, Mu.le_trans a1 b1, b2, b3, b4, .of_steps (Steps.head stepR_inLoop a5) b5⟩
  · rename_i hne
    obtain ⟨μ1, w1, act1, a1, a2, a3, a4, a5⟩ := hC fn ro x f e f' ev w0 μ w act b (.inLoop x :: k) cs S hs hd hro hfn hk
    refine ⟨μ1, w1, act1, a1, a2, a3, a4, .of_steps (.one stepR_inLoop) (.pass (x := .inLoop x) (fun _ => by simp) (fun he => ?_) a5)⟩
    subst he
    exact hne _ ev

/-- An object that is no row of cells is turned. -/
theorem Sim.putObj {w0 : Frz} {w : World} {μ : Mu} {h : Heap} (S : Sim w0 μ h w) {b : Nat} {x : Blk} (y : Blk) {L : Loc} (o : Obj) (hb : h.get b = some x) (hL : μ b = some L) (hx : x.mine = true)
    (hy : ∀ w' : World, w'.heap[L.blk]? = some o → BlkAt μ w0.old w' L y) : Sim w0 μ (h.put b y) { w with heap := w.heap.setIfInBounds L.blk o } := by
  obtain ⟨L0, l1, l2⟩ := S.at_ b x hb
  rw [hL] at l1; simp at l1; subst l1
  have hlt := l2.lt
  refine S.turn y hb hL hx (by simp) (fun k hk => ?_) (hy _ ?_) ⟨rfl, rfl, rfl⟩
  · show (w.heap.setIfInBounds L.blk o)[k]? = _
    rw [Array.getElem?_setIfInBounds, if_neg (fun e => hk e.symm)]
  · show (w.heap.setIfInBounds L.blk o)[L.blk]? = _
    rw [Array.getElem?_setIfInBounds]; simp [hlt]

theorem run_getObj {w : World} {r : Nat} {o : Obj} (h : w.heap[r]? = some o) (hc : ∀ c e f, o ≠ .cells c e f) : (getObj r).run P w = .ok o w := by
  cases o <;> first | (exact absurd rfl (hc _ _ _)) | simp [getObj, Sem.run, h]

theorem run_setObj {w : World} {r : Nat} {o o' : Obj} (h : w.heap[r]? = some o) (hc : ∀ c e f, o ≠ .cells c e f) : (setObj r o').run P w = .ok () { w with heap := w.heap.setIfInBounds r o' } := by
  cases o <;> first | (exact absurd rfl (hc _ _ _)) | simp [setObj, Sem.run, h]

theorem Sim.loop {w0 : Frz} {w : World} {μ : Mu} {h : Heap} (S : Sim w0 μ h w) {l : Nat} {r : LoopR} {L : Loc} (hb : h.get l = some (.loop r)) (hL : μ l = some L) :
    w0.old L.blk = none ∧ ∃ r', w.heap[L.blk]? = some (.loop r') ∧ r'.state = r.state ∧ r'.pending = r.pending ∧ r'.fn = r.fn ∧ VRs μ r.tmps r'.tmps.toList ∧ r'.params.toList = r.params ∧
      r'.assign = r.assign ∧ r'.body = r.body ∧ ∃ D, μ r.defers = some D ∧ r'.defers = D.blk := by
  obtain ⟨L', e1, e2⟩ := S.at_ l _ hb
  rw [hL] at e1; simp at e1; subst e1; exact e2

theorem run_getLoop {w : World} {l : Nat} {r : Loop} (h : w.heap[l]? = some (.loop r)) : (Instr.getLoop l).run P w = .ok r w := by
  simp [Instr.getLoop, run_getObj (P := P) h (by simp)]

theorem sound_range {n : Nat} (hF : SoundF P T F n) {fn : Nat} {ro : Option Nat} {g : Operand} {ps : Array Tmp} {assign body : Code} {f f' : Frm} {e : AE}
    (ev : evalC T F (n + 1) fn ro (.rangeFunc g ps assign body) f = some (e, f')) (w0 : Frz) (μ : Mu) (w : World) (act : Act) (b : Frame) (k : List Item) (cs : List Frame)
    (S : Sim w0 μ f.h w) (hs : VRs μ f.s act.tmps.toList) (hd : DRel μ f.ms act.defers) (hro : RoRel μ ro b.roundOf) (hfn : b.fn = fn) :
    ∃ μ' w' act', μ.le μ' ∧ Sim w0 μ' f'.h w' ∧ VRs μ' f'.s act'.tmps.toList ∧ DRel μ' f'.ms act'.defers ∧ Lands P b k cs (lone (b.atR act (.code (.rangeFunc g ps assign body) :: k)) cs w) act' w' e := by
  simp only [evalC] at ev
  split at ev
  · rename_i kf caps hg
    have hvf := evalO_rel hs _ _ hg
    simp only [VR] at hvf
    obtain ⟨ccaps, hcaps, hfe⟩ := hvf
    split at ev
    · simp at ev
    · rename_i df ms h hent
      -- the record
      have key : ∃ (μ1 : Mu) (w1 : World) (D : Loc) (mark : List Deferred), μ.le μ1 ∧ Sim w0 μ1 h w1 ∧ μ1 df = some D ∧ DRel μ1 ms (mark ++ act.defers) ∧ ∀ r : Nat → Loop, (∀ d, (r d).defers = d) → (r D.blk) = { state := .ready, pending := none, fn := b.fn, tmps := act.tmps, params := ps, assign, body, defers := D.blk } →
          (Instr.enterLoop b.fn act.tmps ps assign body b.roundOf).run P w = .ok (w1.heap.size, mark) { w1 with heap := w1.heap.push (.loop (r D.blk)) } := by
        cases ro with
        | none =>
          simp only [RoRel] at hro
          simp only [enterA, Option.some.injEq, Prod.mk.injEq] at hent
          obtain ⟨rfl, rfl, rfl⟩ := hent
          obtain ⟨m1, m2⟩ := S.add (.defers false) (.deferred (some [])) 0 (fun ν w' hν hw => ⟨S.fresh, hw⟩)
          refine ⟨_, _, _, [{ target := .collected w.heap.size, args := #[] }], m1, m2, Mu.upd_same _ _ _, ?_, ?_⟩
          · exact ⟨_, _, Mu.upd_same _ _ _, hd.mono m1, rfl⟩
          · intro r hr1 hr2
            rw [hro, hr2]
            simp [Instr.enterLoop]
            rfl
        | some l0 =>
          obtain ⟨L0, hL0, hro⟩ := hro
          simp only [enterA] at hent
          split at hent
          · rename_i r0 hl0
            simp only [Option.some.injEq, Prod.mk.injEq] at hent
            obtain ⟨rfl, rfl, rfl⟩ := hent
            obtain ⟨_, r', q1, _, _, _, _, _, _, _, D, q2, q3⟩ := S.loop hl0 hL0
            refine ⟨μ, w, D, [], Mu.le_refl _, S, q2, hd, ?_⟩
            intro r hr1 hr2
            rw [hro, hr2]
            simp [Instr.enterLoop, run_getLoop q1, q3]
          · simp at hent
      obtain ⟨μ1, w1, D, mark, k1, S1, hD, hd1, hrun⟩ := key
      let rc : Nat → Loop := fun d => { state := .ready, pending := none, fn := b.fn, tmps := act.tmps, params := ps, assign, body, defers := d }
      have hrun := hrun rc (fun d => rfl) rfl
      let ra : LoopR := { state := .ready, pending := none, fn := fn, tmps := f.s, params := ps.toList, assign, body, defers := df }
      obtain ⟨m1, m2⟩ := S1.add (.loop ra) (.loop (rc D.blk)) 0 (fun ν w' hν hw => ⟨S1.fresh, rc D.blk, hw, rfl, rfl, hfn, VRs.mono (Mu.le_trans k1 hν) _ _ hs, rfl, rfl, rfl, D, hν _ _ hD, rfl⟩)
      split at ev
      · simp at ev
      · rename_i vr h2 hcall
        have hlv : VR (μ1.upd h.nxt ⟨w1.heap.size, 0, 0⟩) (.func (.yield h.nxt) []) (.func (.yield w1.heap.size) #[] #[]) := by
          simp only [VR]; refine ⟨_, Mu.upd_same _ _ _, ?_⟩; simp
        have hargs : VRs (μ1.upd h.nxt ⟨w1.heap.size, 0, 0⟩) (.func (.yield h.nxt) [] :: caps) (#[Value.func (.yield w1.heap.size) #[] #[]] ++ ccaps).toList := by
          simp only [Array.toList_append, List.cons_append, VRs]
          exact ⟨_, _, hlv, VRs.mono (Mu.le_trans k1 m1) _ _ hcaps, rfl⟩
        obtain ⟨⟨fnc, q1, q2, q3⟩, hcallc⟩ := hF kf _ _ vr h2 hcall w0 _ _ _ m2 hargs
        obtain ⟨w3, fr, vv, μ3, j1, j2, j3, j4, j5, j6⟩ := hcallc (b.atR { act with defers := mark ++ act.defers } (.inRangeFunc w1.heap.size :: k) :: cs)
        have hres : (resolve act.eval (rangeCall g w1.heap.size) 0).run P { w1 with heap := w1.heap.push (.loop (rc D.blk)) } = .ok { target := .fn (.func kf) ccaps, args := #[Value.func (.yield w1.heap.size) #[] #[]] } { w1 with heap := w1.heap.push (.loop (rc D.blk)) } := by
          simp only [resolve, hfe, Deferred.ofValue]
          simp [Act.eval]
        have hinv : (invoke (.fn (.func kf) ccaps) #[Value.func (.yield w1.heap.size) #[] #[]]).run P { w1 with heap := w1.heap.push (.loop (rc D.blk)) } = .ok (.enter kf (#[Value.func (.yield w1.heap.size) #[] #[]] ++ ccaps)) { w1 with heap := w1.heap.push (.loop (rc D.blk)) } := by
          simp only [invoke]; exact callFunc_run q1 q2 q3 _
        have hst := stepR_rangeFunc (P := P) (b := b) (a := act) (k := k) (cs := cs) (w := w) hrun hres hinv
        have hback := step_leave_returned (P := P) (c := b.atR { act with defers := mark ++ act.defers } (.inRangeFunc w1.heap.size :: k)) (cs := cs) j6
        rw [finish_atR_inRangeFunc] at hback
        have hsteps : Steps P (lone (b.atR act (.code (.rangeFunc g ps assign body) :: k)) cs w) (lone (b.atR { act with defers := mark ++ act.defers } (.endRangeFunc w1.heap.size :: k)) cs w3) :=
          Steps.head hst (Steps.trans j4 (.one hback))
        split at ev
        · rename_i r3 hl3
          have hL3 : μ3 h.nxt = some ⟨w1.heap.size, 0, 0⟩ := j1 _ _ (Mu.upd_same _ _ _)
          obtain ⟨s0, r', s1, s2, s3, s4, s5, s6, s7, s8, D', s9, s10⟩ := j2.loop hl3 hL3
          split at ev
          · simp at ev
          · rename_i hnb
            have hend : (Instr.endLoop w1.heap.size).run P w3 = .ok r3.pending { w3 with heap := w3.heap.setIfInBounds w1.heap.size (.loop { r' with state := .exhausted }) } := by
              have hb' : (r'.state == LoopState.busy) = false := by
                rw [s2]; cases hst3 : r3.state <;> first | rfl | exact absurd hst3 hnb
              simp only [Instr.endLoop, Sem.run_bind, run_getLoop s1, Result.andThen_ok, hb', Bool.false_eq_true, if_false, Sem.run_pure]
              rw [run_setObj (P := P) s1 (by simp)]
              simp [s3]
            have hS' := j2.putObj (.loop { r3 with state := .exhausted }) (.loop { r' with state := .exhausted }) hl3 hL3 rfl (fun w' hw => ⟨s0, _, hw, rfl, s3, s4, s5, s6, s7, s8, D', s9, s10⟩)
            have hjump := stepR_endRangeFunc (P := P) (b := b) (a := { act with defers := mark ++ act.defers }) (k := k) (cs := cs) hend
            have hle : μ.le μ3 := Mu.le_trans k1 (Mu.le_trans m1 j1)
            have hfin := Steps.trans hsteps (.one hjump)
            have hds := hd1.mono (Mu.le_trans m1 j1)
            split at ev
            · rename_i hp
              simp only [Option.some.injEq, Prod.mk.injEq] at ev
              obtain ⟨rfl, rfl⟩ := ev
              rw [hp] at hfin
              exact ⟨μ3, _, { act with defers := mark ++ act.defers }, hle, hS', VRs.mono hle _ _ hs, hds, hfin⟩
            · rename_i hp
              simp only [Option.some.injEq, Prod.mk.injEq] at ev
              obtain ⟨rfl, rfl⟩ := ev
              rw [hp] at hfin
              exact ⟨μ3, _, { act with defers := mark ++ act.defers }, hle, hS', VRs.mono hle _ _ hs, hds, k, hfin⟩
            · rename_i id hp
              simp only [Option.some.injEq, Prod.mk.injEq] at ev
              obtain ⟨rfl, rfl⟩ := ev
              rw [hp] at hfin
              exact ⟨μ3, _, { act with defers := mark ++ act.defers }, hle, hS', VRs.mono hle _ _ hs, hds, fun k' hk' => Steps.trans hfin (.one (stepR_exit hk')), fun hk' => ⟨k, hk', hfin⟩⟩
            · simp at ev
        · simp at ev
  · simp at ev

theorem sound_C {n : Nat} (hM : P.follows .mixedOrders = true) (hT : TypesOk P T) (hC : SoundC P T F n) (hS : ∀ m, m ≤ n → SoundS P T F m) (hO : SoundO P T F n) (hF : SoundF P T F n) (hL : SoundL P T F n) : SoundC P T F (n + 1) := by
  intro fn ro c f e f' ev w0 μ w act b k cs S hs hd hro hfn hk
  cases c with
  | skip =>
    simp only [evalC, Option.some.injEq, Prod.mk.injEq] at ev
    obtain ⟨rfl, rfl⟩ := ev
    exact ⟨μ, w, act, Mu.le_refl _, S, hs, hd, .one stepR_skip⟩
  | label l =>
    simp only [evalC, Option.some.injEq, Prod.mk.injEq] at ev
    obtain ⟨rfl, rfl⟩ := ev
    exact ⟨μ, w, act, Mu.le_refl _, S, hs, hd, .one stepR_label⟩
  | exit id =>
    simp only [evalC, Option.some.injEq, Prod.mk.injEq] at ev
    obtain ⟨rfl, rfl⟩ := ev
    refine ⟨μ, w, act, Mu.le_refl _, S, hs, hd, fun k' hk' => .one (stepR_exit hk'), fun hk' => ⟨k, hk', Steps.refl _ _⟩⟩
  | ret =>
    simp only [evalC, Option.some.injEq, Prod.mk.injEq] at ev
    obtain ⟨rfl, rfl⟩ := ev
    exact ⟨μ, w, act, Mu.le_refl _, S, hs, hd, k, Steps.refl _ _⟩
  | seq x y =>
    simp only [evalC] at ev
    split at ev
    · rename_i f1 h1
      obtain ⟨μ1, w1, act1, a1, a2, a3, a4, a5⟩ := hC fn ro x f _ f1 h1 w0 μ w act b (.code y :: k) cs S hs hd hro hfn hk
      obtain ⟨μ2, w2, act2, b1, b2, b3, b4, b5⟩ := hC fn ro y f1 e f' ev w0 μ1 w1 act1 b k cs a2 a3 a4 (hro.mono a1) hfn hk
      exact ⟨μ2, w2, act2, Mu.le_trans a1 b1, b2, b3, b4, .of_steps (Steps.head stepR_seq a5) b5⟩
    · rename_i hne
      obtain ⟨μ1, w1, act1, a1, a2, a3, a4, a5⟩ := hC fn ro x f e f' ev w0 μ w act b (.code y :: k) cs S hs hd hro hfn hk
      refine ⟨μ1, w1, act1, a1, a2, a3, a4, .of_steps (.one stepR_seq) (.pass (x := .code y) (fun _ => by simp) (fun he => ?_) a5)⟩
      subst he
      exact hne _ ev
  | cond c x y =>
    simp only [evalC] at ev
    split at ev
    · rename_i hc
      have hv := evalO_rel hs _ _ hc
      simp only [VR] at hv
      obtain ⟨μ1, w1, act1, a1, a2, a3, a4, a5⟩ := hC fn ro x f e f' ev w0 μ w act b k cs S hs hd hro hfn hk
      exact ⟨μ1, w1, act1, a1, a2, a3, a4, .of_steps (.one (stepR_cond (t := true) hv)) a5⟩
    · rename_i hc
      have hv := evalO_rel hs _ _ hc
      simp only [VR] at hv
      obtain ⟨μ1, w1, act1, a1, a2, a3, a4, a5⟩ := hC fn ro y f e f' ev w0 μ w act b k cs S hs hd hro hfn hk
      exact ⟨μ1, w1, act1, a1, a2, a3, a4, .of_steps (.one (stepR_cond (t := false) hv)) a5⟩
    · simp at ev
  | block id x =>
    simp only [evalC] at ev
    split at ev
    · rename_i i f1 h1
      obtain ⟨μ1, w1, act1, a1, a2, a3, a4, a5, a6⟩ := hC fn ro x f _ f1 h1 w0 μ w act b (.inBlock id :: k) cs S hs hd hro hfn hk
      split at ev
      · rename_i hi
        simp only [Option.some.injEq, Prod.mk.injEq] at ev
        obtain ⟨rfl, rfl⟩ := ev
        subst hi
        exact ⟨μ1, w1, act1, a1, a2, a3, a4, Steps.head stepR_block (a5 k (by simp [exitTo]))⟩
      · rename_i hi
        simp only [Option.some.injEq, Prod.mk.injEq] at ev
        obtain ⟨rfl, rfl⟩ := ev
        have hx : exitTo i (.inBlock id :: k) = exitTo i k := by
          have : (id == i) = false := by simpa using fun h => hi h.symm
          simp [exitTo, this]
        rw [hx] at a5 a6
        exact ⟨μ1, w1, act1, a1, a2, a3, a4, Lands.of_steps (e := .exit i) (.one stepR_block) ⟨a5, a6⟩⟩
    · rename_i hne
      obtain ⟨μ1, w1, act1, a1, a2, a3, a4, a5⟩ := hC fn ro x f e f' ev w0 μ w act b (.inBlock id :: k) cs S hs hd hro hfn hk
      refine ⟨μ1, w1, act1, a1, a2, a3, a4, ?_⟩
      cases e with
      | normal => exact Steps.head stepR_block (Steps.trans a5 (.one stepR_inBlock))
      | exit i => exact absurd ev (hne _ _)
      | ret => exact Lands.of_steps (e := .ret) (.one stepR_block) a5
  | loop x =>
    simp only [evalC] at ev
    split at ev
    · rename_i f1 h1
      obtain ⟨μ1, w1, act1, a1, a2, a3, a4, a5⟩ := hC fn ro x f _ f1 h1 w0 μ w act b (.inLoop x :: k) cs S hs hd hro hfn hk
      obtain ⟨μ2, w2, act2, b1, b2, b3, b4, b5⟩ := hL fn ro x f1 e f' ev w0 μ1 w1 act1 b k cs a2 a3 a4 (hro.mono a1) hfn hk
      exact ⟨μ2, w2, act2, Mu.le_trans a1 b1, b2, b3, b4, .of_steps (Steps.head stepR_loop a5) b5⟩
    · rename_i hne
      obtain ⟨μ1, w1, act1, a1, a2, a3, a4, a5⟩ := hC fn ro x f e f' ev w0 μ w act b (.inLoop x :: k) cs S hs hd hro hfn hk
      refine ⟨μ1, w1, act1, a1, a2, a3, a4, .of_steps (.one stepR_loop) (.pass (x := .inLoop x) (fun _ => by simp) (fun he => ?_) a5)⟩
      subst he
      exact hne _ ev
  | scope x =>
    simp only [evalC] at ev
    obtain ⟨μ1, w1, act1, a1, a2, a3, a4, a5⟩ := hC fn ro x f e f' ev w0 μ w act b (.inScope x :: k) cs S hs hd hro hfn hk
    refine ⟨μ1, w1, act1, a1, a2, a3, a4, ?_⟩
    have hst : step P (lone (b.atR act (.code (.scope x) :: k)) cs w) = .next (lone (b.atR act (.code x :: .inScope x :: k)) cs w) := step_lone_go (by simp [stepG, stepG.exec, Frame.atR])
    have hend : step P (lone (b.atR act1 (.inScope x :: k)) cs w1) = .next (lone (b.atR act1 k) cs w1) := step_lone_go (by simp [stepG, stepG.exec, Frame.atR])
    cases e with
    | normal => exact Steps.head hst (Steps.trans a5 (.one hend))
    | exit i => exact Lands.of_steps (e := .exit i) (.one hst) (.pass (x := .inScope x) (fun _ => by simp) (by simp) a5)
    | ret => exact Lands.of_steps (e := .ret) (.one hst) a5
  | region id ops draw =>
    simp only [evalC] at ev
    split at ev
    · rename_i hdraw
      subst hdraw
      split at ev
      · rename_i hdr
        split at ev
        · rename_i st hev
          split at ev
          · rename_i hchk
            simp only [Option.some.injEq, Prod.mk.injEq] at ev
            obtain ⟨rfl, rfl⟩ := ev
            have hok := drawOk_ok hdr
            obtain ⟨k1, k2⟩ := schedule_keeps hok.back (w.tape w.drawn (.order b.fn id))
            rw [← hM] at k1 k2
            obtain ⟨μ1, w1, act1, a1, a2, a3, a4, a5⟩ := draw_sim hT hS hok hev hchk k1 k2 (S.heap (w' := { w with drawn := w.drawn + 1 }) rfl ⟨rfl, rfl, rfl⟩) hs b k cs hk
            exact ⟨μ1, w1, act1, a1, a2, a3, by rw [a4]; exact hd.mono a1, Steps.head stepR_region_draw a5⟩
          · simp at ev
        · simp at ev
      · simp at ev
    · rename_i hdraw
      have hdraw : draw = false := by simpa using hdraw
      subst hdraw
      split at ev
      · rename_i s1 h1 hos
        simp only [Option.some.injEq, Prod.mk.injEq] at ev
        obtain ⟨rfl, rfl⟩ := ev
        obtain ⟨μ1, w1, act1, a1, a2, a3, a4, a5⟩ := hO ops _ _ _ _ _ hos w0 μ w act b k cs S hs hk
        exact ⟨μ1, w1, act1, a1, a2, a3, by rw [a4]; exact hd.mono a1, Steps.head stepR_region a5⟩
      · simp at ev
  | rangeFunc g ps assign body => exact sound_range hF ev w0 μ w act b k cs S hs hd hro hfn
  | goto l => simp [evalC] at ev
  | refuse why => simp [evalC] at ev

end Go.Am
