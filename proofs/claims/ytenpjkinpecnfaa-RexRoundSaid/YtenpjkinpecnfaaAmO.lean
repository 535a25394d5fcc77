/-
  The abstract machine: calls and rounds; what it tells is so in the model.
-/
import Derived.Test.YtenpjkinpecnfaaAmN
namespace Go.Am
variable {P : Program} {T : TT} {F : Nat → Option Func}

theorem setAll_rel {μ : Mu} : ∀ (ts : List Nat) (s as : List AV) (tmps : Array Value) (vs : List Value), VRs μ s tmps.toList → VRs μ as vs →
    VRs μ (setAll s ts as) ((ts.zip vs).foldl (fun tmps (x : Nat × Value) => tmps.setIfInBounds x.1 x.2) tmps).toList
  | [], s, as, tmps, vs, h1, h2 => by simpa [setAll] using h1
  | t :: ts, s, [], tmps, vs, h1, h2 => by simp only [VRs] at h2; subst h2; simpa [setAll] using h1
  | t :: ts, s, a :: as, tmps, vs, h1, h2 => by
    simp only [VRs] at h2
    obtain ⟨v, vs', hv, hvs, rfl⟩ := h2
    simp only [setAll, List.zip_cons_cons, List.foldl_cons]
    exact setAll_rel ts _ as _ vs' (by simpa using h1.set t hv) hvs

theorem sound_R {n : Nat} (hC : SoundC P T F n) : SoundR P T F (n + 1) := by
  intro l args h v h' ev w0 μ w vargs L S hargs hL
  simp only [roundF] at ev
  split at ev
  · rename_i r hl
    obtain ⟨s0, r', s1, s2, s3, s4, s5, s6, s7, s8, D, s9, s10⟩ := S.loop hl hL
    split at ev
    · simp at ev
    · rename_i hlen
      have hlen : args.length = r.params.length := by simpa using hlen
      have hal := hargs.len
      have hsz : vargs.size = r'.params.size := by
        have : r'.params.toList.length = r.params.length := by rw [s6]
        simp at this hal; omega
      refine ⟨r'.fn, (r'.params.zip vargs).foldl (fun tmps (x : Nat × Value) => tmps.setIfInBounds x.1 x.2) r'.tmps, r'.assign, r'.body, ?_, ?_⟩
      · simp [Instr.yield, run_getLoop s1, hsz]
      · intro c cs
        have hs0 : VRs μ (setAll r.tmps r.params args) ((r'.params.zip vargs).foldl (fun tmps (x : Nat × Value) => tmps.setIfInBounds x.1 x.2) r'.tmps).toList := by
          have := setAll_rel r.params r.tmps args r'.tmps vargs.toList s5 hargs
          rw [← s6] at this
          rw [← Array.foldl_toList, Array.toList_zip]
          rw [← s6]; exact this
        let b : Frame := { (default : Frame) with fn := r'.fn, kind := .normal, roundOf := some L.blk }
        let t0 : Array Value := (r'.params.zip vargs).foldl (fun tmps (x : Nat × Value) => tmps.setIfInBounds x.1 x.2) r'.tmps
        have hb0 : Frame.round L.blk r'.fn t0 r'.assign r'.body .normal = b.atR { tmps := t0, defers := [] } [.code r'.assign, .beginRound, .code r'.body] := by
          simp [Frame.round, Frame.atR, b]
        split at ev
        · rename_i f1 h1
          obtain ⟨μ1, w1, act1, a1, a2, a3, a4, a5⟩ := hC r.fn (some l) r.assign _ _ f1 h1 w0 μ w { tmps := t0, defers := [] } b [.beginRound, .code r'.body] (c :: cs) S hs0 rfl ⟨L, hL, rfl⟩ s4 rfl
          rw [s7] at hb0
          rw [← hb0] at a5
          split at ev
          · rename_i r1 hl1
            have hL1 : μ1 l = some L := a1 _ _ hL
            obtain ⟨_, q1', q1, q2, q3, q4, q5, q6, q7, q8, D1, q9, q10⟩ := a2.loop hl1 hL1
            split at ev
            · simp at ev
            · rename_i hrd
              have hrd1 : r1.state = .ready := by
                cases h : r1.state <;> first | rfl | (exfalso; apply hrd; left; simp [h])
              have hms : f1.ms = [] := by
                rcases hf : f1.ms with _ | ⟨x, y⟩
                · rfl
                · exfalso; apply hrd; right; simp [hf]
              have hbr : (Instr.beginRound L.blk).run P w1 = .ok () { w1 with heap := w1.heap.setIfInBounds L.blk (.loop { q1' with state := .busy }) } := by
                simp only [Instr.beginRound, Sem.run_bind, run_getLoop q1, Result.andThen_ok]
                rw [run_setObj (P := P) q1 (by simp)]
                simp [q2, hrd1]
              have hS1 := a2.putObj (.loop { r1 with state := .busy }) (.loop { q1' with state := .busy }) hl1 hL1 rfl (fun w' hw => ⟨s0, _, hw, rfl, q3, q4, q5, q6, q7, q8, D1, q9, q10⟩)
              have hstep1 := stepR_beginRound (P := P) (b := b) (a := act1) (k := [.code r'.body]) (cs := c :: cs) rfl hbr
              split at ev
              · rename_i e f2 h2
                have hd1 : DRel μ1 ({ f1 with h := f1.h.put l (.loop { r1 with state := .busy }) } : Frm).ms act1.defers := a4
                obtain ⟨μ2, w2, act2, b1, b2, b3, b4, b5⟩ := hC r.fn (some l) r.body _ e f2 h2 w0 μ1 _ act1 b [] (c :: cs) hS1 a3 hd1 ⟨L, hL1, rfl⟩ s4 rfl
                rw [s8] at hstep1
                have hto : Steps P (lone (Frame.round L.blk r'.fn t0 r.assign r.body .normal) (c :: cs) w) (lone (b.atR act1 [.code r.body]) (c :: cs) { w1 with heap := w1.heap.setIfInBounds L.blk (.loop { q1' with state := .busy }) }) := by
                  rw [s8] at a5
                  exact Steps.trans a5 (.one hstep1)
                split at ev
                · rename_i r2 hl2
                  have hL2 : μ2 l = some L := b1 _ _ hL1
                  obtain ⟨_, p1', p1, p2, p3, p4, p5, p6, p7, p8, D2, p9, p10⟩ := b2.loop hl2 hL2
                  have hend : ∀ jump : Option Code, (Instr.endRound L.blk jump).run P w2 = .ok (.bool jump.isNone) { w2 with heap := w2.heap.setIfInBounds L.blk (.loop { p1' with state := if jump.isNone then .ready else .done, pending := jump }) } := fun jump => by
                    simp only [Instr.endRound, Sem.run_bind, run_getLoop p1, Result.andThen_ok]
                    rw [run_setObj (P := P) p1 (by simp)]
                    simp
                  have hS2 : ∀ (st : LoopState) (jump : Option Code), Sim w0 μ2 (f2.h.put l (.loop { r2 with state := st, pending := jump })) { w2 with heap := w2.heap.setIfInBounds L.blk (.loop { p1' with state := st, pending := jump }) } := fun st jump =>
                    b2.putObj (.loop { r2 with state := st, pending := jump }) (.loop { p1' with state := st, pending := jump }) hl2 hL2 rfl (fun w' hw => ⟨s0, _, hw, rfl, rfl, p4, p5, p6, p7, p8, D2, p9, p10⟩)
                  split at ev
                  · simp at ev
                  · rename_i hms2
                    have hle : μ.le μ2 := Mu.le_trans a1 b1
                    rw [s7, s8]
                    split at ev
                    · simp only [Option.some.injEq, Prod.mk.injEq] at ev
                      obtain ⟨rfl, rfl⟩ := ev
                      refine ⟨_, .bool true, μ2, hle, hS2 .ready none, by simp [VR], Steps.trans hto (Steps.trans b5 (.one ?_))⟩
                      exact stepR_round_end (b := b) rfl rfl (hend none)
                    · simp only [Option.some.injEq, Prod.mk.injEq] at ev
                      obtain ⟨rfl, rfl⟩ := ev
                      obtain ⟨todo, b5⟩ := b5
                      refine ⟨_, .bool false, μ2, hle, hS2 .done (some .ret), by simp [VR], Steps.trans hto (Steps.trans b5 (.one ?_))⟩
                      exact stepR_round_ret (b := b) rfl rfl (hend (some .ret))
                    · rename_i id
                      simp only [Option.some.injEq, Prod.mk.injEq] at ev
                      obtain ⟨rfl, rfl⟩ := ev
                      obtain ⟨todo, hx, b5⟩ := b5.2 rfl
                      refine ⟨_, .bool false, μ2, hle, hS2 .done (some (.exit id)), by simp [VR], Steps.trans hto (Steps.trans b5 (.one ?_))⟩
                      exact stepR_round_exit (b := b) rfl rfl hx (hend (some (.exit id)))
                · simp at ev
              · simp at ev
          · simp at ev
        · simp at ev
  · simp at ev

theorem marks_steps {μ : Mu} {w0 : Frz} : ∀ (ms : List Nat) (h h' : Heap) (w : World) (fr : Frame) (cs : List Frame), takeMarks ms h = some h' → Sim w0 μ h w → DRel μ ms fr.defers → fr.mode = .returning →
    ∃ w', Sim w0 μ h' w' ∧ Steps P (lone fr cs w) (lone { fr with defers := [] } cs w')
  | [], h, h', w, fr, cs, e, S, hd, hm => by
    simp only [takeMarks, Option.some.injEq] at e; subst e
    simp only [DRel] at hd
    refine ⟨w, S, ?_⟩
    rw [← hd]; exact Steps.refl _ _
  | m :: ms, h, h', w, fr, cs, e, S, hd, hm => by
    obtain ⟨L, ds, hL, hds, hfd⟩ := hd
    simp only [takeMarks] at e
    split at e
    · rename_i hg
      obtain ⟨L', e1, e2⟩ := S.at_ m _ hg
      rw [hL] at e1; simp at e1; subst e1
      obtain ⟨g1, g2⟩ := e2
      simp only [Bool.false_eq_true, if_false] at g2
      have hS := S.putObj (.defers true) (.deferred none) hg hL rfl (fun w' hw => ⟨g1, by simpa using hw⟩)
      obtain ⟨w', k1, k2⟩ := marks_steps ms _ h' _ { fr with defers := ds } cs e hS hds hm
      refine ⟨w', k1, Steps.head ?_ k2⟩
      have htk : (Instr.takeDeferred L.blk).run P w = .ok [] { w with heap := w.heap.setIfInBounds L.blk (.deferred none) } := by
        simp only [Instr.takeDeferred, Sem.run_bind, run_getObj (P := P) g2 (by simp), Result.andThen_ok]
        simp only [run_setObj (P := P) g2 (by simp), Result.andThen_ok, Sem.run_pure]
      refine step_lone_go ?_
      simp [stepG, hm, unwind, hfd, Sem.runT_eq, htk]
    · simp at e

theorem sound_F {n : Nat} (hT : TypesOk P T) (hFu : FuncsOk P F) (hC : SoundC P T F n) : SoundF P T F (n + 1) := by
  intro f args h v h' ev w0 μ w vargs S hargs
  simp only [callF] at ev
  split at ev
  · simp at ev
  · rename_i fn hfn
    obtain ⟨q1, q2⟩ := hFu f fn hfn
    split at ev
    · simp at ev
    · rename_i c hc
      refine ⟨⟨fn, q1, q2, by rw [hc]; rfl⟩, fun cs => ?_⟩
      let b : Frame := { (default : Frame) with fn := f, kind := .normal }
      have hal := hargs.len
      have henter : Frame.enter P f vargs .normal = b.atR { tmps := vargs ++ Array.replicate (fn.ntmps - vargs.size) undef, defers := [] } [.code c] := by
        simp [Frame.enter, Frame.atR, q1, hc, b]
        rfl
      have hs0 : VRs μ (args ++ List.replicate (fn.ntmps - args.length) undefA) (vargs ++ Array.replicate (fn.ntmps - vargs.size) undef).toList := by
        rw [Array.toList_append]
        refine hargs.append ?_
        simp only [Array.toList_replicate]
        have : vargs.size = args.length := by simpa using hal
        rw [this]
        exact VRs.replicate (VR.undef μ) _
      have key : ∀ e f1, evalC T F n f none c { s := args ++ List.replicate (fn.ntmps - args.length) undefA, ms := [], h } = some (e, f1) → (∀ id, e ≠ .exit id) → (match takeMarks f1.ms f1.h with
          | none => none
          | some h2 =>
            match resultsA T h2 f1.s fn.results.toList with
            | some [v] => some (v, h2)
            | some l => some (.tup l, h2)
            | none => none) = some (v, h') →
          ∃ w' fr vv μ', μ.le μ' ∧ Sim w0 μ' h' w' ∧ VR μ' v vv ∧ Steps P (lone (Frame.enter P f vargs .normal) cs w) (lone fr cs w') ∧ fr.fn = f ∧ fr.leaving P w' (.returned vv) := by
        intro e f1 h1 hne ev
        obtain ⟨μ1, w1, act1, a1, a2, a3, a4, a5⟩ := hC f none c _ e f1 h1 w0 μ w { tmps := vargs ++ Array.replicate (fn.ntmps - vargs.size) undef, defers := [] } b [] cs S hs0 rfl rfl rfl rfl
        rw [← henter] at a5
        have hret : ∃ todo, Steps P (lone (Frame.enter P f vargs .normal) cs w) (lone { b.atR act1 todo with mode := .returning } cs w1) := by
          cases e with
          | normal => exact ⟨[], Steps.trans a5 (.one (stepR_end rfl))⟩
          | ret => obtain ⟨todo, a5⟩ := a5; exact ⟨_, Steps.trans a5 (.one (stepR_ret rfl))⟩
          | exit id => exact absurd rfl (hne id)
        obtain ⟨todo, hret⟩ := hret
        split at ev
        · simp at ev
        · rename_i h2 hmk
          obtain ⟨w2, m1, m2⟩ := marks_steps (P := P) f1.ms f1.h h2 w1 { b.atR act1 todo with mode := .returning } cs hmk a2 a4 rfl
          have fin : ∀ l, resultsA T h2 f1.s fn.results.toList = some l → (v, h') = (packA l, h2) → ∃ w' fr vv μ', μ.le μ' ∧ Sim w0 μ' h' w' ∧ VR μ' v vv ∧ Steps P (lone (Frame.enter P f vargs .normal) cs w) (lone fr cs w') ∧ fr.fn = f ∧ fr.leaving P w' (.returned vv) := by
            intro l hl hv
            simp only [Prod.mk.injEq] at hv
            obtain ⟨rfl, rfl⟩ := hv
            obtain ⟨vv, r1, r2⟩ := results_run (P := P) hT m1 a3 hl
            exact ⟨w2, _, vv, μ1, a1, m1, r2, Steps.trans hret m2, rfl, rfl, rfl, rfl, fn, q1, r1⟩
          split at ev
          · rename_i v1 hl
            simp only [Option.some.injEq] at ev
            exact fin _ hl (by rw [← ev]; rfl)
          · rename_i l hne1 hl
            simp only [Option.some.injEq] at ev
            refine fin _ hl ?_
            rw [← ev]
            cases l with
            | nil => rfl
            | cons x l => cases l with
              | nil => exact (hne1 x rfl).elim
              | cons y l => rfl
          · simp at ev
      split at ev
      · simp at ev
      · simp at ev
      · rename_i e f1 hne h1
        exact key e f1 h1 (fun id he => hne id he) ev

theorem sound (hM : P.follows .mixedOrders = true) (hT : TypesOk P T) (hFu : FuncsOk P F) : ∀ n, (SoundC P T F n ∧ SoundL P T F n ∧ SoundO P T F n ∧ SoundF P T F n ∧ SoundR P T F n) ∧ ∀ m, m ≤ n → SoundS P T F m
  | 0 => ⟨⟨fun _ _ _ _ _ _ ev => by simp [evalC] at ev, fun _ _ _ _ _ _ ev => by simp [evalC] at ev, fun _ _ _ _ _ _ ev => by simp [evalOs] at ev, fun _ _ _ _ _ ev => by simp [callF] at ev, fun _ _ _ _ _ ev => by simp [roundF] at ev⟩,
    fun m hm => by
      have : m = 0 := by omega
      subst this
      intro _ _ _ _ _ _ _ ev; simp [evalOs] at ev⟩
  | n + 1 => by
    obtain ⟨⟨hC, hL, hO, hF, hR⟩, hS⟩ := sound hM hT hFu n
    have hS1 := sound_S hT hFu hF hR
    refine ⟨⟨sound_C hM hT hC hS hO hF hL, sound_L hC hL, sound_O hS1 hO, sound_F hT hFu hC, sound_R hC⟩, fun m hm => ?_⟩
    rcases Nat.lt_or_ge m (n + 1) with h | h
    · exact hS m (by omega)
    · have : m = n + 1 := by omega
      subst this; exact hS1

/-- **What the abstract machine tells of a call is so.** -/
theorem calls_of (hM : P.follows .mixedOrders = true) (hT : TypesOk P T) (hFu : FuncsOk P F) {n f : Nat} {args : List AV} {h h' : Heap} {v : AV} (e : callF T F n f args h = some (v, h')) {w0 : Frz} {w : World} {μ : Mu} {vargs : Array Value} (S : Sim w0 μ h w) (hargs : VRs μ args vargs.toList) :
    Calls P f vargs w fun e w' => ∃ vv μ', e = .returned vv ∧ μ.le μ' ∧ Sim w0 μ' h' w' ∧ VR μ' v vv := by
  intro cs
  obtain ⟨w', fr, vv, μ', m1, m2, m3, m4, m5, m6⟩ := ((sound hM hT hFu n).1.2.2.2.1 f args h v h' e w0 μ w vargs S hargs).2 cs
  exact ⟨.returned vv, w', fr, ⟨vv, μ', rfl, m1, m2, m3⟩, m4, m5, m6⟩

end Go.Am
