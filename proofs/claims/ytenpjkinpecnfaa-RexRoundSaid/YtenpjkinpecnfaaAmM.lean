/-
  The abstract machine: activations, steps of the model's machine.
-/
import Derived.Test.YtenpjkinpecnfaaAmL
namespace Go.Am
variable {P : Program} {T : TT} {w0 : Frz} {w : World} {μ : Mu} {h h' : Heap}

theorem getD_list (a : Array Value) (i : Nat) (d : Value) : a.getD i d = a.toList.getD i d := by
  simp [Array.getD_eq_getD_getElem?, List.getD_eq_getElem?_getD]

theorem evalO_rel {s : List AV} {a : Act} (hs : VRs μ s a.tmps.toList) : Rho μ (evalO s) a.eval := by
  intro x v e
  cases x with
  | tmp t =>
    simp only [evalO, Option.some.injEq] at e; subst e
    simp only [Act.eval, getD_list]
    exact hs.getD t
  | const c => simp only [evalO] at e; exact VR.ofValue e
  | global g => simp [evalO] at e
  | func f => simp only [evalO, Option.some.injEq] at e; subst e; simp only [Act.eval, VR]; exact ⟨#[], by simp [VRs], rfl⟩

theorem VR.is_bool {a : AV} {v : Value} (k : VR μ a v) (b : Bool) : v = .bool b ↔ a = .bool b := by
  constructor
  · intro e; subst e
    cases a with
    | bool b' => simp only [VR] at k; simp at k; rw [k]
    | ptr p => cases p with
      | none => simp [VR] at k
      | some p => obtain ⟨b, o⟩ := p; simp [VR] at k
    | slc p n c sz => cases p with
      | none => simp [VR] at k
      | some p => obtain ⟨b, o⟩ := p; simp [VR] at k
    | map r => cases r <;> simp [VR] at k
    | func f caps => cases f <;> simp [VR] at k
    | agg _ => simp [VR] at k
    | tup _ => simp [VR] at k
    | iface t x => simp [VR] at k
    | int k' n => simp [VR] at k
    | str s => simp [VR] at k
    | nilFn => simp [VR] at k
    | nilIface => simp [VR] at k
  · intro e; subst e; simpa only [VR] using k

theorem wanted_rel {s : List AV} {tmps : Array Value} (hs : VRs μ s tmps.toList) (o : Oper) (ops : Array Oper) : Region.wanted o (yielded ops tmps) = wantedA o ops.toList s := by
  unfold Region.wanted wantedA yielded
  cases hg : o.guard with
  | none => rfl
  | some jw =>
    obtain ⟨j, want⟩ := jw
    simp only [Array.getElem?_toList]
    cases hj : ops[j]? with
    | none => rfl
    | some g =>
      simp only [Option.bind_some]
      cases hd : g.dst with
      | none => rfl
      | some d =>
        simp only [Option.bind_some]
        cases hsd : s[d]? with
        | none =>
          have : tmps.toList[d]? = none := by
            rw [List.getElem?_eq_none_iff, hs.len]; exact List.getElem?_eq_none_iff.1 hsd
          have ht : tmps[d]? = none := by simpa using this
          rw [ht]; rfl
        | some a =>
          obtain ⟨v, e1, e2⟩ := hs.get hsd
          have e1' : tmps[d]? = some v := by simpa using e1
          rw [e1']
          by_cases hb : ∃ b, a = .bool b
          · obtain ⟨b, rfl⟩ := hb
            have := (e2.is_bool b).2 rfl; subst this
            cases b <;> cases want <;> rfl
          · have hv : ∀ b, v ≠ .bool b := fun b hv => hb ⟨b, (e2.is_bool b).1 hv⟩
            cases v <;> first
              | exact absurd rfl (hv _)
              | (cases a <;> first
                  | exact absurd ⟨_, rfl⟩ hb
                  | rfl)

theorem put_rel {s : List AV} {act : Act} (hs : VRs μ s act.tmps.toList) (d : Option Nat) {a : AV} {v : Value} (hv : VR μ a v) : VRs μ (putA s d a) (act.put d v).tmps.toList := by
  cases d with
  | none => exact hs
  | some d => simpa [putA, Act.put] using hs.set d hv

def DRel (μ : Mu) : List Nat → List Deferred → Prop
  | [], l => l = []
  | m :: ms, l => ∃ L ds, μ m = some L ∧ DRel μ ms ds ∧ l = { target := .collected L.blk, args := #[] } :: ds

theorem DRel.mono {μ ν : Mu} (hm : μ.le ν) : ∀ {ms : List Nat} {ds : List Deferred}, DRel μ ms ds → DRel ν ms ds
  | [], ds, k => k
  | m :: ms, ds, k => by
    obtain ⟨L, ds', h1, h2, h3⟩ := k
    exact ⟨L, ds', hm _ _ h1, DRel.mono hm h2, h3⟩

def RoRel (μ : Mu) (ro : Option Nat) (cro : Option Nat) : Prop :=
  match ro with
  | none => cro = none
  | some l => ∃ L, μ l = some L ∧ cro = some L.blk

theorem RoRel.mono {μ ν : Mu} (hm : μ.le ν) {ro cro : Option Nat} (k : RoRel μ ro cro) : RoRel ν ro cro := by
  cases ro with
  | none => exact k
  | some l => obtain ⟨L, h1, h2⟩ := k; exact ⟨L, hm _ _ h1, h2⟩

/-- Where a piece of code leaves an activation. -/
def Lands (P : Program) (b : Frame) (k : List Item) (cs : List Frame) (m : Machine) (act : Act) (w : World) : AE → Prop
  | .normal => Steps P m (lone (b.atR act k) cs w)
  | .exit id => (∀ k', exitTo id k = some k' → Steps P m (lone (b.atR act k') cs w)) ∧ (exitTo id k = none → ∃ todo, exitTo id todo = none ∧ Steps P m (lone (b.atR act (.code (.exit id) :: todo)) cs w))
  | .ret => ∃ todo, Steps P m (lone (b.atR act (.code .ret :: todo)) cs w)

theorem Lands.of_steps {b : Frame} {k : List Item} {cs : List Frame} {m m1 : Machine} {act : Act} {w : World} {e : AE} (hs : Steps P m m1) (hl : Lands P b k cs m1 act w e) : Lands P b k cs m act w e := by
  cases e with
  | normal => exact hs.trans hl
  | exit id => exact ⟨fun k' hk => hs.trans (hl.1 k' hk), fun hk => let ⟨t, h1, h2⟩ := hl.2 hk; ⟨t, h1, hs.trans h2⟩⟩
  | ret => obtain ⟨t, h1⟩ := hl; exact ⟨t, hs.trans h1⟩

/-- What stands ahead of the rest is passed by, where it is no block's end. -/
theorem Lands.pass {b : Frame} {x : Item} {k : List Item} {cs : List Frame} {m : Machine} {act : Act} {w : World} {e : AE} (hx : ∀ id, x ≠ .inBlock id) (he : e ≠ .normal) (hl : Lands P b (x :: k) cs m act w e) : Lands P b k cs m act w e := by
  cases e with
  | normal => exact absurd rfl he
  | exit id =>
    have hxk : exitTo id (x :: k) = exitTo id k := by cases x <;> first | rfl | exact absurd rfl (hx _)
    rw [Lands, hxk] at hl
    exact hl
  | ret => exact hl

/-! ### one operation -/
section ops
variable {b : Frame} {a : Act} {k : List Item} {cs : List Frame} {ops : Array Oper} {i : Nat} {rest : List Nat} {o : Oper}

theorem stepR_value {v : Value} {w' : World} (ho : ops[i]? = some o) (hw : Region.wanted o (yielded ops a.tmps) = true) (hd : ∀ c, o.op ≠ .defer c) (hr : (execOp a.eval o).run P w = .ok (.value v) w') :
    step P (lone (b.atR a (.inRegion ops (i :: rest) :: k)) cs w) = .next (lone (b.atR (a.put o.dst v) (.inRegion ops rest :: k)) cs w') := by
  have hg := stepGR_op (P := P) (b := b) (k := k) (cs := cs) (w := w) (rest := rest) ho hw
  rw [Oper.semAt_eq _ _ _ hd] at hg
  have hfin : (b.atR a (.inRegion ops (i :: rest) :: k)).finish v = b.atR (a.put o.dst v) (.inRegion ops rest :: k) := by
    rw [Frame.finish_atR, ho]; rfl
  refine step_lone_go ?_
  rw [hg, ← hfin]; simp [stepG.apply, hr]

theorem stepR_skipv {w' : World} (ho : ops[i]? = some o) (hw : Region.wanted o (yielded ops a.tmps) = true) (hd : ∀ c, o.op ≠ .defer c) (hr : (execOp a.eval o).run P w = .ok .skip w') :
    step P (lone (b.atR a (.inRegion ops (i :: rest) :: k)) cs w) = .next (lone (b.atR (a.put o.dst undef) (.inRegion ops rest :: k)) cs w') := by
  have hg := stepGR_op (P := P) (b := b) (k := k) (cs := cs) (w := w) (rest := rest) ho hw
  rw [Oper.semAt_eq _ _ _ hd] at hg
  have hfin : (b.atR a (.inRegion ops (i :: rest) :: k)).finish undef = b.atR (a.put o.dst undef) (.inRegion ops rest :: k) := by
    rw [Frame.finish_atR, ho]; rfl
  refine step_lone_go ?_
  rw [hg, ← hfin]; simp [stepG.apply, hr]

theorem stepR_enter {f : FuncId} {args : Array Value} {w' : World} (ho : ops[i]? = some o) (hw : Region.wanted o (yielded ops a.tmps) = true) (hd : ∀ c, o.op ≠ .defer c) (hr : (execOp a.eval o).run P w = .ok (.enter f args) w') :
    step P (lone (b.atR a (.inRegion ops (i :: rest) :: k)) cs w) = .next (lone (Frame.enter P f args .normal) (b.atR a (.inRegion ops (i :: rest) :: k) :: cs) w') := by
  have hg := stepGR_op (P := P) (b := b) (k := k) (cs := cs) (w := w) (rest := rest) ho hw
  rw [Oper.semAt_eq _ _ _ hd] at hg
  refine step_lone_go ?_
  rw [hg]; simp [stepG.apply, hr, Frame.atR]

theorem stepR_roundv {l : Nat} {f : FuncId} {tmps : Array Value} {assign body : Code} {w' : World} (ho : ops[i]? = some o) (hw : Region.wanted o (yielded ops a.tmps) = true) (hd : ∀ c, o.op ≠ .defer c)
    (hr : (execOp a.eval o).run P w = .ok (.round l f tmps assign body) w') :
    step P (lone (b.atR a (.inRegion ops (i :: rest) :: k)) cs w) = .next (lone (Frame.round l f tmps assign body .normal) (b.atR a (.inRegion ops (i :: rest) :: k) :: cs) w') := by
  have hg := stepGR_op (P := P) (b := b) (k := k) (cs := cs) (w := w) (rest := rest) ho hw
  rw [Oper.semAt_eq _ _ _ hd] at hg
  refine step_lone_go ?_
  rw [hg]; simp [stepG.apply, hr]

end ops

theorem opA_not_defer {ρ : Operand → Option AV} {op : Op} {x : AV × Heap} (e : opA T ρ op h = some x) : ∀ c, op ≠ .defer c := by
  intro c hc; subst hc; simp [opA] at e

theorem callFunc_run {f : Nat} {fn : Func} {args : Array Value} (h1 : P.funcs[f]? = some fn) (h2 : (fn.name == "runtime.NumGoroutine") = false) (h3 : fn.body.isNone = false) (w : World) :
    (callFunc f args).run P w = .ok (.enter f args) w := by
  simp only [callFunc, Sem.run_bind, run_program, Result.andThen_ok, h1, h2, h3]
  rfl

/-! ### functions that the model answers itself -/
theorem ext_next : Extern.allNextRows.lookup "internal/bytealg.IndexByteString" = none := by rfl
theorem ext_next0 : Extern.allNextRows.lookup "" = none := by rfl
theorem ext_generic : Extern.allGenericRows.lookup "internal/bytealg.IndexByteString" = none := by rfl
theorem ext_typed : Extern.allTypedRows.lookup "internal/bytealg.IndexByteString" = none := by rfl
theorem ext_plain : Extern.allRows.lookup "internal/bytealg.IndexByteString" = some Extern.BytealgIndexByte.indexByte := by rfl

theorem extern_run {f : Nat} {fn : Func} {args : List AV} {vargs : Array Value} {v : AV} (h1 : P.funcs[f]? = some fn) (h2 : (fn.name == "runtime.NumGoroutine") = false) (hr : VRs μ args vargs.toList) (e : externA fn args = some v) :
    ∃ vv, VR μ v vv ∧ ∀ w, (callFunc f vargs).run P w = .ok (.value vv) w := by
  unfold externA at e
  split at e
  · rename_i hc
    simp only [Bool.and_eq_true, beq_iff_eq] at hc
    obtain ⟨⟨c1, c2⟩, c3⟩ := hc
    split at e
    · rename_i s c
      simp only [Option.some.injEq] at e
      subst e
      simp only [VRs, VR] at hr
      obtain ⟨v1, l1, rfl, ⟨v2, l2, rfl, rfl, rfl⟩, hv⟩ := hr
      have hva : vargs = #[.string ⟨s.toArray⟩, .int .u8 c] := by
        apply Array.toList_inj.1; rw [hv]
      subst hva
      have hf1 : Extern.findNext fn = none := by simp [Extern.findNext, c2, c3, ext_next, ext_next0]
      have hf2 : Extern.find fn = some Extern.BytealgIndexByte.indexByte := by simp [Extern.find, c2, ext_generic, ext_typed, ext_plain]
      have hsz : (ByteArray.mk s.toArray).size = s.length := by simp [ByteArray.size]
      have hget : ∀ i, (ByteArray.mk s.toArray)[i]! = s.getD i 0 := fun i => by
        rw [List.getD_eq_getElem?_getD, getElem!_def]
        rcases Nat.lt_or_ge i s.length with hi | hi
        · rw [getElem?_pos _ _ (by rw [hsz]; exact hi), List.getElem?_eq_getElem hi]; rfl
        · rw [getElem?_neg _ _ (by rw [hsz]; omega), List.getElem?_eq_none hi]; rfl
      refine ⟨.int .i64 (match (List.range s.length).find? fun i => s.getD i 0 == c.toNat.toUInt8 with | some i => (i : Int) | none => -1), by simp only [VR]; cases (List.range s.length).find? fun i => s.getD i 0 == c.toNat.toUInt8 <;> rfl, fun w => ?_⟩
      have hx : (Extern.BytealgIndexByte.indexByte #[.string ⟨s.toArray⟩, .int .u8 c]).run P w = .ok (.int .i64 (match (List.range s.length).find? fun i => s.getD i 0 == c.toNat.toUInt8 with | some i => (i : Int) | none => -1)) w := by
        show (do
          let b ← Extern.Bytes.bytesOf (.string ⟨s.toArray⟩)
          let c ← Extern.Bytes.asByte (.int .u8 c)
          match (List.range b.size).find? fun i => b[i]! == c with
          | some i => pure (goInt i)
          | none => pure (goInt (-1)) : Sem Value).run P w = _
        simp only [Extern.Bytes.bytesOf, Extern.Bytes.asByte, Sem.run_bind, Sem.run_pure, Result.andThen_ok, hsz, hget]
        cases (List.range s.length).find? fun i => s.getD i 0 == c.toNat.toUInt8 <;> rfl
      simp only [callFunc, Sem.run_bind, run_program, Result.andThen_ok, h1, h2, c1, hf1, hf2, Bool.false_eq_true, if_false, if_true, Sem.run_pure, run_mark]
      rw [hx]
      rfl
    · simp at e
  · simp at e

/-! ### results -/
def resOf (tmps : Array Value) : ResultVar → Sem Value
  | .tmp t => pure (tmps.getD t undef)
  | .cell a t => do Go.loadVar t (← asAddr (tmps.getD a undef))

theorem results_eq (fn : Func) (tmps : Array Value) : results fn tmps = (do
    let vs ← fn.results.mapM (resOf tmps)
    pure (if h : vs.size = 1 then vs[0] else .tuple vs)) := by
  unfold results
  congr 1

theorem results_rel (hT : TypesOk P T) (S : Sim w0 μ h w) {s : List AV} {tmps : Array Value} (hs : VRs μ s tmps.toList) : ∀ {rs : List ResultVar} {l : List AV}, resultsA T h s rs = some l →
    ∃ vs : List Value, (rs.mapM (resOf tmps)).run P w = .ok vs w ∧ VRs μ l vs
  | [], l, e => by simp [resultsA] at e; subst e; exact ⟨[], by simp, by simp [VRs]⟩
  | .tmp t :: rs, l, e => by
    simp only [resultsA] at e
    split at e
    · rename_i m hm
      simp only [Option.some.injEq] at e; subst e
      obtain ⟨vs, r1, r2⟩ := results_rel hT S hs hm
      refine ⟨tmps.getD t undef :: vs, ?_, ?_⟩
      · rw [List.mapM_cons]
        simp only [Sem.run_bind, resOf, Sem.run_pure, Result.andThen_ok, r1]
      · simp only [VRs]
        exact ⟨_, _, by rw [getD_list]; exact hs.getD t, r2, rfl⟩
    · simp at e
  | .cell a t :: rs, l, e => by
    simp only [resultsA] at e
    split at e
    · rename_i bb oo ha
      split at e
      · rename_i v m hv hm
        simp only [Option.some.injEq] at e; subst e
        obtain ⟨vs, r1, r2⟩ := results_rel hT S hs hm
        have hp := hs.getD a
        rw [ha] at hp
        simp only [VR] at hp; obtain ⟨L, hL, hp⟩ := hp
        obtain ⟨u, q1, q2⟩ := run_loadVar (P := P) hT S hL hv
        refine ⟨u :: vs, ?_, by simp only [VRs]; exact ⟨_, _, q2, r2, rfl⟩⟩
        rw [List.mapM_cons]
        have hp' : tmps.getD a undef = .pointer (some ⟨L.blk, L.base + oo, none⟩) := by rw [getD_list]; exact hp
        simp only [Sem.run_bind, resOf, hp', asAddr, Sem.run_pure, Result.andThen_ok, q1, r1]
      · simp at e
    · simp at e

def packA : List AV → AV
  | [v] => v
  | l => .tup l

theorem results_run (hT : TypesOk P T) (S : Sim w0 μ h w) {fn : Func} {s : List AV} {tmps : Array Value} (hs : VRs μ s tmps.toList) {l : List AV} (e : resultsA T h s fn.results.toList = some l) :
    ∃ v, (results fn tmps).run P w = .ok v w ∧ VR μ (packA l) v := by
  obtain ⟨vs, r1, r2⟩ := results_rel (P := P) hT S hs e
  have hr : (results fn tmps).run P w = .ok (if h : vs.toArray.size = 1 then vs.toArray[0] else .tuple vs.toArray) w := by
    rw [results_eq]
    simp only [Array.mapM_eq_mapM_toList, Sem.run_bind, Sem.run_map, r1, Result.andThen_ok, Sem.run_pure]
  refine ⟨_, hr, ?_⟩
  have hlen := r2.len
  clear e r1 hr
  cases l with
  | nil =>
    have : vs = [] := List.length_eq_zero_iff.1 hlen
    subst this
    simp only [packA, VR]; exact ⟨_, by simp [VRs], rfl⟩
  | cons x l =>
    cases l with
    | nil =>
      simp only [VRs] at r2
      obtain ⟨v, _, hv, rfl, rfl⟩ := r2
      simpa [packA] using hv
    | cons y l =>
      have hsz : ¬ vs.toArray.size = 1 := by simp at hlen ⊢; omega
      rw [dif_neg hsz]
      simp only [packA, VR]; exact ⟨_, by simpa using r2, rfl⟩

end Go.Am
