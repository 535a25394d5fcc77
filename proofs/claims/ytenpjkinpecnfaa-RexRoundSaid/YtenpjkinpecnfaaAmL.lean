/-
  The abstract machine: each operation as a whole.
-/
import Derived.Test.YtenpjkinpecnfaaAmKm
namespace Go.Am
variable {P : Program} {T : TT} {w0 : Frz} {w : World} {μ : Mu} {h h' : Heap} {ρ : Operand → Option AV} {ρ' : Operand → Value}

def Rho (μ : Mu) (ρ : Operand → Option AV) (ρ' : Operand → Value) : Prop := ∀ x a, ρ x = some a → VR μ a (ρ' x)

theorem evalAll_rel (hρ : Rho μ ρ ρ') : ∀ {l : List Operand} {as : List AV}, evalAll ρ l = some as → VRs μ as (l.map ρ')
  | [], as, e => by simp [evalAll] at e; subst e; simp [VRs]
  | x :: l, as, e => by
    simp only [evalAll] at e
    split at e
    · rename_i v m h1 h2
      simp at e; subst e
      simp only [List.map_cons, VRs]
      exact ⟨_, _, hρ _ _ h1, evalAll_rel hρ h2, rfl⟩
    · simp at e

theorem evalParts_rel (hρ : Rho μ ρ ρ') : ∀ {l : List (Nat × Operand)} {as : List (Nat × AV)}, evalParts ρ l = some as → PRs μ as (l.map fun (i, x) => (i, ρ' x))
  | [], as, e => by simp [evalParts] at e; subst e; simp [PRs]
  | (i, x) :: l, as, e => by
    simp only [evalParts] at e
    split at e
    · rename_i v m h1 h2
      simp at e; subst e
      simp only [List.map_cons, PRs]
      exact ⟨_, _, hρ _ _ h1, evalParts_rel hρ h2, rfl⟩
    · simp at e

theorem evalOpt_rel (hρ : Rho μ ρ ρ') {x : Option Operand} {a : Option AV} (e : evalOpt ρ x = some a) : (∀ y, a = some y → ∃ v, x.map ρ' = some v ∧ VR μ y v) ∧ (a = none → x.map ρ' = none) := by
  cases x with
  | none => simp [evalOpt] at e; subst e; simp
  | some x =>
    simp only [evalOpt] at e
    split at e
    · rename_i v hv
      simp at e; subst e
      exact ⟨fun y hy => by simp at hy; subst hy; exact ⟨_, rfl, hρ _ _ hv⟩, by simp⟩
    · simp at e

/-- What an operation comes to, as the machine has it. -/
def NextTo (P : Program) (w0 : Frz) (μ : Mu) (w : World) (s : Sem Next) (a : AV) (h' : Heap) : Prop :=
  ∃ μ' w' r, s.run P w = .ok r w' ∧ μ.le μ' ∧ Sim w0 μ' h' w' ∧ ((∃ v, r = .value v ∧ VR μ' a v) ∨ (r = .skip ∧ a = undefA))

theorem OpTo.next {s : Sem Value} {a : AV} (k : OpTo P w0 μ w s a h') : NextTo P w0 μ w (do pure (.value (← s))) a h' := by
  obtain ⟨μ', w', v, e, h1, h2, h3⟩ := k
  exact ⟨μ', w', .value v, by simp [e], h1, h2, .inl ⟨v, rfl, h3⟩⟩

theorem NextTo.pure {v : Value} {a : AV} (S : Sim w0 μ h w) (hv : VR μ a v) : NextTo P w0 μ w (pure (.value v)) a h :=
  ⟨μ, w, .value v, rfl, Mu.le_refl _, S, .inl ⟨v, rfl, hv⟩⟩

theorem builtin_sim (hT : TypesOk P T) (S : Sim w0 μ h w) (hρ : Rho μ ρ ρ') {b : Builtin} {args : Array Operand} {ts : Array TypeId} {ty : TypeId} {l : List AV} {a : AV} (hl : evalAll ρ args.toList = some l)
    (e : builtinA T b ts.toList l h = some (a, h')) : NextTo P w0 μ w (do let d ← resolve ρ' { callee := .builtin b, args, argTypes := ts } ty; invoke d.target d.args) a h' := by
  have hrel := evalAll_rel hρ hl
  obtain ⟨args⟩ := args
  obtain ⟨ts⟩ := ts
  simp only [resolve] at *
  unfold builtinA at e
  split at e
  · rename_i t u rest s x
    simp only [VRs] at hrel
    obtain ⟨vs, _, hs, ⟨vx, _, hx, rfl, rfl⟩, hm⟩ := hrel
    split at e
    · rename_i ui hui
      obtain ⟨du, hu, hk⟩ := (hT _ _ hui).under
      split at e
      · rename_i k0 hki
        rw [hki] at hk; have hd := TK.of_int hk.symm; subst hd
        have := appendZ_run (P := P) (ty := ty) hT S hs hx hu e
        obtain ⟨μ', w', v, r1, r2, r3, r4⟩ := this
        refine ⟨μ', w', .value v, ?_, r2, r3, .inl ⟨v, rfl, r4⟩⟩
        have hm' : (List.map ρ' args).toArray = #[vs, vx] := by rw [hm]
        simp only [invoke, builtin, List.map_toArray, hm', Sem.run_bind, Sem.run_pure, Result.andThen_ok]
        have hsame : Builtin.append_ (t :: u :: rest).toArray ty #[vs, vx] = Builtin.append_ #[t, u] ty #[vs, vx] := by
          unfold Builtin.append_; simp
        rw [hsame, r1]; rfl
      · rename_i hni
        have := append_run (P := P) (ty := ty) hT S hs hx hu (fun k hk' => by subst hk'; simp [TK.of] at hk; exact hni _ hk) e
        obtain ⟨μ', w', v, r1, r2, r3, r4⟩ := this
        refine ⟨μ', w', .value v, ?_, r2, r3, .inl ⟨v, rfl, r4⟩⟩
        have hm' : (List.map ρ' args).toArray = #[vs, vx] := by rw [hm]
        simp only [invoke, builtin, List.map_toArray, hm', Sem.run_bind, Sem.run_pure, Result.andThen_ok]
        have hsame : Builtin.append_ (t :: u :: rest).toArray ty #[vs, vx] = Builtin.append_ #[t, u] ty #[vs, vx] := by
          unfold Builtin.append_; simp
        rw [hsame, r1]; rfl
    · simp at e
  · rename_i t rest d x
    simp only [VRs] at hrel
    obtain ⟨vs, _, hs, ⟨vx, _, hx, rfl, rfl⟩, hm⟩ := hrel
    have := copy_run (P := P) (u := 0) (ty := ty) hT S hs hx e
    obtain ⟨μ', w', v, r1, r2, r3, r4⟩ := this
    refine ⟨μ', w', .value v, ?_, r2, r3, .inl ⟨v, rfl, r4⟩⟩
    have hm' : (List.map ρ' args).toArray = #[vs, vx] := by rw [hm]
    simp only [invoke, builtin, List.map_toArray, hm', Sem.run_bind, Sem.run_pure, Result.andThen_ok]
    have hsame : Builtin.copy_ (t :: rest).toArray ty #[vs, vx] = Builtin.copy_ #[t, 0] ty #[vs, vx] := by
      unfold Builtin.copy_; simp
    rw [hsame, r1]; rfl
  · rename_i t rest a0 n c sz
    simp only [VRs] at hrel
    obtain ⟨vx, _, hx, rfl, hm⟩ := hrel
    split at e
    · rename_i ti hti
      split at e
      · rename_i el hk
        simp only [Option.some.injEq, Prod.mk.injEq] at e; obtain ⟨rfl, rfl⟩ := e
        have r1 := cap_run (P := P) (w := w) (ty := ty) (rest := rest) hT hx hti hk
        refine ⟨μ, w, .value (.int .i64 c), ?_, Mu.le_refl _, S, .inl ⟨_, rfl, by simp [VR]⟩⟩
        have hm' : (List.map ρ' args).toArray = #[vx] := by rw [hm]
        simp only [invoke, builtin, List.map_toArray, hm', Sem.run_bind, Sem.run_pure, Result.andThen_ok, r1]
      · simp at e
    · simp at e
  · rename_i t rest x
    simp only [VRs] at hrel
    obtain ⟨vx, _, hx, rfl, hm⟩ := hrel
    split at e
    · rename_i v hv
      simp at e; obtain ⟨rfl, rfl⟩ := e
      obtain ⟨u, r1, r2⟩ := len_run (P := P) (ty := ty) (rest := rest) hT S hx hv
      refine ⟨μ, w, .value u, ?_, Mu.le_refl _, S, .inl ⟨u, rfl, r2 _⟩⟩
      have hm' : (List.map ρ' args).toArray = #[vx] := by rw [hm]
      simp only [invoke, builtin, List.map_toArray, hm', Sem.run_bind, Sem.run_pure, Result.andThen_ok, r1]
    · simp at e
  · rename_i x l
    simp only [VRs] at hrel
    obtain ⟨vx, vl, hx, hvl, hm⟩ := hrel
    split at e
    · rename_i v hv
      simp at e; obtain ⟨rfl, rfl⟩ := e
      obtain ⟨u, r1, r2⟩ := min_run (P := P) (w := w) hx hvl hv
      refine ⟨μ, w, .value u, ?_, Mu.le_refl _, S, .inl ⟨u, rfl, r2⟩⟩
      have hm' : (List.map ρ' args).toArray = (vx :: vl).toArray := by rw [hm]
      simp only [invoke, builtin, List.map_toArray, hm', Sem.run_bind, Sem.run_pure, Result.andThen_ok, Builtin.min_, r1]
    · simp at e
  · rename_i x l
    simp only [VRs] at hrel
    obtain ⟨vx, vl, hx, hvl, hm⟩ := hrel
    split at e
    · rename_i v hv
      simp at e; obtain ⟨rfl, rfl⟩ := e
      obtain ⟨u, r1, r2⟩ := max_run (P := P) (w := w) hx hvl hv
      refine ⟨μ, w, .value u, ?_, Mu.le_refl _, S, .inl ⟨u, rfl, r2⟩⟩
      have hm' : (List.map ρ' args).toArray = (vx :: vl).toArray := by rw [hm]
      simp only [invoke, builtin, List.map_toArray, hm', Sem.run_bind, Sem.run_pure, Result.andThen_ok, Builtin.max_, r1]
    · simp at e
  · simp at e

theorem field_place {f : Field} (hs : P.cellsOf f.type ≠ 0) (hi : (P.info? f.type).isSome = true) (b o : Nat) (w : World) : (fieldPlace ⟨b, o, none⟩ f).run P w = .ok ⟨b, o + f.offset, none⟩ w := by
  obtain ⟨i, hi⟩ := Option.isSome_iff_exists.1 hi
  have : i.size ≠ 0 := by simpa [Program.cellsOf, hi] using hs
  simp [fieldPlace, sizeOf, run_info hi, this, add_flat]

set_option maxHeartbeats 4000000 in
theorem op_sim (hT : TypesOk P T) (S : Sim w0 μ h w) (hρ : Rho μ ρ ρ') (o : Oper) {a : AV} (e : opA T ρ o.op h = some (a, h')) : NextTo P w0 μ w (execOp ρ' o) a h' := by
  obtain ⟨dst, op, type, pos, after, guard⟩ := o
  simp only at e
  cases op with
  | move x =>
    simp only [opA] at e
    split at e
    · rename_i v hv; simp at e; obtain ⟨rfl, rfl⟩ := e; exact NextTo.pure S (hρ _ _ hv)
    · simp at e
  | assign x =>
    simp only [opA] at e
    split at e
    · rename_i v hv; simp at e; obtain ⟨rfl, rfl⟩ := e; exact NextTo.pure S (hρ _ _ hv)
    · simp at e
  | pick c x y =>
    simp only [opA] at e
    split at e
    · rename_i hc
      have := hρ _ _ hc; simp only [VR] at this
      split at e
      · rename_i v hv; simp at e; obtain ⟨rfl, rfl⟩ := e
        exact ⟨μ, w, .value (ρ' x), by simp [execOp, this, asBool], Mu.le_refl _, S, .inl ⟨_, rfl, hρ _ _ hv⟩⟩
      · simp at e
    · rename_i hc
      have := hρ _ _ hc; simp only [VR] at this
      split at e
      · rename_i v hv; simp at e; obtain ⟨rfl, rfl⟩ := e
        exact ⟨μ, w, .value (ρ' y), by simp [execOp, this, asBool], Mu.le_refl _, S, .inl ⟨_, rfl, hρ _ _ hv⟩⟩
      · simp at e
    · simp at e
  | alloc t =>
    simp only [opA] at e
    split at e
    · rename_i ti ht; simp at e; obtain ⟨rfl, rfl⟩ := e; exact (alloc_run hT S ht).next
    · simp at e
  | box t x =>
    simp only [opA] at e
    split at e
    · rename_i v hv
      split at e
      · simp at e; obtain ⟨rfl, rfl⟩ := e; exact (box_run S (hρ _ _ hv)).next
      · simp at e
    · simp at e
  | build t ps =>
    simp only [opA] at e
    split at e
    · rename_i l hl
      split at e
      · rename_i v hv
        simp at e; obtain ⟨rfl, rfl⟩ := e
        have hp := evalParts_rel hρ hl
        obtain ⟨u, r1, r2⟩ := build_run (P := P) hT (qs := ps.map fun (i, x) => (i, ρ' x)) (by simpa using hp) hv
        exact (OpTo.plain S (r1 w) r2).next
      · simp at e
    · simp at e
  | buildSlice t n ps =>
    simp only [opA] at e
    split at e
    · rename_i l hl
      have hp := evalParts_rel hρ hl
      exact (buildSlice_run hT S (qs := ps.map fun (i, x) => (i, ρ' x)) (by simpa using hp) e).next
    · simp at e
  | load t x =>
    simp only [opA] at e
    split at e
    · rename_i b o hx
      split at e
      · rename_i v hv
        simp at e; obtain ⟨rfl, rfl⟩ := e
        have := hρ _ _ hx; simp only [VR] at this; obtain ⟨L, hL, hp⟩ := this
        obtain ⟨u, r1, r2⟩ := run_loadVar (P := P) hT S hL hv
        refine (OpTo.plain S (s := Instr.loadAt t (ρ' x)) ?_ r2).next
        simp [Instr.loadAt, Instr.sureAddr, hp, r1]
      · simp at e
    · simp at e
  | store t x y =>
    simp only [opA] at e
    split at e
    · rename_i b o v hx hy
      split at e
      · rename_i h1 hst
        simp at e; obtain ⟨rfl, rfl⟩ := e
        have := hρ _ _ hx; simp only [VR] at this; obtain ⟨L, hL, hp⟩ := this
        obtain ⟨w', r1, r2⟩ := run_storeVar (P := P) hT S hL (hρ _ _ hy) hst
        exact ⟨μ, w', .skip, by simp [execOp, Instr.storeAt, Instr.sureAddr, hp, r1], Mu.le_refl _, r2, .inr ⟨rfl, rfl⟩⟩
      · simp at e
    · simp at e
  | nilCheck x =>
    simp only [opA] at e
    split at e
    · rename_i p hx
      simp at e; obtain ⟨rfl, rfl⟩ := e
      have hv := hρ _ _ hx
      have hv' := hv
      obtain ⟨b, o⟩ := p
      simp only [VR] at hv; obtain ⟨L, hL, hp⟩ := hv
      refine ⟨μ, w, .value (ρ' x), ?_, Mu.le_refl _, S, .inl ⟨_, rfl, hv'⟩⟩
      simp [execOp, hp]
    · rename_i f c hx
      simp at e; obtain ⟨rfl, rfl⟩ := e
      have hv := hρ _ _ hx
      have hv' := hv
      refine ⟨μ, w, .value (ρ' x), ?_, Mu.le_refl _, S, .inl ⟨_, rfl, hv'⟩⟩
      cases f with
      | func f => simp only [VR] at hv; obtain ⟨_, _, hp⟩ := hv; simp [execOp, hp]
      | yield l => simp only [VR] at hv; obtain ⟨_, _, _, hp⟩ := hv; simp [execOp, hp]
      | method _ => simp [VR] at hv
      | methodOf _ _ => simp [VR] at hv
      | via _ _ _ _ => simp [VR] at hv
    · simp at e
  | binOp bop t x y yt =>
    simp only [opA] at e
    split at e
    · rename_i a1 b1 hx hy
      split at e
      · rename_i v hv
        simp at e; obtain ⟨rfl, rfl⟩ := e
        obtain ⟨r1, r2⟩ := binOp_run (P := P) hT hv (hρ _ _ hx) (hρ _ _ hy) x y
        exact (OpTo.plain S (s := do eqGuard bop t x y (ρ' x) (ρ' y); binOp bop t (ρ' x) (ρ' y)) (r1 w) (r2 μ)).next
      · simp at e
    · simp at e
  | unOp uop t x =>
    simp only [opA] at e
    split at e
    · rename_i a1 hx
      split at e
      · rename_i v hv
        simp at e; obtain ⟨rfl, rfl⟩ := e
        obtain ⟨r1, r2⟩ := unOp_run (P := P) hv (hρ _ _ hx)
        exact (OpTo.plain S (r1 w) (r2 μ)).next
      · simp at e
    · simp at e
  | convert s d x =>
    simp only [opA] at e
    split at e
    · rename_i a1 hx
      exact (conv_run hT S (hρ _ _ hx) e).next
    · simp at e
  | makeInterface t x =>
    simp only [opA] at e
    split at e
    · rename_i ti v ht hx
      split at e
      · simp at e
      · rename_i hni
        simp at e; obtain ⟨rfl, rfl⟩ := e
        obtain ⟨d, hu, hk⟩ := (hT _ _ ht).under
        refine (OpTo.plain S (s := Instr.makeInterface t (ρ' x)) (v := .iface t (ρ' x)) ?_ (by simp only [VR]; exact ⟨_, hρ _ _ hx, rfl⟩)).next
        simp only [Instr.makeInterface, Sem.run_bind, run_under hu, Result.andThen_ok]
        cases d <;> first
          | rfl
          | (exfalso; apply hni; rw [hk]; rfl)
    · simp at e
  | makeFunc fn first cap =>
    simp only [opA] at e
    split at e
    · rename_i f
      split at e
      · rename_i hf
        split at e
        · rename_i l hl
          simp at e; obtain ⟨rfl, rfl⟩ := e
          have hr := evalAll_rel hρ hl
          refine (OpTo.plain S (s := Instr.makeFunc (.func f) (first.map ρ') (cap.map ρ')) (v := .func (.func f) #[] (cap.map ρ')) ?_ (by simp only [VR]; exact ⟨_, by simpa using hr, rfl⟩)).next
          have : first = #[] := Array.size_eq_zero_iff.1 hf
          simp [Instr.makeFunc, this]
        · simp at e
      · simp at e
    · simp at e
  | makeSlice t l c =>
    simp only [opA] at e
    split at e
    · rename_i a1 b1 hl hc
      exact (makeSlice_run hT S (hρ _ _ hl) (hρ _ _ hc) e).next
    · simp at e
  | slice t x lo hi mx =>
    simp only [opA] at e
    split at e
    · rename_i v l g m hx h1 h2 h3
      split at e
      · rename_i r hr
        simp at e; obtain ⟨rfl, rfl⟩ := e
        obtain ⟨p1, p2⟩ := evalOpt_rel hρ h1
        obtain ⟨q1, q2⟩ := evalOpt_rel hρ h2
        obtain ⟨s1, s2⟩ := evalOpt_rel hρ h3
        obtain ⟨u, r1, r2⟩ := slice_run (P := P) hT (hρ _ _ hx) p1 p2 q1 q2 s1 s2 hr
        exact (OpTo.plain S (r1 w) r2).next
      · simp at e
    · simp at e
  | fieldAddr t x f =>
    simp only [opA] at e
    split at e
    · rename_i ti b o ht hx
      split at e
      · rename_i fs hk'
        split at e
        · rename_i bl ft off hfs
          split at e
          · rename_i fi hfi
            split at e
            · simp at e
            · rename_i hsz
              simp at e; obtain ⟨rfl, rfl⟩ := e
              have k := hT _ _ ht
              obtain ⟨d, hu, hk⟩ := k.under
              rw [hk'] at hk; obtain ⟨gs, hd, hgs⟩ := TK.of_strct hk.symm; subst hd
              have := hρ _ _ hx; simp only [VR] at this; obtain ⟨L, hL, hp⟩ := this
              subst hgs
              simp only [List.getElem?_map] at hfs
              cases hg : gs.toList[f]? with
              | none => rw [hg] at hfs; simp at hfs
              | some g =>
                rw [hg] at hfs; simp at hfs; obtain ⟨_, rfl, rfl⟩ := hfs
                have hmem : g ∈ gs.toList := List.mem_of_getElem? hg
                obtain ⟨j, j1, j2, _⟩ := (hT _ _ hfi).info
                have hcs : P.cellsOf g.type ≠ 0 := by simp [Program.cellsOf, j1, j2]; exact hsz
                have hg' : gs[f]? = some g := by simpa using hg
                refine (OpTo.plain S (s := Instr.fieldAt t (ρ' x) f) (v := .pointer (some ⟨L.blk, L.base + o + g.offset, none⟩)) ?_ (by simp only [VR]; exact ⟨L, hL, by rw [Nat.add_assoc]⟩)).next
                simp [Instr.fieldAt, run_under hu, hg', Instr.sureAddr, hp, field_place hcs (k.fields gs hu g hmem)]
          · simp at e
        · simp at e
      · simp at e
    · simp at e
  | field t x f =>
    simp only [opA] at e
    split at e
    · rename_i ti cs ht hx
      split at e
      · rename_i fs hk'
        split at e
        · rename_i bl ft off hfs
          split at e
          · rename_i v hv
            simp at e; obtain ⟨rfl, rfl⟩ := e
            have k := hT _ _ ht
            obtain ⟨d, hu, hk⟩ := k.under
            rw [hk'] at hk; obtain ⟨gs, hd, hgs⟩ := TK.of_strct hk.symm; subst hd
            have := hρ _ _ hx; simp only [VR] at this; obtain ⟨ds, hds, hp⟩ := this
            subst hgs
            simp only [List.getElem?_map] at hfs
            cases hg : gs.toList[f]? with
            | none => rw [hg] at hfs; simp at hfs
            | some g =>
              rw [hg] at hfs; simp at hfs; obtain ⟨_, rfl, rfl⟩ := hfs
              have hg' : gs[f]? = some g := by simpa using hg
              obtain ⟨u, r1, r2⟩ := run_part (P := P) hT hds hv
              refine (OpTo.plain S (s := Instr.field t (ρ' x) f) ?_ r2).next
              simp [Instr.field, run_under hu, hg', asAgg, hp, r1]
          · simp at e
        · simp at e
      · simp at e
    · simp at e
  | indexAddr t x ix =>
    simp only [opA] at e
    split at e
    · rename_i ti v k i ht hx hix
      have hi := hρ _ _ hix; simp only [VR] at hi
      obtain ⟨d, hu, hk⟩ := (hT _ _ ht).under
      split at e
      · rename_i el b o n cap sz hk'
        rw [hk'] at hk; have hd := TK.of_slc hk.symm; subst hd
        split at e
        · rename_i te hte
          split at e
          · rename_i hb
            simp at e; obtain ⟨rfl, rfl⟩ := e
            have := hρ _ _ hx; simp only [VR] at this
            obtain ⟨L, off, c, hL, hp, hnc, hrm, hbase, hcp, hoff⟩ := this
            have hoff' : off = L.base + o := by
              rcases hoff with ⟨h0, _⟩ | h1
              · omega
              · exact h1
            subst hoff'
            refine (OpTo.plain S (s := Instr.indexAt t (ρ' x) (ρ' ix)) (v := .pointer (some ⟨L.blk, L.base + o + i.toNat * te.size, none⟩)) ?_ (by simp only [VR]; exact ⟨L, hL, by rw [Nat.add_assoc]⟩)).next
            simp [Instr.indexAt, asIntOf, hi, run_under hu, hp, hb.1, hb.2.1, (hT _ _ hte).size, add_flat]
          · simp at e
        · simp at e
      · rename_i n el b o hk'
        rw [hk'] at hk; have hd := TK.of_arr hk.symm; subst hd
        split at e
        · rename_i te hte
          split at e
          · rename_i hb
            simp at e; obtain ⟨rfl, rfl⟩ := e
            have := hρ _ _ hx; simp only [VR] at this
            obtain ⟨L, hL, hp⟩ := this
            refine (OpTo.plain S (s := Instr.indexAt t (ρ' x) (ρ' ix)) (v := .pointer (some ⟨L.blk, L.base + o + i.toNat * te.size, none⟩)) ?_ (by simp only [VR]; exact ⟨L, hL, by rw [Nat.add_assoc]⟩)).next
            simp [Instr.indexAt, asIntOf, hi, run_under hu, hp, hb.1, hb.2, (hT _ _ hte).size, add_flat, Instr.sureAddr]
          · simp at e
        · simp at e
      · simp at e
    · simp at e
  | index t x ix =>
    simp only [opA] at e
    split at e
    · rename_i ti v k i ht hx hix
      have hi := hρ _ _ hix; simp only [VR] at hi
      obtain ⟨d, hu, hk⟩ := (hT _ _ ht).under
      split at e
      · rename_i n el cs hk'
        rw [hk'] at hk; have hd := TK.of_arr hk.symm; subst hd
        split at e
        · rename_i te hte
          split at e
          · rename_i hb
            split at e
            · rename_i v hv
              simp at e; obtain ⟨rfl, rfl⟩ := e
              have := hρ _ _ hx; simp only [VR] at this; obtain ⟨ds, hds, hp⟩ := this
              obtain ⟨u, r1, r2⟩ := run_part (P := P) hT hds hv
              refine (OpTo.plain S (s := Instr.index t (ρ' x) (ρ' ix)) ?_ r2).next
              simp [Instr.index, asIntOf, hi, run_under hu, hp, hb.1, hb.2, (hT _ _ hte).size, r1]
            · simp at e
          · simp at e
        · simp at e
      · rename_i s hk'
        rw [hk'] at hk; have hd := TK.of_str hk.symm; subst hd
        split at e
        · rename_i hb
          split at e
          · rename_i c hc
            simp at e; obtain ⟨rfl, rfl⟩ := e
            have := hρ _ _ hx; simp only [VR] at this
            refine (OpTo.plain S (s := Instr.index t (ρ' x) (ρ' ix)) (v := .int .u8 c.toNat) ?_ (by simp [VR])).next
            have hg : (⟨s.toArray⟩ : ByteArray)[i.toNat]? = some c := by
              have hlt := (List.getElem?_eq_some_iff.1 hc).1
              rw [getElem?_pos _ _ (by simpa [ByteArray.size] using hlt)]
              have := (List.getElem?_eq_some_iff.1 hc).2
              simp only [ByteArray.getElem_eq_getElem_data, List.getElem_toArray]
              rw [this]
            simp [Instr.index, asIntOf, hi, run_under hu, this, hb, hg]
          · simp at e
        · simp at e
      · simp at e
    · simp at e
  | makeMap t r =>
    simp only [opA] at e
    split at e
    · rename_i ti r' ht hr
      obtain ⟨p1, p2⟩ := evalOpt_rel hρ hr
      obtain ⟨d, hu, hk⟩ := (hT _ _ ht).under
      split at e
      · rename_i kt et hk'
        rw [hk'] at hk; have hd := TK.of_map hk.symm; subst hd
        simp only [Option.some.injEq, Prod.mk.injEq] at e; obtain ⟨rfl, rfl⟩ := e
        exact (makeMap_run S (t := t) (r := r.map ρ') (fun v hv => by rw [p2 rfl] at hv; cases hv)).next
      · rename_i kt et k n hk'
        rw [hk'] at hk; have hd := TK.of_map hk.symm; subst hd
        simp only [Option.some.injEq, Prod.mk.injEq] at e; obtain ⟨rfl, rfl⟩ := e
        obtain ⟨v, q1, q2⟩ := p1 _ rfl
        exact (makeMap_run S (t := t) (r := r.map ρ') (fun v' hv => by
          rw [q1] at hv; simp only [Option.some.injEq] at hv; subst hv
          simp only [VR] at q2
          exact ⟨⟨_, _, q2⟩, _, _, hu⟩)).next
      · simp at e
    · simp at e
  | lookup t x k ok =>
    simp only [opA] at e
    split at e
    · rename_i a1 b1 hx hk
      split at e
      · rename_i v hv
        simp only [Option.some.injEq, Prod.mk.injEq] at e; obtain ⟨rfl, rfl⟩ := e
        obtain ⟨u, r1, r2⟩ := lookup_run (P := P) hT S (hρ _ _ hx) (hρ _ _ hk) hv
        exact (OpTo.plain S r1 r2).next
      · simp at e
    · simp at e
  | mapUpdate t m k x =>
    simp only [opA] at e
    split at e
    · rename_i a1 b1 c1 hm hk hx
      split at e
      · rename_i h1 hv
        simp only [Option.some.injEq, Prod.mk.injEq] at e; obtain ⟨rfl, rfl⟩ := e
        obtain ⟨w', r1, r2⟩ := mapUpdate_run (P := P) hT S (hρ _ _ hm) (hρ _ _ hk) (hρ _ _ hx) hv
        exact ⟨μ, w', .skip, by simp [execOp, r1], Mu.le_refl _, r2, .inr ⟨rfl, rfl⟩⟩
      · simp at e
    · simp at e
  | extract x i =>
    simp only [opA] at e
    split at e
    · rename_i vs hx
      split at e
      · rename_i v hv
        simp at e; obtain ⟨rfl, rfl⟩ := e
        have := hρ _ _ hx; simp only [VR] at this; obtain ⟨ds, hds, hp⟩ := this
        obtain ⟨u, r1, r2⟩ := hds.get hv
        refine (OpTo.plain S (s := Instr.extract (ρ' x) i) (v := u) ?_ r2).next
        have : ds[i]? = some u := by simpa using r1
        simp [Instr.extract, hp, this]
      · simp at e
    · simp at e
  | call c =>
    obtain ⟨callee, args, ts⟩ := c
    simp only [opA] at e
    split at e
    · split at e
      · rename_i l hl
        exact builtin_sim hT S hρ hl e
      · simp at e
    · simp at e
  | _ => simp [opA] at e

end Go.Am
