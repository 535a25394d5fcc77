import Derived.Test.YtaockkmmjinhpaaAmKm
import Derived.RangeFuncIn
/-
  The abstract machine: each operation as a whole.
-/
namespace Go.Am
variable {P : Program} {T : TT} {w0 : Frz} {w : World} {μ : Mu} {h h' : Heap} {ρ : Operand → Option AV} {ρ' : Operand → Value}

def Rho (μ : Mu) (ρ : Operand → Option AV) (ρ' : Operand → Value) : Prop := ∀ x a, ρ x = some a → VR μ a (ρ' x)

theorem evalAll_rel (hρ : Rho μ ρ ρ') : ∀ {l : List Operand} {as : List AV}, evalAll ρ l = some as → VRs μ as (l.map ρ')
  | [], as, e => by simp [evalAll] at e; subst e; simp [VRs]
  | x :: l, as, e => by
    simp only [evalAll] at e
    split at e
    · rename_i v m h1 h2
      simp at e; subst e
      simp only [List.map_cons, VRs]
      exact ⟨_, _, hρ _ _ h1, evalAll_rel hρ h2, rfl⟩
    · simp at e

theorem evalParts_rel (hρ : Rho μ ρ ρ') : ∀ {l : List (Nat × Operand)} {as : List (Nat × AV)}, evalParts ρ l = some as → PRs μ as (l.map fun (i, x) => (i, ρ' x))
  | [], as, e => by simp [evalParts] at e; subst e; simp [PRs]
  | (i, x) :: l, as, e => by
    simp only [evalParts] at e
    split at e
    · rename_i v m h1 h2
      simp at e; subst e
      simp only [List.map_cons, PRs]
      exact ⟨_, _, hρ _ _ h1, evalParts_rel hρ h2, rfl⟩
    · simp at e

theorem evalOpt_rel (hρ : Rho μ ρ ρ') {x : Option Operand} {a : Option AV} (e : evalOpt ρ x = some a) : (∀ y, a = some y → ∃ v, x.map ρ' = some v ∧ VR μ y v) ∧ (a = none → x.map ρ' = none) := by
  cases x with
  | none => simp [evalOpt] at e; subst e; simp
  | some x =>
    simp only [evalOpt] at e
    split at e
    · rename_i v hv
      simp at e; subst e
      exact ⟨fun y hy => by simp at hy; subst hy; exact ⟨_, rfl, hρ _ _ hv⟩, by simp⟩
    · simp at e

/-- What an operation comes to, as the machine has it. -/
def NextTo (P : Program) (w0 : Frz) (μ : Mu) (w : World) (s : Sem Next) (a : AV) (h' : Heap) : Prop :=
  ∃ μ' w' r, s.run P w = .ok r w' ∧ μ.le μ' ∧ Sim w0 μ' h' w' ∧ ((∃ v, r = .value v ∧ VR μ' a v) ∨ (r = .skip ∧ a = undefA))

theorem OpTo.next {s : Sem Value} {a : AV} (k : OpTo P w0 μ w s a h') : NextTo P w0 μ w (do pure (.value (← s))) a h' := by
  obtain ⟨μ', w', v, e, h1, h2, h3⟩ := k
  exact ⟨μ', w', .value v, by simp [e], h1, h2, .inl ⟨v, rfl, h3⟩⟩

theorem NextTo.pure {v : Value} {a : AV} (S : Sim w0 μ h w) (hv : VR μ a v) : NextTo P w0 μ w (pure (.value v)) a h :=
  ⟨μ, w, .value v, rfl, Mu.le_refl _, S, .inl ⟨v, rfl, hv⟩⟩

theorem builtin_sim (hT : TypesOk P T) (S : Sim w0 μ h w) (hρ : Rho μ ρ ρ') {b : Builtin} {args : Array Operand} {ts : Array TypeId} {ty : TypeId} {l : List AV} {a : AV} (hl : evalAll ρ args.toList = some l)
    (e : builtinA T b ts.toList l h = some (a, h')) : NextTo P w0 μ w (do let d ← resolve ρ' { callee := .builtin b, args, argTypes := ts } ty; invoke d.target d.args) a h' := by
  have hrel := evalAll_rel hρ hl
  obtain ⟨args⟩ := args
  obtain ⟨ts⟩ := ts
  simp only [resolve] at *
  unfold builtinA at e
  split at e
  · rename_i t u rest s x
    simp only [VRs] at hrel
    obtain ⟨vs, _, hs, ⟨vx, _, hx, rfl, rfl⟩, hm⟩ := hrel
    split at e
    · rename_i ui hui
      obtain ⟨du, hu, hk⟩ := (hT _ _ hui).under
      split at e
      · rename_i k0 hki
        rw [hki] at hk; have hd := TK.of_int hk.symm; subst hd
        have := appendZ_run (P := P) (ty := ty) hT S hs hx hu e
        obtain ⟨μ', w', v, r1, r2, r3, r4⟩ := this
        refine ⟨μ', w', .value v, ?_, r2, r3, .inl ⟨v, rfl, r4⟩⟩
        have hm' : (List.map ρ' args).toArray = #[vs, vx] := by rw [hm]
        simp only [invoke, builtin, List.map_toArray, hm', Sem.run_bind, Sem.run_pure, Result.andThen_ok]
        have hsame : Builtin.append_ (t :: u :: rest).toArray ty #[vs, vx] = Builtin.append_ #[t, u] ty #[vs, vx] := by
          unfold Builtin.append_; simp
        rw [hsame, r1]; rfl
      · rename_i hni
        have := append_run (P := P) (ty := ty) hT S hs hx hu (fun k hk' => by subst hk'; simp [TK.of] at hk; exact hni _ hk) e
        obtain ⟨μ', w', v, r1, r2, r3, r4⟩ := this
        refine ⟨μ', w', .value v, ?_, r2, r3, .inl ⟨v, rfl, r4⟩⟩
        have hm' : (List.map ρ' args).toArray = #[vs, vx] := by rw [hm]
        simp only [invoke, builtin, List.map_toArray, hm', Sem.run_bind, Sem.run_pure, Result.andThen_ok]
        have hsame : Builtin.append_ (t :: u :: rest).toArray ty #[vs, vx] = Builtin.append_ #[t, u] ty #[vs, vx] := by
          unfold Builtin.append_; simp
        rw [hsame, r1]; rfl
    · simp at e
  · rename_i t rest d x
    simp only [VRs] at hrel
    obtain ⟨vs, _, hs, ⟨vx, _, hx, rfl, rfl⟩, hm⟩ := hrel
    have := copy_run (P := P) (u := 0) (ty := ty) hT S hs hx e
    obtain ⟨μ', w', v, r1, r2, r3, r4⟩ := this
    refine ⟨μ', w', .value v, ?_, r2, r3, .inl ⟨v, rfl, r4⟩⟩
    have hm' : (List.map ρ' args).toArray = #[vs, vx] := by rw [hm]
    simp only [invoke, builtin, List.map_toArray, hm', Sem.run_bind, Sem.run_pure, Result.andThen_ok]
    have hsame : Builtin.copy_ (t :: rest).toArray ty #[vs, vx] = Builtin.copy_ #[t, 0] ty #[vs, vx] := by
      unfold Builtin.copy_; simp
    rw [hsame, r1]; rfl
  · rename_i t rest a0 n c sz
    simp only [VRs] at hrel
    obtain ⟨vx, _, hx, rfl, hm⟩ := hrel
    split at e
    · rename_i ti hti
      split at e
      · rename_i el hk
        simp only [Option.some.injEq, Prod.mk.injEq] at e; obtain ⟨rfl, rfl⟩ := e
        have r1 := cap_run (P := P) (w := w) (ty := ty) (rest := rest) hT hx hti hk
        refine ⟨μ, w, .value (.int .i64 c), ?_, Mu.le_refl _, S, .inl ⟨_, rfl, by simp [VR]⟩⟩
        have hm' : (List.map ρ' args).toArray = #[vx] := by rw [hm]
        simp only [invoke, builtin, List.map_toArray, hm', Sem.run_bind, Sem.run_pure, Result.andThen_ok, r1]
      · simp at e
    · simp at e
  · rename_i t rest x
    simp only [VRs] at hrel
    obtain ⟨vx, _, hx, rfl, hm⟩ := hrel
    split at e
    · rename_i v hv
      simp at e; obtain ⟨rfl, rfl⟩ := e
      obtain ⟨u, r1, r2⟩ := len_run (P := P) (ty := ty) (rest := rest) hT S hx hv
      refine ⟨μ, w, .value u, ?_, Mu.le_refl _, S, .inl ⟨u, rfl, r2 _⟩⟩
      have hm' : (List.map ρ' args).toArray = #[vx] := by rw [hm]
      simp only [invoke, builtin, List.map_toArray, hm', Sem.run_bind, Sem.run_pure, Result.andThen_ok, r1]
    · simp at e
  · rename_i x l
    simp only [VRs] at hrel
    obtain ⟨vx, vl, hx, hvl, hm⟩ := hrel
    split at e
    · rename_i v hv
      simp at e; obtain ⟨rfl, rfl⟩ := e
      obtain ⟨u, r1, r2⟩ := min_run (P := P) (w := w) hx hvl hv
      refine ⟨μ, w, .value u, ?_, Mu.le_refl _, S, .inl ⟨u, rfl, r2⟩⟩
      have hm' : (List.map ρ' args).toArray = (vx :: vl).toArray := by rw [hm]
      simp only [invoke, builtin, List.map_toArray, hm', Sem.run_bind, Sem.run_pure, Result.andThen_ok, Builtin.min_, r1]
    · simp at e
  · rename_i x l
    simp only [VRs] at hrel
    obtain ⟨vx, vl, hx, hvl, hm⟩ := hrel
    split at e
    · rename_i v hv
      simp at e; obtain ⟨rfl, rfl⟩ := e
      obtain ⟨u, r1, r2⟩ := max_run (P := P) (w := w) hx hvl hv
      refine ⟨μ, w, .value u, ?_, Mu.le_refl _, S, .inl ⟨u, rfl, r2⟩⟩
      have hm' : (List.map ρ' args).toArray = (vx :: vl).toArray := by rw [hm]
      simp only [invoke, builtin, List.map_toArray, hm', Sem.run_bind, Sem.run_pure, Result.andThen_ok, Builtin.max_, r1]
    · simp at e
  · simp at e

theorem field_place {f : Field} (hs : P.cellsOf f.type ≠ 0) (hi : (P.info? f.type).isSome = true) (b o : Nat) (w : World) : (fieldPlace ⟨b, o, none⟩ f).run P w = .ok ⟨b, o + f.offset, none⟩ w := by
  obtain ⟨i, hi⟩ := Option.isSome_iff_exists.1 hi
  have : i.size ≠ 0 := by simpa [Program.cellsOf, hi] using hs
  simp [fieldPlace, sizeOf, run_info hi, this, add_flat]

set_option maxHeartbeats 4000000 in
theorem op_sim (hT : TypesOk P T) (S : Sim w0 μ h w) (hρ : Rho μ ρ ρ') (o : Oper) {a : AV} (e : opA T ρ o.op h = some (a, h')) : NextTo P w0 μ w (execOp ρ' o) a h' := by
  obtain ⟨dst, op, type, pos, after, guard⟩ := o
  simp only at e
  cases op with
  | move x =>
    simp only [opA] at e
    split at e
    · rename_i v hv; simp at e; obtain ⟨rfl, rfl⟩ := e; exact NextTo.pure S (hρ _ _ hv)
    · simp at e
  | assign x =>
    simp only [opA] at e
    split at e
    · rename_i v hv; simp at e; obtain ⟨rfl, rfl⟩ := e; exact NextTo.pure S (hρ _ _ hv)
    · simp at e
  | pick c x y =>
    simp only [opA] at e
    split at e
    · rename_i hc
      have := hρ _ _ hc; simp only [VR] at this
      split at e
      · rename_i v hv; simp at e; obtain ⟨rfl, rfl⟩ := e
        exact ⟨μ, w, .value (ρ' x), by simp [execOp, this, asBool], Mu.le_refl _, S, .inl ⟨_, rfl, hρ _ _ hv⟩⟩
      · simp at e
    · rename_i hc
      have := hρ _ _ hc; simp only [VR] at this
      split at e
      · rename_i v hv; simp at e; obtain ⟨rfl, rfl⟩ := e
        exact ⟨μ, w, .value (ρ' y), by simp [execOp, this, asBool], Mu.le_refl _, S, .inl ⟨_, rfl, hρ _ _ hv⟩⟩
      · simp at e
    · simp at e
  | alloc t =>
    simp only [opA] at e
    split at e
    · rename_i ti ht; simp at e; obtain ⟨rfl, rfl⟩ := e; exact (alloc_run hT S ht).next
    · simp at e
  | box t x =>
    simp only [opA] at e
    split at e
    · rename_i v hv
      split at e
      · simp at e; obtain ⟨rfl, rfl⟩ := e; exact (box_run S (hρ _ _ hv)).next
      · simp at e
    · simp at e
  | build t ps =>
    simp only [opA] at e
    split at e
    · rename_i l hl
      split at e
      · rename_i v hv
        simp at e; obtain ⟨rfl, rfl⟩ := e
        have hp := evalParts_rel hρ hl
        obtain ⟨u, r1, r2⟩ := build_run (P := P) hT (qs := ps.map fun (i, x) => (i, ρ' x)) (by simpa using hp) hv
        exact (OpTo.plain S (r1 w) r2).next
      · simp at e
    · simp at e
  | buildSlice t n ps =>
    simp only [opA] at e
    split at e
    · rename_i l hl
      have hp := evalParts_rel hρ hl
      exact (buildSlice_run hT S (qs := ps.map fun (i, x) => (i, ρ' x)) (by simpa using hp) e).next
    · simp at e
  | load t x =>
    simp only [opA] at e
    split at e
    · rename_i b o hx
      split at e
      · rename_i v hv
        simp at e; obtain ⟨rfl, rfl⟩ := e
        have := hρ _ _ hx; simp only [VR] at this; obtain ⟨L, hL, hp⟩ := this
        obtain ⟨u, r1, r2⟩ := run_loadVar (P := P) hT S hL hv
        refine (OpTo.plain S (s := Instr.loadAt t (ρ' x)) ?_ r2).next
        simp [Instr.loadAt, Instr.sureAddr, hp, r1]
      · simp at e
    · simp at e
  | store t x y =>
    simp only [opA] at e
    split at e
    · rename_i b o v hx hy
      split at e
      · rename_i h1 hst
        simp at e; obtain ⟨rfl, rfl⟩ := e
        have := hρ _ _ hx; simp only [VR] at this; obtain ⟨L, hL, hp⟩ := this
        obtain ⟨w', r1, r2⟩ := run_storeVar (P := P) hT S hL (hρ _ _ hy) hst
        exact ⟨μ, w', .skip, by simp [execOp, Instr.storeAt, Instr.sureAddr, hp, r1], Mu.le_refl _, r2, .inr ⟨rfl, rfl⟩⟩
      · simp at e
    · simp at e
  | nilCheck x =>
    simp only [opA] at e
    split at e
    · rename_i p hx
      simp at e; obtain ⟨rfl, rfl⟩ := e
      have hv := hρ _ _ hx
      have hv' := hv
      obtain ⟨b, o⟩ := p
      simp only [VR] at hv; obtain ⟨L, hL, hp⟩ := hv
      refine ⟨μ, w, .value (ρ' x), ?_, Mu.le_refl _, S, .inl ⟨_, rfl, hv'⟩⟩
      simp [execOp, hp]
    · rename_i f c hx
      simp at e; obtain ⟨rfl, rfl⟩ := e
      have hv := hρ _ _ hx
      have hv' := hv
      refine ⟨μ, w, .value (ρ' x), ?_, Mu.le_refl _, S, .inl ⟨_, rfl, hv'⟩⟩
      cases f with
      | func f => simp only [VR] at hv; obtain ⟨_, _, hp⟩ := hv; simp [execOp, hp]
      | yield l => simp only [VR] at hv; obtain ⟨_, _, _, hp⟩ := hv; simp [execOp, hp]
      | method _ => simp [VR] at hv
      | methodOf _ _ => simp [VR] at hv
      | via _ _ _ _ => simp [VR] at hv
    · simp at e
  | binOp bop t x y yt =>
    simp only [opA] at e
    split at e
    · rename_i a1 b1 hx hy
      split at e
      · rename_i v hv
        simp at e; obtain ⟨rfl, rfl⟩ := e
        obtain ⟨r1, r2⟩ := binOp_run (P := P) hT hv (hρ _ _ hx) (hρ _ _ hy) x y
        exact (OpTo.plain S (s := do eqGuard bop t x y (ρ' x) (ρ' y); binOp bop t (ρ' x) (ρ' y)) (r1 w) (r2 μ)).next
      · simp at e
    · simp at e
  | unOp uop t x =>
    simp only [opA] at e
    split at e
    · rename_i a1 hx
      split at e
      · rename_i v hv
        simp at e; obtain ⟨rfl, rfl⟩ := e
        obtain ⟨r1, r2⟩ := unOp_run (P := P) hv (hρ _ _ hx)
        exact (OpTo.plain S (r1 w) (r2 μ)).next
      · simp at e
    · simp at e
  | convert s d x =>
    simp only [opA] at e
    split at e
    · rename_i a1 hx
      exact (conv_run hT S (hρ _ _ hx) e).next
    · simp at e
  | makeInterface t x =>
    simp only [opA] at e
    split at e
    · rename_i ti v ht hx
      split at e
      · simp at e
      · rename_i hni
        simp at e; obtain ⟨rfl, rfl⟩ := e
        obtain ⟨d, hu, hk⟩ := (hT _ _ ht).under
        refine (OpTo.plain S (s := Instr.makeInterface t (ρ' x)) (v := .iface t (ρ' x)) ?_ (by simp only [VR]; exact ⟨_, hρ _ _ hx, rfl⟩)).next
        simp only [Instr.makeInterface, Sem.run_bind, run_under hu, Result.andThen_ok]
        cases d <;> first
          | rfl
          | (exfalso; apply hni; rw [hk]; rfl)
    · simp at e
  | makeFunc fn first cap =>
    simp only [opA] at e
    split at e
    · rename_i f
      split at e
      · rename_i hf
        split at e
        · rename_i l hl
          simp at e; obtain ⟨rfl, rfl⟩ := e
          have hr := evalAll_rel hρ hl
          refine (OpTo.plain S (s := Instr.makeFunc (.func f) (first.map ρ') (cap.map ρ')) (v := .func (.func f) #[] (cap.map ρ')) ?_ (by simp only [VR]; exact ⟨_, by simpa using hr, rfl⟩)).next
          have : first = #[] := Array.size_eq_zero_iff.1 hf
          simp [Instr.makeFunc, this]
        · simp at e
      · simp at e
    · simp at e
  | makeSlice t l c =>
    simp only [opA] at e
    split at e
    · rename_i a1 b1 hl hc
      exact (makeSlice_run hT S (hρ _ _ hl) (hρ _ _ hc) e).next
    · simp at e
  | slice t x lo hi mx =>
    simp only [opA] at e
    split at e
    · rename_i v l g m hx h1 h2 h3
      split at e
      · rename_i r hr
        simp at e; obtain ⟨rfl, rfl⟩ := e
        obtain ⟨p1, p2⟩ := evalOpt_rel hρ h1
        obtain ⟨q1, q2⟩ := evalOpt_rel hρ h2
        obtain ⟨s1, s2⟩ := evalOpt_rel hρ h3
        obtain ⟨u, r1, r2⟩ := slice_run (P := P) hT (hρ _ _ hx) p1 p2 q1 q2 s1 s2 hr
        exact (OpTo.plain S (r1 w) r2).next
      · simp at e
    · simp at e
  | fieldAddr t x f =>
    simp only [opA] at e
    split at e
    · rename_i ti b o ht hx
      split at e
      · rename_i fs hk'
        split at e
        · rename_i bl ft off hfs
          split at e
          · rename_i fi hfi
            split at e
            · simp at e
            · rename_i hsz
              simp at e; obtain ⟨rfl, rfl⟩ := e
              have k := hT _ _ ht
              obtain ⟨d, hu, hk⟩ := k.under
              rw [hk'] at hk; obtain ⟨gs, hd, hgs⟩ := TK.of_strct hk.symm; subst hd
              have := hρ _ _ hx; simp only [VR] at this; obtain ⟨L, hL, hp⟩ := this
              subst hgs
              simp only [List.getElem?_map] at hfs
              cases hg : gs.toList[f]? with
              | none => rw [hg] at hfs; simp at hfs
              | some g =>
                rw [hg] at hfs; simp at hfs; obtain ⟨_, rfl, rfl⟩ := hfs
                have hmem : g ∈ gs.toList := List.mem_of_getElem? hg
                obtain ⟨j, j1, j2, _⟩ := (hT _ _ hfi).info
                have hcs : P.cellsOf g.type ≠ 0 := by simp [Program.cellsOf, j1, j2]; exact hsz
                have hg' : gs[f]? = some g := by simpa using hg
                refine (OpTo.plain S (s := Instr.fieldAt t (ρ' x) f) (v := .pointer (some ⟨L.blk, L.base + o + g.offset, none⟩)) ?_ (by simp only [VR]; exact ⟨L, hL, by rw [Nat.add_assoc]⟩)).next
                simp [Instr.fieldAt, run_under hu, hg', Instr.sureAddr, hp, field_place hcs (k.fields gs hu g hmem)]
          · simp at e
        · simp at e
      · simp at e
    · simp at e
  | field t x f =>
    simp only [opA] at e
    split at e
    · rename_i ti cs ht hx
      split at e
      · rename_i fs hk'
        split at e
        · rename_i bl ft off hfs
          split at e
          · rename_i v hv
            simp at e; obtain ⟨rfl, rfl⟩ := e
            have k := hT _ _ ht
            obtain ⟨d, hu, hk⟩ := k.under
            rw [hk'] at hk; obtain ⟨gs, hd, hgs⟩ := TK.of_strct hk.symm; subst hd
            have := hρ _ _ hx; simp only [VR] at this; obtain ⟨ds, hds, hp⟩ := this
            subst hgs
            simp only [List.getElem?_map] at hfs
            cases hg : gs.toList[f]? with
            | none => rw [hg] at hfs; simp at hfs
            | some g =>
              rw [hg] at hfs; simp at hfs; obtain ⟨_, rfl, rfl⟩ := hfs
              have hg' : gs[f]? = some g := by simpa using hg
              obtain ⟨u, r1, r2⟩ := run_part (P := P) hT hds hv
              refine (OpTo.plain S (s := Instr.field t (ρ' x) f) ?_ r2).next
              simp [Instr.field, run_under hu, hg', asAgg, hp, r1]
          · simp at e
        · simp at e
      · simp at e
    · simp at e
  | indexAddr t x ix =>
    simp only [opA] at e
    split at e
    · rename_i ti v k i ht hx hix
      have hi := hρ _ _ hix; simp only [VR] at hi
      obtain ⟨d, hu, hk⟩ := (hT _ _ ht).under
      split at e
      · rename_i el b o n cap sz hk'
        rw [hk'] at hk; have hd := TK.of_slc hk.symm; subst hd
        split at e
        · rename_i te hte
          split at e
          · rename_i hb
            simp at e; obtain ⟨rfl, rfl⟩ := e
            have := hρ _ _ hx; simp only [VR] at this
            obtain ⟨L, off, c, hL, hp, hnc, hrm, hbase, hcp, hoff⟩ := this
            have hoff' : off = L.base + o := by
              rcases hoff with ⟨h0, _⟩ | h1
              · omega
              · exact h1
            subst hoff'
            refine (OpTo.plain S (s := Instr.indexAt t (ρ' x) (ρ' ix)) (v := .pointer (some ⟨L.blk, L.base + o + i.toNat * te.size, none⟩)) ?_ (by simp only [VR]; exact ⟨L, hL, by rw [Nat.add_assoc]⟩)).next
            simp [Instr.indexAt, asIntOf, hi, run_under hu, hp, hb.1, hb.2.1, (hT _ _ hte).size, add_flat]
          · simp at e
        · simp at e
      · rename_i n el b o hk'
        rw [hk'] at hk; have hd := TK.of_arr hk.symm; subst hd
        split at e
        · rename_i te hte
          split at e
          · rename_i hb
            simp at e; obtain ⟨rfl, rfl⟩ := e
            have := hρ _ _ hx; simp only [VR] at this
            obtain ⟨L, hL, hp⟩ := this
            refine (OpTo.plain S (s := Instr.indexAt t (ρ' x) (ρ' ix)) (v := .pointer (some ⟨L.blk, L.base + o + i.toNat * te.size, none⟩)) ?_ (by simp only [VR]; exact ⟨L, hL, by rw [Nat.add_assoc]⟩)).next
            simp [Instr.indexAt, asIntOf, hi, run_under hu, hp, hb.1, hb.2, (hT _ _ hte).size, add_flat, Instr.sureAddr]
          · simp at e
        · simp at e
      · simp at e
    · simp at e
  | index t x ix =>
    simp only [opA] at e
    split at e
    · rename_i ti v k i ht hx hix
      have hi := hρ _ _ hix; simp only [VR] at hi
      obtain ⟨d, hu, hk⟩ := (hT _ _ ht).under
      split at e
      · rename_i n el cs hk'
        rw [hk'] at hk; have hd := TK.of_arr hk.symm; subst hd
        split at e
        · rename_i te hte
          split at e
          · rename_i hb
            split at e
            · rename_i v hv
              simp at e; obtain ⟨rfl, rfl⟩ := e
              have := hρ _ _ hx; simp only [VR] at this; obtain ⟨ds, hds, hp⟩ := this
              obtain ⟨u, r1, r2⟩ := run_part (P := P) hT hds hv
              refine (OpTo.plain S (s := Instr.index t (ρ' x) (ρ' ix)) ?_ r2).next
              simp [Instr.index, asIntOf, hi, run_under hu, hp, hb.1, hb.2, (hT _ _ hte).size, r1]
            · simp at e
          · simp at e
        · simp at e
      · rename_i s hk'
        rw [hk'] at hk; have hd := TK.of_str hk.symm; subst hd
        split at e
        · rename_i hb
          split at e
          · rename_i c hc
            simp at e; obtain ⟨rfl, rfl⟩ := e
            have := hρ _ _ hx; simp only [VR] at this
            refine (OpTo.plain S (s := Instr.index t (ρ' x) (ρ' ix)) (v := .int .u8 c.toNat) ?_ (by simp [VR])).next
            have hg : (⟨s.toArray⟩ : ByteArray)[i.toNat]? = some c := by
              have hlt := (List.getElem?_eq_some_iff.1 hc).1
              rw [getElem?_pos _ _ (by simpa [ByteArray.size] using hlt)]
              have := (List.getElem?_eq_some_iff.1 hc).2
              simp only [ByteArray.getElem_eq_getElem_data, List.getElem_toArray]
              rw [this]
            simp [Instr.index, asIntOf, hi, run_under hu, this, hb, hg]
          · simp at e
        · simp at e
      · simp at e
    · simp at e
  | makeMap t r =>
    simp only [opA] at e
    split at e
    · rename_i ti r' ht hr
      obtain ⟨p1, p2⟩ := evalOpt_rel hρ hr
      obtain ⟨d, hu, hk⟩ := (hT _ _ ht).under
      split at e
      · rename_i kt et hk'
        rw [hk'] at hk; have hd := TK.of_map hk.symm; subst hd
        simp only [Option.some.injEq, Prod.mk.injEq] at e; obtain ⟨rfl, rfl⟩ := e
        exact (makeMap_run S (t := t) (r := r.map ρ') (fun v hv => by rw [p2 rfl] at hv; cases hv)).next
      · rename_i kt et k n hk'
        rw [hk'] at hk; have hd := TK.of_map hk.symm; subst hd
        simp only [Option.some.injEq, Prod.mk.injEq] at e; obtain ⟨rfl, rfl⟩ := e
        obtain ⟨v, q1, q2⟩ := p1 _ rfl
        exact (makeMap_run S (t := t) (r := r.map ρ') (fun v' hv => by
          rw [q1] at hv; simp only [Option.some.injEq] at hv; subst hv
          simp only [VR] at q2
          exact ⟨⟨_, _, q2⟩, _, _, hu⟩)).next
      · simp at e
    · simp at e
  | lookup t x k ok =>
    simp only [opA] at e
    split at e
    · rename_i a1 b1 hx hk
      split at e
      · rename_i v hv
        simp only [Option.some.injEq, Prod.mk.injEq] at e; obtain ⟨rfl, rfl⟩ := e
        obtain ⟨u, r1, r2⟩ := lookup_run (P := P) hT S (hρ _ _ hx) (hρ _ _ hk) hv
        exact (OpTo.plain S r1 r2).next
      · simp at e
    · simp at e
  | mapUpdate t m k x =>
    simp only [opA] at e
    split at e
    · rename_i a1 b1 c1 hm hk hx
      split at e
      · rename_i h1 hv
        simp only [Option.some.injEq, Prod.mk.injEq] at e; obtain ⟨rfl, rfl⟩ := e
        obtain ⟨w', r1, r2⟩ := mapUpdate_run (P := P) hT S (hρ _ _ hm) (hρ _ _ hk) (hρ _ _ hx) hv
        exact ⟨μ, w', .skip, by simp [execOp, r1], Mu.le_refl _, r2, .inr ⟨rfl, rfl⟩⟩
      · simp at e
    · simp at e
  | extract x i =>
    simp only [opA] at e
    split at e
    · rename_i vs hx
      split at e
      · rename_i v hv
        simp at e; obtain ⟨rfl, rfl⟩ := e
        have := hρ _ _ hx; simp only [VR] at this; obtain ⟨ds, hds, hp⟩ := this
        obtain ⟨u, r1, r2⟩ := hds.get hv
        refine (OpTo.plain S (s := Instr.extract (ρ' x) i) (v := u) ?_ r2).next
        have : ds[i]? = some u := by simpa using r1
        simp [Instr.extract, hp, this]
      · simp at e
    · simp at e
  | call c =>
    obtain ⟨callee, args, ts⟩ := c
    simp only [opA] at e
    split at e
    · split at e
      · rename_i l hl
        exact builtin_sim hT S hρ hl e
      · simp at e
    · simp at e
  | _ => simp [opA] at e

end Go.Am

/-
  The abstract machine: activations, steps of the model's machine.
-/
namespace Go.Am
variable {P : Program} {T : TT} {w0 : Frz} {w : World} {μ : Mu} {h h' : Heap}

theorem getD_list (a : Array Value) (i : Nat) (d : Value) : a.getD i d = a.toList.getD i d := by
  simp [Array.getD_eq_getD_getElem?, List.getD_eq_getElem?_getD]

theorem evalO_rel {s : List AV} {a : Act} (hs : VRs μ s a.tmps.toList) : Rho μ (evalO s) a.eval := by
  intro x v e
  cases x with
  | tmp t =>
    simp only [evalO, Option.some.injEq] at e; subst e
    simp only [Act.eval, getD_list]
    exact hs.getD t
  | const c => simp only [evalO] at e; exact VR.ofValue e
  | global g => simp [evalO] at e
  | func f => simp only [evalO, Option.some.injEq] at e; subst e; simp only [Act.eval, VR]; exact ⟨#[], by simp [VRs], rfl⟩

theorem VR.is_bool {a : AV} {v : Value} (k : VR μ a v) (b : Bool) : v = .bool b ↔ a = .bool b := by
  constructor
  · intro e; subst e
    cases a with
    | bool b' => simp only [VR] at k; simp at k; rw [k]
    | ptr p => cases p with
      | none => simp [VR] at k
      | some p => obtain ⟨b, o⟩ := p; simp [VR] at k
    | slc p n c sz => cases p with
      | none => simp [VR] at k
      | some p => obtain ⟨b, o⟩ := p; simp [VR] at k
    | map r => cases r <;> simp [VR] at k
    | func f caps => cases f <;> simp [VR] at k
    | agg _ => simp [VR] at k
    | tup _ => simp [VR] at k
    | iface t x => simp [VR] at k
    | int k' n => simp [VR] at k
    | str s => simp [VR] at k
    | nilFn => simp [VR] at k
    | nilIface => simp [VR] at k
  · intro e; subst e; simpa only [VR] using k

theorem wanted_rel {s : List AV} {tmps : Array Value} (hs : VRs μ s tmps.toList) (o : Oper) (ops : Array Oper) : Region.wanted o (yielded ops tmps) = wantedA o ops.toList s := by
  unfold Region.wanted wantedA yielded
  cases hg : o.guard with
  | none => rfl
  | some jw =>
    obtain ⟨j, want⟩ := jw
    simp only [Array.getElem?_toList]
    cases hj : ops[j]? with
    | none => rfl
    | some g =>
      simp only [Option.bind_some]
      cases hd : g.dst with
      | none => rfl
      | some d =>
        simp only [Option.bind_some]
        cases hsd : s[d]? with
        | none =>
          have : tmps.toList[d]? = none := by
            rw [List.getElem?_eq_none_iff, hs.len]; exact List.getElem?_eq_none_iff.1 hsd
          have ht : tmps[d]? = none := by simpa using this
          rw [ht]; rfl
        | some a =>
          obtain ⟨v, e1, e2⟩ := hs.get hsd
          have e1' : tmps[d]? = some v := by simpa using e1
          rw [e1']
          by_cases hb : ∃ b, a = .bool b
          · obtain ⟨b, rfl⟩ := hb
            have := (e2.is_bool b).2 rfl; subst this
            cases b <;> cases want <;> rfl
          · have hv : ∀ b, v ≠ .bool b := fun b hv => hb ⟨b, (e2.is_bool b).1 hv⟩
            cases v <;> first
              | exact absurd rfl (hv _)
              | (cases a <;> first
                  | exact absurd ⟨_, rfl⟩ hb
                  | rfl)

theorem put_rel {s : List AV} {act : Act} (hs : VRs μ s act.tmps.toList) (d : Option Nat) {a : AV} {v : Value} (hv : VR μ a v) : VRs μ (putA s d a) (act.put d v).tmps.toList := by
  cases d with
  | none => exact hs
  | some d => simpa [putA, Act.put] using hs.set d hv

def DRel (μ : Mu) : List Nat → List Deferred → Prop
  | [], l => l = []
  | m :: ms, l => ∃ L ds, μ m = some L ∧ DRel μ ms ds ∧ l = { target := .collected L.blk, args := #[] } :: ds

theorem DRel.mono {μ ν : Mu} (hm : μ.le ν) : ∀ {ms : List Nat} {ds : List Deferred}, DRel μ ms ds → DRel ν ms ds
  | [], ds, k => k
  | m :: ms, ds, k => by
    obtain ⟨L, ds', h1, h2, h3⟩ := k
    exact ⟨L, ds', hm _ _ h1, DRel.mono hm h2, h3⟩

def RoRel (μ : Mu) (ro : Option Nat) (cro : Option Nat) : Prop :=
  match ro with
  | none => cro = none
  | some l => ∃ L, μ l = some L ∧ cro = some L.blk

theorem RoRel.mono {μ ν : Mu} (hm : μ.le ν) {ro cro : Option Nat} (k : RoRel μ ro cro) : RoRel ν ro cro := by
  cases ro with
  | none => exact k
  | some l => obtain ⟨L, h1, h2⟩ := k; exact ⟨L, hm _ _ h1, h2⟩

/-- Where a piece of code leaves an activation. -/
def Lands (P : Program) (b : Frame) (k : List Item) (cs : List Frame) (m : Machine) (act : Act) (w : World) : AE → Prop
  | .normal => Steps P m (lone (b.atR act k) cs w)
  | .exit id => (∀ k', exitTo id k = some k' → Steps P m (lone (b.atR act k') cs w)) ∧ (exitTo id k = none → ∃ todo, exitTo id todo = none ∧ Steps P m (lone (b.atR act (.code (.exit id) :: todo)) cs w))
  | .ret => ∃ todo, Steps P m (lone (b.atR act (.code .ret :: todo)) cs w)

theorem Lands.of_steps {b : Frame} {k : List Item} {cs : List Frame} {m m1 : Machine} {act : Act} {w : World} {e : AE} (hs : Steps P m m1) (hl : Lands P b k cs m1 act w e) : Lands P b k cs m act w e := by
  cases e with
  | normal => exact hs.trans hl
  | exit id => exact ⟨fun k' hk => hs.trans (hl.1 k' hk), fun hk => let ⟨t, h1, h2⟩ := hl.2 hk; ⟨t, h1, hs.trans h2⟩⟩
  | ret => obtain ⟨t, h1⟩ := hl; exact ⟨t, hs.trans h1⟩

/-- What stands ahead of the rest is passed by, where it is no block's end. -/
theorem Lands.pass {b : Frame} {x : Item} {k : List Item} {cs : List Frame} {m : Machine} {act : Act} {w : World} {e : AE} (hx : ∀ id, x ≠ .inBlock id) (he : e ≠ .normal) (hl : Lands P b (x :: k) cs m act w e) : Lands P b k cs m act w e := by
  cases e with
  | normal => exact absurd rfl he
  | exit id =>
    have hxk : exitTo id (x :: k) = exitTo id k := by cases x <;> first | rfl | exact absurd rfl (hx _)
    rw [Lands, hxk] at hl
    exact hl
  | ret => exact hl

/-! ### one operation -/
section ops
variable {b : Frame} {a : Act} {k : List Item} {cs : List Frame} {ops : Array Oper} {i : Nat} {rest : List Nat} {o : Oper}

theorem stepR_value {v : Value} {w' : World} (ho : ops[i]? = some o) (hw : Region.wanted o (yielded ops a.tmps) = true) (hd : ∀ c, o.op ≠ .defer c) (hr : (execOp a.eval o).run P w = .ok (.value v) w') :
    step P (lone (b.atR a (.inRegion ops (i :: rest) :: k)) cs w) = .next (lone (b.atR (a.put o.dst v) (.inRegion ops rest :: k)) cs w') := by
  have hg := stepGR_op (P := P) (b := b) (k := k) (cs := cs) (w := w) (rest := rest) ho hw
  rw [Oper.semAt_eq _ _ _ hd] at hg
  have hfin : (b.atR a (.inRegion ops (i :: rest) :: k)).finish v = b.atR (a.put o.dst v) (.inRegion ops rest :: k) := by
    rw [Frame.finish_atR, ho]; rfl
  refine step_lone_go ?_
  rw [hg, ← hfin]; simp [stepG.apply, hr]

theorem stepR_skipv {w' : World} (ho : ops[i]? = some o) (hw : Region.wanted o (yielded ops a.tmps) = true) (hd : ∀ c, o.op ≠ .defer c) (hr : (execOp a.eval o).run P w = .ok .skip w') :
    step P (lone (b.atR a (.inRegion ops (i :: rest) :: k)) cs w) = .next (lone (b.atR (a.put o.dst undef) (.inRegion ops rest :: k)) cs w') := by
  have hg := stepGR_op (P := P) (b := b) (k := k) (cs := cs) (w := w) (rest := rest) ho hw
  rw [Oper.semAt_eq _ _ _ hd] at hg
  have hfin : (b.atR a (.inRegion ops (i :: rest) :: k)).finish undef = b.atR (a.put o.dst undef) (.inRegion ops rest :: k) := by
    rw [Frame.finish_atR, ho]; rfl
  refine step_lone_go ?_
  rw [hg, ← hfin]; simp [stepG.apply, hr]

theorem stepR_enter {f : FuncId} {args : Array Value} {w' : World} (ho : ops[i]? = some o) (hw : Region.wanted o (yielded ops a.tmps) = true) (hd : ∀ c, o.op ≠ .defer c) (hr : (execOp a.eval o).run P w = .ok (.enter f args) w') :
    step P (lone (b.atR a (.inRegion ops (i :: rest) :: k)) cs w) = .next (lone (Frame.enter P f args .normal) (b.atR a (.inRegion ops (i :: rest) :: k) :: cs) w') := by
  have hg := stepGR_op (P := P) (b := b) (k := k) (cs := cs) (w := w) (rest := rest) ho hw
  rw [Oper.semAt_eq _ _ _ hd] at hg
  refine step_lone_go ?_
  rw [hg]; simp [stepG.apply, hr, Frame.atR]

theorem stepR_roundv {l : Nat} {f : FuncId} {tmps : Array Value} {assign body : Code} {w' : World} (ho : ops[i]? = some o) (hw : Region.wanted o (yielded ops a.tmps) = true) (hd : ∀ c, o.op ≠ .defer c)
    (hr : (execOp a.eval o).run P w = .ok (.round l f tmps assign body) w') :
    step P (lone (b.atR a (.inRegion ops (i :: rest) :: k)) cs w) = .next (lone (Frame.round l f tmps assign body .normal) (b.atR a (.inRegion ops (i :: rest) :: k) :: cs) w') := by
  have hg := stepGR_op (P := P) (b := b) (k := k) (cs := cs) (w := w) (rest := rest) ho hw
  rw [Oper.semAt_eq _ _ _ hd] at hg
  refine step_lone_go ?_
  rw [hg]; simp [stepG.apply, hr]

end ops

theorem opA_not_defer {ρ : Operand → Option AV} {op : Op} {x : AV × Heap} (e : opA T ρ op h = some x) : ∀ c, op ≠ .defer c := by
  intro c hc; subst hc; simp [opA] at e

theorem callFunc_run {f : Nat} {fn : Func} {args : Array Value} (h1 : P.funcs[f]? = some fn) (h2 : (fn.name == "runtime.NumGoroutine") = false) (h3 : fn.body.isNone = false) (w : World) :
    (callFunc f args).run P w = .ok (.enter f args) w := by
  simp only [callFunc, Sem.run_bind, run_program, Result.andThen_ok, h1, h2, h3]
  rfl

/-! ### functions that the model answers itself -/
theorem ext_next : Extern.allNextRows.lookup "internal/bytealg.IndexByteString" = none := by rfl
theorem ext_next0 : Extern.allNextRows.lookup "" = none := by rfl
theorem ext_generic : Extern.allGenericRows.lookup "internal/bytealg.IndexByteString" = none := by rfl
theorem ext_typed : Extern.allTypedRows.lookup "internal/bytealg.IndexByteString" = none := by rfl
theorem ext_plain : Extern.allRows.lookup "internal/bytealg.IndexByteString" = some Extern.BytealgIndexByte.indexByte := by rfl

theorem extern_run {f : Nat} {fn : Func} {args : List AV} {vargs : Array Value} {v : AV} (h1 : P.funcs[f]? = some fn) (h2 : (fn.name == "runtime.NumGoroutine") = false) (hr : VRs μ args vargs.toList) (e : externA fn args = some v) :
    ∃ vv, VR μ v vv ∧ ∀ w, (callFunc f vargs).run P w = .ok (.value vv) w := by
  unfold externA at e
  split at e
  · rename_i hc
    simp only [Bool.and_eq_true, beq_iff_eq] at hc
    obtain ⟨⟨c1, c2⟩, c3⟩ := hc
    split at e
    · rename_i s c
      simp only [Option.some.injEq] at e
      subst e
      simp only [VRs, VR] at hr
      obtain ⟨v1, l1, rfl, ⟨v2, l2, rfl, rfl, rfl⟩, hv⟩ := hr
      have hva : vargs = #[.string ⟨s.toArray⟩, .int .u8 c] := by
        apply Array.toList_inj.1; rw [hv]
      subst hva
      have hf1 : Extern.findNext fn = none := by simp [Extern.findNext, c2, c3, ext_next, ext_next0]
      have hf2 : Extern.find fn = some Extern.BytealgIndexByte.indexByte := by simp [Extern.find, c2, ext_generic, ext_typed, ext_plain]
      have hsz : (ByteArray.mk s.toArray).size = s.length := by simp [ByteArray.size]
      have hget : ∀ i, (ByteArray.mk s.toArray)[i]! = s.getD i 0 := fun i => by
        rw [List.getD_eq_getElem?_getD, getElem!_def]
        rcases Nat.lt_or_ge i s.length with hi | hi
        · rw [getElem?_pos _ _ (by rw [hsz]; exact hi), List.getElem?_eq_getElem hi]; rfl
        · rw [getElem?_neg _ _ (by rw [hsz]; omega), List.getElem?_eq_none hi]; rfl
      refine ⟨.int .i64 (match (List.range s.length).find? fun i => s.getD i 0 == c.toNat.toUInt8 with | some i => (i : Int) | none => -1), by simp only [VR]; cases (List.range s.length).find? fun i => s.getD i 0 == c.toNat.toUInt8 <;> rfl, fun w => ?_⟩
      have hx : (Extern.BytealgIndexByte.indexByte #[.string ⟨s.toArray⟩, .int .u8 c]).run P w = .ok (.int .i64 (match (List.range s.length).find? fun i => s.getD i 0 == c.toNat.toUInt8 with | some i => (i : Int) | none => -1)) w := by
        show (do
          let b ← Extern.Bytes.bytesOf (.string ⟨s.toArray⟩)
          let c ← Extern.Bytes.asByte (.int .u8 c)
          match (List.range b.size).find? fun i => b[i]! == c with
          | some i => pure (goInt i)
          | none => pure (goInt (-1)) : Sem Value).run P w = _
        simp only [Extern.Bytes.bytesOf, Extern.Bytes.asByte, Sem.run_bind, Sem.run_pure, Result.andThen_ok, hsz, hget]
        cases (List.range s.length).find? fun i => s.getD i 0 == c.toNat.toUInt8 <;> rfl
      simp only [callFunc, Sem.run_bind, run_program, Result.andThen_ok, h1, h2, c1, hf1, hf2, Bool.false_eq_true, if_false, if_true, Sem.run_pure, run_mark]
      rw [hx]
      rfl
    · simp at e
  · simp at e

/-! ### results -/
def resOf (tmps : Array Value) : ResultVar → Sem Value
  | .tmp t => pure (tmps.getD t undef)
  | .cell a t => do Go.loadVar t (← asAddr (tmps.getD a undef))

theorem results_eq (fn : Func) (tmps : Array Value) : results fn tmps = (do
    let vs ← fn.results.mapM (resOf tmps)
    pure (if h : vs.size = 1 then vs[0] else .tuple vs)) := by
  unfold results
  congr 1

theorem results_rel (hT : TypesOk P T) (S : Sim w0 μ h w) {s : List AV} {tmps : Array Value} (hs : VRs μ s tmps.toList) : ∀ {rs : List ResultVar} {l : List AV}, resultsA T h s rs = some l →
    ∃ vs : List Value, (rs.mapM (resOf tmps)).run P w = .ok vs w ∧ VRs μ l vs
  | [], l, e => by simp [resultsA] at e; subst e; exact ⟨[], by simp, by simp [VRs]⟩
  | .tmp t :: rs, l, e => by
    simp only [resultsA] at e
    split at e
    · rename_i m hm
      simp only [Option.some.injEq] at e; subst e
      obtain ⟨vs, r1, r2⟩ := results_rel hT S hs hm
      refine ⟨tmps.getD t undef :: vs, ?_, ?_⟩
      · rw [List.mapM_cons]
        simp only [Sem.run_bind, resOf, Sem.run_pure, Result.andThen_ok, r1]
      · simp only [VRs]
        exact ⟨_, _, by rw [getD_list]; exact hs.getD t, r2, rfl⟩
    · simp at e
  | .cell a t :: rs, l, e => by
    simp only [resultsA] at e
    split at e
    · rename_i bb oo ha
      split at e
      · rename_i v m hv hm
        simp only [Option.some.injEq] at e; subst e
        obtain ⟨vs, r1, r2⟩ := results_rel hT S hs hm
        have hp := hs.getD a
        rw [ha] at hp
        simp only [VR] at hp; obtain ⟨L, hL, hp⟩ := hp
        obtain ⟨u, q1, q2⟩ := run_loadVar (P := P) hT S hL hv
        refine ⟨u :: vs, ?_, by simp only [VRs]; exact ⟨_, _, q2, r2, rfl⟩⟩
        rw [List.mapM_cons]
        have hp' : tmps.getD a undef = .pointer (some ⟨L.blk, L.base + oo, none⟩) := by rw [getD_list]; exact hp
        simp only [Sem.run_bind, resOf, hp', asAddr, Sem.run_pure, Result.andThen_ok, q1, r1]
      · simp at e
    · simp at e

def packA : List AV → AV
  | [v] => v
  | l => .tup l

theorem results_run (hT : TypesOk P T) (S : Sim w0 μ h w) {fn : Func} {s : List AV} {tmps : Array Value} (hs : VRs μ s tmps.toList) {l : List AV} (e : resultsA T h s fn.results.toList = some l) :
    ∃ v, (results fn tmps).run P w = .ok v w ∧ VR μ (packA l) v := by
  obtain ⟨vs, r1, r2⟩ := results_rel (P := P) hT S hs e
  have hr : (results fn tmps).run P w = .ok (if h : vs.toArray.size = 1 then vs.toArray[0] else .tuple vs.toArray) w := by
    rw [results_eq]
    simp only [Array.mapM_eq_mapM_toList, Sem.run_bind, Sem.run_map, r1, Result.andThen_ok, Sem.run_pure]
  refine ⟨_, hr, ?_⟩
  have hlen := r2.len
  clear e r1 hr
  cases l with
  | nil =>
    have : vs = [] := List.length_eq_zero_iff.1 hlen
    subst this
    simp only [packA, VR]; exact ⟨_, by simp [VRs], rfl⟩
  | cons x l =>
    cases l with
    | nil =>
      simp only [VRs] at r2
      obtain ⟨v, _, hv, rfl, rfl⟩ := r2
      simpa [packA] using hv
    | cons y l =>
      have hsz : ¬ vs.toArray.size = 1 := by simp at hlen ⊢; omega
      rw [dif_neg hsz]
      simp only [packA, VR]; exact ⟨_, by simpa using r2, rfl⟩

end Go.Am

/-
  The abstract machine: blocks put by, blocks out of sight; operations hang on what they look at.
-/
namespace Go.Am
variable {P : Program} {T : TT} {μ ν : Mu} {w w' : World}

/-! ### a heap, put together -/
theorem putsA_nxt (base : Nat) : ∀ (l : List (Nat × Blk)) (h : Heap), (putsA base l h).nxt = h.nxt
  | [], _ => rfl
  | (i, b) :: l, h => by rw [putsA, putsA_nxt base l]; rfl

theorem putsA_get_ne (base : Nat) {b : Nat} : ∀ (l : List (Nat × Blk)) (h : Heap), (∀ p ∈ l, base + p.1 ≠ b) → (putsA base l h).get b = h.get b
  | [], _, _ => rfl
  | (i, x) :: l, h, hn => by
    rw [putsA, putsA_get_ne base l _ (fun p hp => hn p (List.mem_cons_of_mem _ hp)), Heap.get_put, if_neg (hn (i, x) (List.mem_cons_self ..))]

theorem putsA_get (base : Nat) {i : Nat} {x : Blk} : ∀ (l : List (Nat × Blk)) (h : Heap), (∀ y, (i, y) ∈ l → y = x) → (i, x) ∈ l → (putsA base l h).get (base + i) = some x
  | [], _, _, hm => by simp at hm
  | (j, y) :: l, h, hu, hm => by
    rw [putsA]
    by_cases hl : ∃ z, (i, z) ∈ l
    · obtain ⟨z, hz⟩ := hl
      have := hu z (List.mem_cons_of_mem _ hz)
      subst this
      exact putsA_get base l _ (fun y hy => hu y (List.mem_cons_of_mem _ hy)) hz
    · rcases List.mem_cons.1 hm with h1 | h1
      · cases h1
        have hne : ∀ p ∈ l, base + p.1 ≠ base + i := by
          rintro ⟨p1, p2⟩ hp e
          have : p1 = i := by simp at e; exact e
          subst this
          exact hl ⟨p2, hp⟩
        rw [putsA_get_ne base l _ hne, Heap.get_put, if_pos rfl]
      · exact absurd ⟨x, h1⟩ hl

/-! ### blocks out of sight -/
theorem BlkAt.reold {z z' : Nat → Option (Obj × Bool)} {L : Loc} {x : Blk} (hz : x.mine = true → z' L.blk = none) (h : BlkAt μ z w L x) : BlkAt μ z' w L x := by
  cases x with
  | cells cs wr =>
    obtain ⟨arr, t, fz, h1, h2, h3, h4, h5⟩ := h
    exact ⟨arr, t, fz, h1, h2, h3, h4, fun hw => ⟨hz hw, (h5 hw).2⟩⟩
  | map es clock => obtain ⟨_, h⟩ := h; exact ⟨hz rfl, h⟩
  | loop r => obtain ⟨_, h⟩ := h; exact ⟨hz rfl, h⟩
  | defers tk => obtain ⟨_, h⟩ := h; exact ⟨hz rfl, h⟩

/-- Is a block one of these? -/
def atAny (μ : Mu) (ids : List Nat) (k : Nat) : Bool := ids.any fun b => match μ b with | some L => L.blk == k | none => false

theorem atAny_iff {ids : List Nat} {k : Nat} : atAny μ ids k = true ↔ ∃ b ∈ ids, ∃ L, μ b = some L ∧ L.blk = k := by
  unfold atAny
  rw [List.any_eq_true]
  constructor
  · rintro ⟨b, hb, h⟩
    split at h
    · rename_i L hL; exact ⟨b, hb, L, hL, by simpa using h⟩
    · simp at h
  · rintro ⟨b, hb, L, hL, rfl⟩
    exact ⟨b, hb, by rw [hL]; simp⟩

def Frz.hide (z : Frz) (μ : Mu) (ids : List Nat) (w : World) : Frz :=
  { z with old := fun k => if atAny μ ids k then (w.heap[k]?).map fun o => (o, true) else z.old k }

variable {z : Frz} {G h0 h' : Heap} {ids : List Nat}

theorem Sim.hide (S : Sim z μ G w) (hn : h0.nxt = G.nxt) (ho : ∀ b, b ∉ ids → h0.get b = G.get b) (hi : ∀ b ∈ ids, h0.get b = none ∧ ∃ x, G.get b = some x ∧ x.mine = true) : Sim (z.hide μ ids w) μ h0 w := by
  have hap : ∀ b x L, h0.get b = some x → μ b = some L → atAny μ ids L.blk = false := by
    intro b x L e1 e2
    have hb : b ∉ ids := fun h => by rw [(hi b h).1] at e1; cases e1
    rw [ho b hb] at e1
    cases hq : atAny μ ids L.blk with
    | false => rfl
    | true =>
      obtain ⟨c, hc, M, hM, hMk⟩ := atAny_iff.1 hq
      obtain ⟨_, y, hy, hym⟩ := hi c hc
      exact absurd hMk (S.apart c b y x M L hy e1 hM e2 hym (fun h => hb (h ▸ hc)))
  refine ⟨?_, ?_, ?_, ?_, fun b L e => by rw [hn]; exact S.dom b L e, ?_, fun b hb => by rw [hn]; exact S.rsv b hb, S.side⟩
  · intro b x e
    have hb : b ∉ ids := fun h => by rw [(hi b h).1] at e; cases e
    obtain ⟨L, l1, l2⟩ := S.at_ b x (by rw [← ho b hb]; exact e)
    refine ⟨L, l1, l2.reold fun hm => ?_⟩
    have := hap b x L e l1
    simp only [Frz.hide, this]
    exact l2.ge hm
  · intro b c x y L M e1 e2 e3 e4 hx hne
    have hb : b ∉ ids := fun h => by rw [(hi b h).1] at e1; cases e1
    have hc : c ∉ ids := fun h => by rw [(hi c h).1] at e2; cases e2
    exact S.apart b c x y L M (by rw [← ho b hb]; exact e1) (by rw [← ho c hc]; exact e2) e3 e4 hx hne
  · intro k o b e
    simp only [Frz.hide] at e
    split at e
    · simp only [Option.map_eq_some_iff, Prod.mk.injEq] at e
      obtain ⟨a, e1, rfl, _⟩ := e; exact e1
    · exact S.old k o b e
  · intro b x L o e1 e2 e3
    have hb : b ∉ ids := fun h => by rw [(hi b h).1] at e1; cases e1
    have := hap b x L e1 e2
    simp only [Frz.hide, this] at e3
    exact S.hid b x L o (by rw [← ho b hb]; exact e1) e2 e3
  · intro b hb
    by_cases hbi : b ∈ ids
    · exact (hi b hbi).1
    · rw [ho b hbi]; exact S.live b (by omega)

theorem Sim.unhide (S : Sim z μ G w) (hm : μ.le ν) (S' : Sim (z.hide μ ids w) ν h0 w') {G' : Heap} (hn : G'.nxt = h0.nxt) (ho : ∀ b, b ∉ ids → G'.get b = h0.get b)
    (hi : ∀ b ∈ ids, ∃ x, G'.get b = some x ∧ G.get b = some x ∧ x.mine = true) : Sim z ν G' w' := by
  -- hidden blocks
  have hh : ∀ k, atAny μ ids k = true → (∃ o, w.heap[k]? = some o) ∧ z.old k = none := by
    intro k hk
    obtain ⟨b, hb, L, hL, rfl⟩ := atAny_iff.1 hk
    obtain ⟨x, _, e2, e3⟩ := hi b hb
    obtain ⟨L', l1, l2⟩ := S.at_ b x e2
    rw [hL] at l1; cases l1
    exact ⟨⟨_, Array.getElem?_eq_getElem l2.lt⟩, l2.ge e3⟩
  have hnot : ∀ b x L, b ∉ ids → G'.get b = some x → ν b = some L → atAny μ ids L.blk = false := by
    intro b x L hb e1 e2
    cases hq : atAny μ ids L.blk with
    | false => rfl
    | true =>
      obtain ⟨⟨o, ho'⟩, _⟩ := hh _ hq
      exact absurd (by simp [Frz.hide, hq, ho']) (S'.hid b x L o (by rw [← ho b hb]; exact e1) e2)
  have hat : ∀ b ∈ ids, ∃ x L, G'.get b = some x ∧ G.get b = some x ∧ x.mine = true ∧ μ b = some L ∧ ν b = some L ∧ BlkAt μ z.old w L x := by
    intro b hb
    obtain ⟨x, e1, e2, e3⟩ := hi b hb
    obtain ⟨L, l1, l2⟩ := S.at_ b x e2
    exact ⟨x, L, e1, e2, e3, l1, hm _ _ l1, l2⟩
  refine ⟨?_, ?_, ?_, ?_, fun b L e => by rw [hn]; exact S'.dom b L e, ?_, fun b hb => by rw [hn]; exact S'.rsv b hb, S'.side⟩
  · intro b x e
    by_cases hb : b ∈ ids
    · obtain ⟨x', L, e1, e2, e3, e4, e5, e6⟩ := hat b hb
      rw [e] at e1; cases e1
      refine ⟨L, e5, e6.mono hm ?_⟩
      have hk : atAny μ ids L.blk = true := atAny_iff.2 ⟨b, hb, L, e4, rfl⟩
      obtain ⟨⟨o, ho'⟩, _⟩ := hh _ hk
      rw [ho', S'.old L.blk o true (by simp [Frz.hide, hk, ho'])]
    · obtain ⟨L, l1, l2⟩ := S'.at_ b x (by rw [← ho b hb]; exact e)
      refine ⟨L, l1, l2.reold fun hmn => ?_⟩
      have := l2.ge hmn
      simp only [Frz.hide, hnot b x L hb e l1] at this
      exact this
  · intro b c x y L M e1 e2 e3 e4 hx hne
    by_cases hb : b ∈ ids
    · obtain ⟨x', L', f1, f2, f3, f4, f5, f6⟩ := hat b hb
      rw [f5] at e3; cases e3
      by_cases hc : c ∈ ids
      · obtain ⟨y', M', g1, g2, g3, g4, g5, g6⟩ := hat c hc
        rw [g5] at e4; cases e4
        exact S.apart b c x' y' _ _ f2 g2 f4 g4 f3 hne
      · have := hnot c y M hc e2 e4
        intro hLM
        rw [← hLM, atAny_iff.2 ⟨b, hb, _, f4, rfl⟩] at this; cases this
    · by_cases hc : c ∈ ids
      · obtain ⟨y', M', g1, g2, g3, g4, g5, g6⟩ := hat c hc
        rw [g5] at e4; cases e4
        have := hnot b x L hb e1 e3
        intro hLM
        rw [hLM, atAny_iff.2 ⟨c, hc, _, g4, rfl⟩] at this; cases this
      · exact S'.apart b c x y L M (by rw [← ho b hb]; exact e1) (by rw [← ho c hc]; exact e2) e3 e4 hx hne
  · intro k o b e
    refine S'.old k o b ?_
    cases hq : atAny μ ids k with
    | false => simp [Frz.hide, hq, e]
    | true => rw [(hh k hq).2] at e; cases e
  · intro b x L o e1 e2 e3
    by_cases hb : b ∈ ids
    · obtain ⟨x', L', f1, f2, f3, f4, f5, f6⟩ := hat b hb
      rw [f5] at e2; cases e2
      rw [f6.ge f3] at e3; cases e3
    · refine S'.hid b x L o (by rw [← ho b hb]; exact e1) e2 ?_
      simp only [Frz.hide, hnot b x L hb e1 e2]
      exact e3
  · intro b hb
    by_cases hbi : b ∈ ids
    · obtain ⟨x', L', f1, f2, f3, f4, f5, f6⟩ := hat b hbi
      have := S'.dom b L' f5
      omega
    · rw [ho b hbi]; exact S'.live b (by omega)

/-- A hidden number has no block. -/
theorem Sim.hidden_none (S : Sim z μ G w) (hm : μ.le ν) (S' : Sim (z.hide μ ids w) ν h0 w') {b : Nat} (hb : b ∈ ids) {x : Blk} (e : G.get b = some x) : h0.get b = none := by
  cases hq : h0.get b with
  | none => rfl
  | some y =>
    obtain ⟨L, l1, l2⟩ := S.at_ b x e
    refine absurd ?_ (S'.hid b y L (w.heap[L.blk]'l2.lt) hq (hm _ _ l1))
    have hk : atAny μ ids L.blk = true := atAny_iff.2 ⟨b, hb, L, l1, rfl⟩
    simp [Frz.hide, hk, Array.getElem?_eq_getElem l2.lt]

/-! ### numbers that are put by -/
theorem Sim.bump (S : Sim z μ G w) (N : Nat) : Sim { z with res := fun b => z.res b || (decide (G.nxt ≤ b) && decide (b < G.nxt + N)) } μ ⟨G.nxt + N, G.l⟩ w := by
  refine ⟨S.at_, S.apart, S.old, S.hid, fun b L e => Nat.lt_of_lt_of_le (S.dom b L e) (Nat.le_add_right _ _), fun b hb => S.live b (by simp at hb; omega), fun b hb => ?_, S.side⟩
  simp only [Bool.or_eq_true, Bool.and_eq_true, decide_eq_true_eq] at hb
  rcases hb with hb | ⟨h1, h2⟩
  · obtain ⟨r1, r2⟩ := S.rsv b hb; exact ⟨r1, by simp; omega⟩
  · refine ⟨?_, h2⟩
    cases hq : μ b with
    | none => rfl
    | some L => have := S.dom b L hq; omega

theorem Sim.reres (S : Sim z μ G w) (f : Nat → Bool) (hf : ∀ b, f b = true → z.res b = true) : Sim { z with res := f } μ G w :=
  ⟨S.at_, S.apart, S.old, S.hid, S.dom, S.live, fun b hb => S.rsv b (hf b hb), S.side⟩

/-- A new block, under a number that was put by. -/
theorem Sim.addAt {id : Nat} (S : Sim z μ G w) (hr : z.res id = true) (f : Nat → Bool) (hf : ∀ b, f b = true → z.res b = true ∧ b ≠ id) (x : Blk) (o : Obj) (room : Nat)
    (hx : ∀ ν w', μ.le ν → w'.heap[w.heap.size]? = some o → BlkAt ν z.old w' ⟨w.heap.size, 0, room⟩ x) :
    μ.le (μ.upd id ⟨w.heap.size, 0, room⟩) ∧ Sim { z with res := f } (μ.upd id ⟨w.heap.size, 0, room⟩) (G.put id x) { w with heap := w.heap.push o } := by
  obtain ⟨hid, hlt⟩ := S.rsv id hr
  have hm : μ.le (μ.upd id ⟨w.heap.size, 0, room⟩) := by
    intro c M e
    by_cases hc : id = c
    · subst hc; rw [hid] at e; cases e
    · rw [Mu.upd_ne _ _ hc]; exact e
  have hold : ∀ k, k < w.heap.size → (w.heap.push o)[k]? = w.heap[k]? := fun k hk => by rw [Array.getElem?_push, if_neg (by omega)]
  refine ⟨hm, ?_, ?_, ?_, ?_, ?_, ?_, fun b hb => ?_, S.side.trans ⟨rfl, rfl, rfl⟩⟩
  · intro b y e
    rw [Heap.get_put] at e
    split at e
    · rename_i hb; subst hb; cases e
      exact ⟨_, Mu.upd_same _ _ _, hx _ _ hm (by simp)⟩
    · rename_i hb
      obtain ⟨L, e1, e2⟩ := S.at_ b y e
      exact ⟨L, by rw [Mu.upd_ne _ _ hb]; exact e1, e2.mono hm (hold _ e2.lt)⟩
  · intro b c y u L M e1 e2 e3 e4 hy hne
    rw [Heap.get_put] at e1 e2
    by_cases hb : id = b
    · subst hb
      rw [Mu.upd_same] at e3; cases e3
      rw [if_neg hne] at e2
      rw [Mu.upd_ne _ _ hne] at e4
      obtain ⟨M', m1, m2⟩ := S.at_ c u e2
      rw [e4] at m1; cases m1
      have := m2.lt; simp; omega
    · rw [if_neg hb] at e1
      rw [Mu.upd_ne _ _ hb] at e3
      obtain ⟨L', l1, l2⟩ := S.at_ b y e1
      rw [e3] at l1; cases l1
      by_cases hc : id = c
      · subst hc
        rw [Mu.upd_same] at e4; cases e4
        have := l2.lt; simp; omega
      · rw [if_neg hc] at e2
        rw [Mu.upd_ne _ _ hc] at e4
        exact S.apart b c y u L M e1 e2 e3 e4 hy hne
  · intro k q b hk
    have := S.old k q b hk
    exact (hold k (Array.getElem?_eq_some_iff.1 this).1).trans this
  · intro b y L q e1 e2
    rw [Heap.get_put] at e1
    by_cases hb : id = b
    · subst hb
      rw [Mu.upd_same] at e2; cases e2
      show z.old w.heap.size ≠ _
      rw [S.fresh]; simp
    · rw [if_neg hb] at e1
      rw [Mu.upd_ne _ _ hb] at e2
      exact S.hid b y L q e1 e2
  · intro b L e
    by_cases hb : id = b
    · subst hb; exact hlt
    · rw [Mu.upd_ne _ _ hb] at e; exact S.dom b L e
  · intro b hb
    rw [Heap.get_put]; simp at hb
    rw [if_neg (by omega)]; exact S.live b hb
  · obtain ⟨h1, h2⟩ := hf b hb
    obtain ⟨r1, r2⟩ := S.rsv b h1
    exact ⟨by rw [Mu.upd_ne _ _ (fun e => h2 e.symm)]; exact r1, r2⟩

/-! ### operations hang on their operands -/
theorem evalAll_congr {ρ σ : Operand → Option AV} : ∀ {l : List Operand}, (∀ x ∈ l, ρ x = σ x) → evalAll ρ l = evalAll σ l
  | [], _ => rfl
  | x :: l, h => by
    simp only [evalAll]
    rw [h x (List.mem_cons_self ..), evalAll_congr fun y hy => h y (List.mem_cons_of_mem _ hy)]

theorem evalParts_congr {ρ σ : Operand → Option AV} : ∀ {l : List (Nat × Operand)}, (∀ x ∈ l.map (·.2), ρ x = σ x) → evalParts ρ l = evalParts σ l
  | [], _ => rfl
  | (i, x) :: l, h => by
    simp only [evalParts]
    rw [h x (by simp), evalParts_congr fun y hy => h y (by simp only [List.map_cons]; exact List.mem_cons_of_mem _ hy)]

theorem evalOpt_congr {ρ σ : Operand → Option AV} {o : Option Operand} (h : ∀ x ∈ o.toList, ρ x = σ x) : evalOpt ρ o = evalOpt σ o := by
  cases o with
  | none => rfl
  | some x => simp only [evalOpt]; rw [h x (by simp)]

theorem opA_congr {ρ σ : Operand → Option AV} {op : Op} (h : ∀ x ∈ op.operands.toList, ρ x = σ x) (H : Heap) : opA T ρ op H = opA T σ op H := by
  cases op with
  | build t ps =>
    have := evalParts_congr (ρ := ρ) (σ := σ) (l := ps.toList) (fun x hx => h x (by simpa [Op.operands] using hx))
    simp only [opA, this]
  | buildSlice t n ps =>
    have := evalParts_congr (ρ := ρ) (σ := σ) (l := ps.toList) (fun x hx => h x (by simpa [Op.operands] using hx))
    simp only [opA, this]
  | makeFunc fn first cap =>
    have := evalAll_congr (ρ := ρ) (σ := σ) (l := cap.toList) (fun x hx => h x (by simp only [Op.operands, Array.toList_append, List.mem_append]; exact .inr hx))
    simp only [opA, this]
  | slice t x lo hi mx =>
    simp only [Op.operands, Array.toList_append, List.mem_append] at h
    have h0 := h x (.inl (.inl (.inl (by simp))))
    have h1 := evalOpt_congr (ρ := ρ) (σ := σ) (o := lo) (fun y hy => h y (.inl (.inl (.inr (by simpa using hy)))))
    have h2 := evalOpt_congr (ρ := ρ) (σ := σ) (o := hi) (fun y hy => h y (.inl (.inr (by simpa using hy))))
    have h3 := evalOpt_congr (ρ := ρ) (σ := σ) (o := mx) (fun y hy => h y (.inr (by simpa using hy)))
    simp only [opA, h0, h1, h2, h3]
  | makeMap t r =>
    have := evalOpt_congr (ρ := ρ) (σ := σ) (o := r) (fun y hy => h y (by simpa [Op.operands] using hy))
    simp only [opA, this]
  | call c =>
    obtain ⟨cl, args, ts⟩ := c
    cases cl with
    | builtin b =>
      have := evalAll_congr (ρ := ρ) (σ := σ) (l := args.toList) (fun x hx => h x (by simp only [Op.operands, Call.operands, Array.toList_append, List.mem_append]; exact .inr hx))
      simp only [opA, this]
    | _ => simp only [opA]
  | _ =>
    first
      | rfl
      | (simp only [Op.operands, List.mem_cons, List.not_mem_nil, or_false, forall_eq_or_imp, forall_eq] at h
         simp only [opA, h])

theorem tmp_of {l : List Operand} {s t : List AV} (h : ∀ x ∈ tmpsOf l, s[x]? = t[x]?) : ∀ x ∈ l, evalO s x = evalO t x := by
  intro x hx
  cases x with
  | tmp n =>
    have := h n (by simp only [tmpsOf, List.mem_filterMap]; exact ⟨_, hx, rfl⟩)
    simp [evalO, List.getD_eq_getElem?_getD, this]
  | _ => rfl

theorem wanted_congr {ops : List Oper} {o : Oper} {s t : List AV} (h : ∀ x ∈ readsOf ops o, s[x]? = t[x]?) : wantedA o ops s = wantedA o ops t := by
  unfold wantedA
  unfold readsOf at h
  cases hg : o.guard with
  | none => rfl
  | some p =>
    obtain ⟨j, want⟩ := p
    rw [hg] at h
    simp only at h ⊢
    cases hj : ops[j]? with
    | none => rfl
    | some g =>
      rw [hj] at h
      simp only at h ⊢
      cases hd : g.dst with
      | none => rfl
      | some d =>
        rw [hd] at h
        simp only
        rw [h d (by simp)]

/-! ### alike -/
mutual
theorem AV.eqb_eq : ∀ (a b : AV), AV.eqb a b = true → a = b
  | .int k a, b, h => by cases b <;> simp_all [AV.eqb]
  | .bool a, b, h => by cases b <;> simp_all [AV.eqb]
  | .str a, b, h => by cases b <;> simp_all [AV.eqb]
  | .ptr a, b, h => by cases b <;> simp_all [AV.eqb]
  | .slc a n c s, b, h => by cases b <;> simp_all [AV.eqb]
  | .map a, b, h => by cases b <;> simp_all [AV.eqb]
  | .func f l, b, h => by
    cases b with
    | func g m =>
      simp only [AV.eqb, Bool.and_eq_true, beq_iff_eq] at h
      rw [h.1, eqbs_eq l m h.2]
    | _ => simp [AV.eqb] at h
  | .nilFn, b, h => by cases b <;> simp_all [AV.eqb]
  | .iface t x, b, h => by
    cases b with
    | iface u y =>
      simp only [AV.eqb, Bool.and_eq_true, beq_iff_eq] at h
      rw [h.1, AV.eqb_eq x y h.2]
    | _ => simp [AV.eqb] at h
  | .nilIface, b, h => by cases b <;> simp_all [AV.eqb]
  | .agg l, b, h => by
    cases b with
    | agg m => simp only [AV.eqb] at h; rw [eqbs_eq l m h]
    | _ => simp [AV.eqb] at h
  | .tup l, b, h => by
    cases b with
    | tup m => simp only [AV.eqb] at h; rw [eqbs_eq l m h]
    | _ => simp [AV.eqb] at h
theorem eqbs_eq : ∀ (l m : List AV), eqbs l m = true → l = m
  | [], [], _ => rfl
  | [], _ :: _, h => by simp [eqbs] at h
  | _ :: _, [], h => by simp [eqbs] at h
  | a :: l, b :: m, h => by
    simp only [eqbs, Bool.and_eq_true] at h
    rw [AV.eqb_eq a b h.1, eqbs_eq l m h.2]
end

end Go.Am

/-
  The abstract machine: what it tells is so in the model; one operation.
-/
namespace Go.Am
variable {P : Program} {T : TT} {F : Nat → Option Func}

def SoundC (P : Program) (T : TT) (F : Nat → Option Func) (n : Nat) : Prop :=
  ∀ fn ro c f e f', evalC T F n fn ro c f = some (e, f') → ∀ (w0 : Frz) (μ : Mu) (w : World) (act : Act) (b : Frame) (k : List Item) (cs : List Frame),
    Sim w0 μ f.h w → VRs μ f.s act.tmps.toList → DRel μ f.ms act.defers → RoRel μ ro b.roundOf → b.fn = fn → b.kind = .normal →
    ∃ μ' w' act', μ.le μ' ∧ Sim w0 μ' f'.h w' ∧ VRs μ' f'.s act'.tmps.toList ∧ DRel μ' f'.ms act'.defers ∧ Lands P b k cs (lone (b.atR act (.code c :: k)) cs w) act' w' e

def SoundL (P : Program) (T : TT) (F : Nat → Option Func) (n : Nat) : Prop :=
  ∀ fn ro x f e f', evalC T F n fn ro (.loop x) f = some (e, f') → ∀ (w0 : Frz) (μ : Mu) (w : World) (act : Act) (b : Frame) (k : List Item) (cs : List Frame),
    Sim w0 μ f.h w → VRs μ f.s act.tmps.toList → DRel μ f.ms act.defers → RoRel μ ro b.roundOf → b.fn = fn → b.kind = .normal →
    ∃ μ' w' act', μ.le μ' ∧ Sim w0 μ' f'.h w' ∧ VRs μ' f'.s act'.tmps.toList ∧ DRel μ' f'.ms act'.defers ∧ Lands P b k cs (lone (b.atR act (.inLoop x :: k)) cs w) act' w' e

def SoundO (P : Program) (T : TT) (F : Nat → Option Func) (n : Nat) : Prop :=
  ∀ (ops : Array Oper) is s h s' h', evalOs T F n ops.toList is s h = some (s', h') → ∀ (w0 : Frz) (μ : Mu) (w : World) (act : Act) (b : Frame) (k : List Item) (cs : List Frame),
    Sim w0 μ h w → VRs μ s act.tmps.toList → b.kind = .normal →
    ∃ μ' w' act', μ.le μ' ∧ Sim w0 μ' h' w' ∧ VRs μ' s' act'.tmps.toList ∧ act'.defers = act.defers ∧ Steps P (lone (b.atR act (.inRegion ops is :: k)) cs w) (lone (b.atR act' k) cs w')

def SoundF (P : Program) (T : TT) (F : Nat → Option Func) (n : Nat) : Prop :=
  ∀ f args h v h', callF T F n f args h = some (v, h') → ∀ (w0 : Frz) (μ : Mu) (w : World) (vargs : Array Value), Sim w0 μ h w → VRs μ args vargs.toList →
    (∃ fn, P.funcs[f]? = some fn ∧ (fn.name == "runtime.NumGoroutine") = false ∧ fn.body.isNone = false) ∧
    ∀ cs, ∃ w' fr vv μ', μ.le μ' ∧ Sim w0 μ' h' w' ∧ VR μ' v vv ∧ Steps P (lone (Frame.enter P f vargs .normal) cs w) (lone fr cs w') ∧ fr.fn = f ∧ fr.leaving P w' (.returned vv)

def SoundR (P : Program) (T : TT) (F : Nat → Option Func) (n : Nat) : Prop :=
  ∀ l args h v h', roundF T F n l args h = some (v, h') → ∀ (w0 : Frz) (μ : Mu) (w : World) (vargs : Array Value) (L : Loc), Sim w0 μ h w → VRs μ args vargs.toList → μ l = some L →
    ∃ fn tmps assign body, (Instr.yield L.blk vargs).run P w = .ok (.round L.blk fn tmps assign body) w ∧
    ∀ (c : Frame) cs, ∃ w' vv μ', μ.le μ' ∧ Sim w0 μ' h' w' ∧ VR μ' v vv ∧ Steps P (lone (Frame.round L.blk fn tmps assign body .normal) (c :: cs) w) (lone (c.finish vv) cs w')

/-- One operation. -/
def SoundS (P : Program) (T : TT) (F : Nat → Option Func) (n : Nat) : Prop :=
  ∀ (ops : Array Oper) i is s h s' h', evalOs T F n ops.toList (i :: is) s h = some (s', h') → ∃ m s1 h1, n = m + 1 ∧ evalOs T F m ops.toList is s1 h1 = some (s', h') ∧
    ∀ (w0 : Frz) (μ : Mu) (w : World) (act : Act) (b : Frame) (k : List Item) (cs : List Frame) (rest : List Nat), Sim w0 μ h w → VRs μ s act.tmps.toList → b.kind = .normal →
      ∃ μ' w' act', μ.le μ' ∧ Sim w0 μ' h1 w' ∧ VRs μ' s1 act'.tmps.toList ∧ act'.defers = act.defers ∧ Steps P (lone (b.atR act (.inRegion ops (i :: rest) :: k)) cs w) (lone (b.atR act' (.inRegion ops rest :: k)) cs w')

theorem sound_S {n : Nat} (hT : TypesOk P T) (hFu : FuncsOk P F) (hF : SoundF P T F n) (hR : SoundR P T F n) : SoundS P T F (n + 1) := by
  intro ops i is s h s' h' e
  simp only [evalOs, Array.getElem?_toList] at e
  split at e
  · simp at e
  · rename_i o ho
    split at e
    · rename_i hw
      split at e
      · rename_i v h1 hop
        refine ⟨n, _, _, rfl, e, ?_⟩
        intro w0 μ w act b k cs rest S hs hk
        have hwr := wanted_rel hs o ops
        rw [← hwr] at hw
        have hρ := evalO_rel hs
        split at hop
        · rename_i f args ts hop'
          split at hop
          · rename_i g caps l hf hargs
            have hvf := hρ _ _ hf
            simp only [VR] at hvf
            obtain ⟨ccaps, hcaps, hfe⟩ := hvf
            have hrel := evalAll_rel hρ hargs
            have hall : VRs μ (l ++ caps) ((args.map act.eval) ++ ccaps).toList := by simpa using hrel.append hcaps
            have hdd : ∀ c, o.op ≠ .defer c := fun c hc => by rw [hop'] at hc; cases hc
            split at hop
            · rename_i v0 hex
              simp only [Option.some.injEq, Prod.mk.injEq] at hop
              obtain ⟨rfl, rfl⟩ := hop
              unfold externO at hex
              split at hex
              · rename_i fn hfn
                obtain ⟨q1, q2⟩ := hFu g fn hfn
                obtain ⟨vv, hv, hrun⟩ := extern_run q1 q2 hall hex
                have hr : (execOp act.eval o).run P w = .ok (.value vv) w := by
                  simp only [execOp, hop', Sem.run_bind, resolve, hfe, Deferred.ofValue, Sem.run_pure, Result.andThen_ok, invoke]
                  rw [← hrun w]
                  simp
                exact ⟨μ, w, act.put o.dst vv, Mu.le_refl _, S, put_rel hs o.dst hv, by cases o.dst <;> rfl, .one (stepR_value ho hw hdd hr)⟩
              · simp at hex
            · obtain ⟨⟨fn, q1, q2, q3⟩, hcall⟩ := hF g _ h v h1 hop w0 μ w _ S hall
              have hr : (execOp act.eval o).run P w = .ok (.enter g ((args.map act.eval) ++ ccaps)) w := by
                simp only [execOp, hop', Sem.run_bind, resolve, hfe, Deferred.ofValue, Sem.run_pure, Result.andThen_ok, invoke]
                rw [callFunc_run q1 q2 q3]
                simp
              have hdd : ∀ c, o.op ≠ .defer c := fun c hc => by rw [hop'] at hc; cases hc
              obtain ⟨w1, fr, vv, μ1, m1, m2, m3, m4, m5, m6⟩ := hcall (b.atR act (.inRegion ops (i :: rest) :: k) :: cs)
              have hfin : (b.atR act (.inRegion ops (i :: rest) :: k)).finish vv = b.atR (act.put o.dst vv) (.inRegion ops rest :: k) := by
                rw [Frame.finish_atR, ho]; rfl
              refine ⟨μ1, w1, act.put o.dst vv, m1, m2, put_rel (VRs.mono m1 _ _ hs) o.dst m3, by cases o.dst <;> rfl, ?_⟩
              refine Steps.head (stepR_enter ho hw hdd hr) (Steps.trans m4 (.one ?_))
              rw [← hfin]; exact step_leave_returned m6
          · rename_i l caps as hf hargs
            have hvf := hρ _ _ hf
            simp only [VR] at hvf
            obtain ⟨L, hL, _, hfe⟩ := hvf
            have hrel := evalAll_rel hρ hargs
            obtain ⟨fn, tmps, assign, body, hy, hround⟩ := hR l as h v h1 hop w0 μ w (args.map act.eval) L S (by simpa using hrel) hL
            have hr : (execOp act.eval o).run P w = .ok (.round L.blk fn tmps assign body) w := by
              simp only [execOp, hop', Sem.run_bind, resolve, hfe, Deferred.ofValue, Sem.run_pure, Result.andThen_ok, invoke]
              rw [← hy]
              simp
            have hdd : ∀ c, o.op ≠ .defer c := fun c hc => by rw [hop'] at hc; cases hc
            obtain ⟨w1, vv, μ1, m1, m2, m3, m4⟩ := hround (b.atR act (.inRegion ops (i :: rest) :: k)) cs
            have hfin : (b.atR act (.inRegion ops (i :: rest) :: k)).finish vv = b.atR (act.put o.dst vv) (.inRegion ops rest :: k) := by
              rw [Frame.finish_atR, ho]; rfl
            refine ⟨μ1, w1, act.put o.dst vv, m1, m2, put_rel (VRs.mono m1 _ _ hs) o.dst m3, by cases o.dst <;> rfl, ?_⟩
            rw [hfin] at m4
            exact Steps.head (stepR_roundv ho hw hdd hr) m4
          · simp at hop
        · obtain ⟨μ1, w1, r, r1, r2, r3, r4⟩ := op_sim hT S hρ o hop
          have hdd := opA_not_defer hop
          rcases r4 with ⟨vv, rfl, hv⟩ | ⟨rfl, rfl⟩
          · exact ⟨μ1, w1, act.put o.dst vv, r2, r3, put_rel (VRs.mono r2 _ _ hs) o.dst hv, by cases o.dst <;> rfl, .one (stepR_value ho hw hdd r1)⟩
          · exact ⟨μ1, w1, act.put o.dst undef, r2, r3, put_rel (VRs.mono r2 _ _ hs) o.dst (VR.undef _), by cases o.dst <;> rfl, .one (stepR_skipv ho hw hdd r1)⟩
      · simp at e
    · rename_i hw
      refine ⟨n, _, _, rfl, e, ?_⟩
      intro w0 μ w act b k cs rest S hs hk
      have hwr := wanted_rel hs o ops
      rw [← hwr] at hw
      have hstep := stepR_op_skip (P := P) (b := b) (a := act) (k := k) (cs := cs) (w := w) (ops := ops) (i := i) (rest := rest) (by simp [ho]; simpa using hw)
      simp only [ho, Option.bind_some] at hstep
      exact ⟨μ, w, act.put o.dst undef, Mu.le_refl _, S, put_rel hs o.dst (VR.undef _), by cases o.dst <;> rfl, .one hstep⟩

theorem sound_O {n : Nat} (hS : SoundS P T F (n + 1)) (hO : SoundO P T F n) : SoundO P T F (n + 1) := by
  intro ops is s h s' h' e w0 μ w act b k cs S hs hk
  cases is with
  | nil =>
    simp only [evalOs, Option.some.injEq, Prod.mk.injEq] at e
    obtain ⟨rfl, rfl⟩ := e
    exact ⟨μ, w, act, Mu.le_refl _, S, hs, rfl, .one stepR_region_end⟩
  | cons i is =>
    obtain ⟨m, s1, h1, hm, e1, hst⟩ := hS ops i is s h s' h' e
    cases hm
    obtain ⟨μ1, w1, act1, k1, k2, k3, k4, k5⟩ := hst w0 μ w act b k cs is S hs hk
    obtain ⟨μ2, w2, act2, j1, j2, j3, j4, j5⟩ := hO ops is _ _ _ _ e1 w0 μ1 w1 act1 b k cs k2 k3 hk
    exact ⟨μ2, w2, act2, Mu.le_trans k1 j1, j2, j3, j4.trans k4, Steps.trans k5 j5⟩

end Go.Am
