/-
  The abstract machine: on a heap that holds more, and lets more be written, all code tells the same.
-/
import Derived.Test.YtaockkmmjinhpaaAmLe
namespace Go.Am
variable {T : TT} {F : Nat → Option Func}

inductive HsLe : List (Nat × Heap) → List (Nat × Heap) → Prop
  | nil : HsLe [] []
  | cons {m h h' l l'} : Le h h' → HsLe l l' → HsLe ((m, h) :: l) ((m, h') :: l')
theorem HsLe.push {m : Nat} {h h' : Heap} (R : Le h h') : ∀ {l l'}, HsLe l l' → HsLe (l ++ [(m, h)]) (l' ++ [(m, h')])
  | _, _, .nil => .cons R .nil
  | _, _, .cons R1 H => .cons R1 (HsLe.push R H)
theorem HsLe.mem : ∀ {l l'}, HsLe l l' → ∀ {i m : Nat} {h' : Heap} {k : Nat}, ((m, h'), k) ∈ l'.zipIdx i → ∃ h, ((m, h), k) ∈ l.zipIdx i ∧ Le h h'
  | _, _, .nil, i, m, h', k, hm => by simp at hm
  | _, _, .cons R H, i, m, h', k, hm => by
    simp only [List.zipIdx_cons, List.mem_cons] at hm
    rcases hm with hm | hm
    · simp only [Prod.mk.injEq] at hm
      obtain ⟨⟨rfl, rfl⟩, rfl⟩ := hm
      exact ⟨_, by simp, R⟩
    · obtain ⟨h, h1, h2⟩ := H.mem hm
      exact ⟨h, by simp only [List.zipIdx_cons, List.mem_cons]; exact .inr h1, h2⟩

structure LeD (a b : DSt) : Prop where
  ss : b.ss = a.ss
  s : b.s = a.s
  hs : HsLe a.hs b.hs
  msk : b.msk = a.msk
  h : Le a.h b.h
  nb : b.nb = a.nb

theorem putsA_le {base : Nat} : ∀ (l : List (Nat × Blk)) {h h' : Heap}, Le h h' → Le (putsA base l h) (putsA base l h')
  | [], _, _, R => R
  | (_, b) :: l, _, _, R => putsA_le l (R.put _ b)
theorem heapFor_le {base : Nat} {nb : List (Nat × Blk)} {b msk : Nat} {h h' : Heap} (R : Le h h') : Le (heapFor base nb b msk h) (heapFor base nb b msk h') := putsA_le _ R

theorem sameV_le {h h' : Heap} (R : Le h h') {ρ : Operand → Option AV} {op : Op} {d : Option Nat} {s' : List AV} (e : sameV (opA T ρ op h) d s' = true) : sameV (opA T ρ op h') d s' = true := by
  cases h1 : opA T ρ op h with
  | none => rw [h1] at e; simp [sameV] at e
  | some p =>
    obtain ⟨v, h2⟩ := p
    obtain ⟨h3, e3, _⟩ := opA_le R h1
    rw [h1] at e
    rw [e3]
    exact e

theorem drawChk_le {ops : List Oper} {base : Nat} {st t : DSt} (D : LeD st t) (e : drawChk T ops base st = true) : drawChk T ops base t = true := by
  unfold drawChk at e ⊢
  simp only [Bool.or_eq_true] at e ⊢
  rcases e with e | e
  · exact .inl e
  · refine .inr ?_
    rw [List.all_eq_true] at e ⊢
    intro q hq
    have h1 := e q hq
    obtain ⟨o, i⟩ := q
    simp only at h1 ⊢
    rw [D.ss, D.s]
    simp only [Bool.or_eq_true] at h1 ⊢
    rcases h1 with h1 | h1
    · exact .inl h1
    · refine .inr ?_
      rw [List.all_eq_true] at h1 ⊢
      intro q hq
      obtain ⟨⟨m, h'⟩, k⟩ := q
      have H : HsLe (st.hs ++ [(st.msk, st.h)]) (t.hs ++ [(t.msk, t.h)]) := by rw [D.msk]; exact D.hs.push D.h
      obtain ⟨h, hm, R⟩ := H.mem hq
      have h2 := h1 _ hm
      simp only [Bool.or_eq_true] at h2 ⊢
      rcases h2 with h2 | h2
      · exact .inl h2
      · refine .inr ?_
        rw [D.nb]
        exact sameV_le (heapFor_le R) h2

theorem enterA_le {h1 h2 : Heap} (R : Le h1 h2) {ro : Option Nat} {s s' : List AV} {ms : List Nat} {df : Nat} {ms' : List Nat} {h1' : Heap} (e : enterA ro ⟨s, ms, h1⟩ = some (df, ms', h1')) :
    ∃ h2', enterA ro ⟨s', ms, h2⟩ = some (df, ms', h2') ∧ Le h1' h2' := by
  unfold enterA at e ⊢
  cases ro with
  | some l =>
    simp only at e ⊢
    split at e
    · rename_i r hr
      rw [R.hasL hr]
      simp only [Option.some.injEq, Prod.mk.injEq] at e
      obtain ⟨rfl, rfl, rfl⟩ := e
      exact ⟨_, rfl, R⟩
    · simp at e
  | none =>
    simp only [Option.some.injEq, Prod.mk.injEq] at e
    obtain ⟨rfl, rfl, rfl⟩ := e
    exact ⟨_, by simp only [R.nxt], R.add _⟩

theorem takeMarks_up : ∀ {ms : List Nat} {h1 h2 h1' : Heap} (_ : Le h1 h2) (_ : takeMarks ms h1 = some h1'), ∃ h2', takeMarks ms h2 = some h2' ∧ Le h1' h2'
  | [], h1, h2, h1', R, e => by
    simp only [takeMarks, Option.some.injEq] at e
    subst e
    exact ⟨h2, rfl, R⟩
  | m :: ms, h1, h2, h1', R, e => by
    simp only [takeMarks] at e ⊢
    split at e
    · rename_i hb
      rw [R.hasD hb]
      exact takeMarks_up (R.put _ _) e
    · simp at e

theorem resultsA_up {h hr : Heap} (R : Le h hr) {s : List AV} : ∀ {l : List ResultVar} {vs : List AV}, resultsA T h s l = some vs → resultsA T hr s l = some vs
  | [], vs, e => e
  | .tmp t :: l, vs, e => by
    simp only [resultsA] at e ⊢
    split at e
    · rename_i m hm
      rw [resultsA_up R hm]; exact e
    · simp at e
  | .cell a t :: l, vs, e => by
    simp only [resultsA] at e ⊢
    split at e
    · rename_i b o hp
      split at e
      · rename_i v m hv hm
        rw [R.load hv, resultsA_up R hm]
        exact e
      · simp at e
    · simp at e

structure Up (T : TT) (F : Nat → Option Func) (n : Nat) : Prop where
  c : ∀ fn ro c f e f1, evalC T F n fn ro c f = some (e, f1) → ∀ h', Le f.h h' → ∃ h1', evalC T F n fn ro c { f with h := h' } = some (e, { f1 with h := h1' }) ∧ Le f1.h h1'
  o : ∀ ops is s h s1 h1, evalOs T F n ops is s h = some (s1, h1) → ∀ h', Le h h' → ∃ h1', evalOs T F n ops is s h' = some (s1, h1') ∧ Le h1 h1'
  d : ∀ ops bf base is st st1, evalDs T F n ops bf base is st = some st1 → ∀ st', LeD st st' → ∃ st1', evalDs T F n ops bf base is st' = some st1' ∧ LeD st1 st1'
  f : ∀ f args h v h1, callF T F n f args h = some (v, h1) → ∀ h', Le h h' → ∃ h1', callF T F n f args h' = some (v, h1') ∧ Le h1 h1'
  r : ∀ l args h v h1, roundF T F n l args h = some (v, h1) → ∀ h', Le h h' → ∃ h1', roundF T F n l args h' = some (v, h1') ∧ Le h1 h1'

theorem up_zero : Up T F 0 := ⟨fun _ _ _ _ _ _ e => by simp [evalC] at e, fun _ _ _ _ _ _ e => by simp [evalOs] at e, fun _ _ _ _ _ _ e => by simp [evalDs] at e, fun _ _ _ _ _ e => by simp [callF] at e, fun _ _ _ _ _ e => by simp [roundF] at e⟩

theorem up_c {n : Nat} (ih : Up T F n) : ∀ fn ro c f e f1, evalC T F (n + 1) fn ro c f = some (e, f1) → ∀ h', Le f.h h' → ∃ h1', evalC T F (n + 1) fn ro c { f with h := h' } = some (e, { f1 with h := h1' }) ∧ Le f1.h h1' := by
  intro fn ro c f e f1 he h' R
  cases c with
  | skip => rw [evalC] at he; simp only [Option.some.injEq, Prod.mk.injEq] at he; obtain ⟨rfl, rfl⟩ := he; exact ⟨h', by rw [evalC], R⟩
  | label l => rw [evalC] at he; simp only [Option.some.injEq, Prod.mk.injEq] at he; obtain ⟨rfl, rfl⟩ := he; exact ⟨h', by rw [evalC], R⟩
  | exit i => rw [evalC] at he; simp only [Option.some.injEq, Prod.mk.injEq] at he; obtain ⟨rfl, rfl⟩ := he; exact ⟨h', by rw [evalC], R⟩
  | ret => rw [evalC] at he; simp only [Option.some.injEq, Prod.mk.injEq] at he; obtain ⟨rfl, rfl⟩ := he; exact ⟨h', by rw [evalC], R⟩
  | goto l => simp [evalC] at he
  | refuse w => simp [evalC] at he
  | scope x => rw [evalC] at he ⊢; exact ih.c _ _ _ _ _ _ he _ R
  | seq a b =>
    rw [evalC] at he ⊢
    cases ha : evalC T F n fn ro a f with
    | none => rw [ha] at he; simp at he
    | some p =>
      rw [ha] at he
      obtain ⟨k, f2⟩ := p
      obtain ⟨h2, e2, R2⟩ := ih.c _ _ _ _ _ _ ha _ R
      rw [e2]
      cases k with
      | normal => exact ih.c _ _ _ _ _ _ he _ R2
      | exit i => simp only [Option.some.injEq, Prod.mk.injEq] at he; obtain ⟨rfl, rfl⟩ := he; exact ⟨h2, rfl, R2⟩
      | ret => simp only [Option.some.injEq, Prod.mk.injEq] at he; obtain ⟨rfl, rfl⟩ := he; exact ⟨h2, rfl, R2⟩
  | loop x =>
    rw [evalC] at he ⊢
    cases ha : evalC T F n fn ro x f with
    | none => rw [ha] at he; simp at he
    | some p =>
      rw [ha] at he
      obtain ⟨k, f2⟩ := p
      obtain ⟨h2, e2, R2⟩ := ih.c _ _ _ _ _ _ ha _ R
      rw [e2]
      cases k with
      | normal => exact ih.c _ _ _ _ _ _ he _ R2
      | exit i => simp only [Option.some.injEq, Prod.mk.injEq] at he; obtain ⟨rfl, rfl⟩ := he; exact ⟨h2, rfl, R2⟩
      | ret => simp only [Option.some.injEq, Prod.mk.injEq] at he; obtain ⟨rfl, rfl⟩ := he; exact ⟨h2, rfl, R2⟩
  | block id x =>
    rw [evalC] at he ⊢
    cases ha : evalC T F n fn ro x f with
    | none => rw [ha] at he; simp at he
    | some p =>
      rw [ha] at he
      obtain ⟨k, f2⟩ := p
      obtain ⟨h2, e2, R2⟩ := ih.c _ _ _ _ _ _ ha _ R
      rw [e2]
      cases k with
      | normal => simp only [Option.some.injEq, Prod.mk.injEq] at he; obtain ⟨rfl, rfl⟩ := he; exact ⟨h2, rfl, R2⟩
      | ret => simp only [Option.some.injEq, Prod.mk.injEq] at he; obtain ⟨rfl, rfl⟩ := he; exact ⟨h2, rfl, R2⟩
      | exit i =>
        simp only at he ⊢
        by_cases hi : i = id
        · rw [if_pos hi] at he ⊢; simp only [Option.some.injEq, Prod.mk.injEq] at he; obtain ⟨rfl, rfl⟩ := he; exact ⟨h2, rfl, R2⟩
        · rw [if_neg hi] at he ⊢; simp only [Option.some.injEq, Prod.mk.injEq] at he; obtain ⟨rfl, rfl⟩ := he; exact ⟨h2, rfl, R2⟩
  | cond x a b =>
    rw [evalC] at he ⊢
    simp only
    cases hx : evalO f.s x with
    | none => rw [hx] at he; simp at he
    | some v =>
      rw [hx] at he
      cases v with
      | bool b => cases b <;> exact ih.c _ _ _ _ _ _ he _ R
      | _ => simp at he
  | region i ops draw =>
    rw [evalC] at he ⊢
    cases draw with
    | false =>
      simp only [Bool.false_eq_true, if_false] at he ⊢
      cases ho : evalOs T F n ops.toList (List.range ops.size) f.s f.h with
      | none => rw [ho] at he; simp at he
      | some p =>
        rw [ho] at he
        obtain ⟨s2, h2⟩ := p
        obtain ⟨h3, e3, R3⟩ := ih.o _ _ _ _ _ _ ho _ R
        rw [e3]
        simp only [Option.some.injEq, Prod.mk.injEq] at he
        obtain ⟨rfl, rfl⟩ := he
        exact ⟨h3, rfl, R3⟩
    | true =>
      simp only [if_true] at he ⊢
      by_cases hd : drawOk T ops = true
      · simp only [hd, if_true] at he ⊢
        cases hk : evalDs T F n ops.toList (befores ops.toList []) f.h.nxt (List.range ops.size) ⟨[], f.s, [], 0, ⟨f.h.nxt + ops.size, f.h.l⟩, []⟩ with
        | none => rw [hk] at he; simp at he
        | some st =>
          rw [hk] at he
          obtain ⟨st2, e2, D⟩ := ih.d _ _ _ _ _ _ hk ⟨[], f.s, [], 0, ⟨h'.nxt + ops.size, h'.l⟩, []⟩ ⟨rfl, rfl, .nil, rfl, R.bump _, rfl⟩
          rw [R.nxt] at e2 ⊢
          rw [e2]
          simp only at he ⊢
          split at he
          · rename_i hc
            rw [if_pos (drawChk_le D hc)]
            simp only [Option.some.injEq, Prod.mk.injEq] at he
            obtain ⟨rfl, rfl⟩ := he
            refine ⟨putsA f.h.nxt (st2.nb.filter fun p => !st2.msk.testBit p.1) st2.h, by rw [D.s], ?_⟩
            rw [D.nb, D.msk]
            exact putsA_le _ D.h
          · simp at he
      · simp only [hd, if_false, Bool.false_eq_true] at he; simp at he
  | rangeFunc g ps assign body =>
    rw [evalC] at he ⊢
    simp only
    cases hx : evalO f.s g with
    | none => rw [hx] at he; simp at he
    | some v =>
      rw [hx] at he
      cases v with
      | func k caps =>
        cases k with
        | func k =>
          simp only at he ⊢
          cases hen : enterA ro f with
          | none => rw [hen] at he; simp at he
          | some q =>
            obtain ⟨df, ms, h2⟩ := q
            rw [hen] at he
            obtain ⟨s, ms0, h⟩ := f
            obtain ⟨h3, e3, R3⟩ := enterA_le R (s' := s) hen
            rw [e3]
            simp only at he ⊢
            cases hc : callF T F n k (.func (.yield h2.nxt) [] :: caps) (h2.add (.loop { state := .ready, pending := none, fn := fn, tmps := s, params := ps.toList, assign, body, defers := df })) with
            | none => rw [hc] at he; simp at he
            | some p =>
              obtain ⟨v4, h4⟩ := p
              rw [hc] at he
              obtain ⟨h5, e5, R5⟩ := ih.f _ _ _ _ _ hc _ (R3.add _)
              rw [R3.nxt, e5]
              simp only at he ⊢
              split at he
              · rename_i r hr
                rw [R5.hasL hr]
                simp only
                split at he
                · simp at he
                · rename_i hb
                  rw [if_neg hb]
                  split at he
                  · simp only [Option.some.injEq, Prod.mk.injEq] at he
                    obtain ⟨rfl, rfl⟩ := he
                    exact ⟨_, rfl, R5.put _ _⟩
                  · simp only [Option.some.injEq, Prod.mk.injEq] at he
                    obtain ⟨rfl, rfl⟩ := he
                    exact ⟨_, rfl, R5.put _ _⟩
                  · simp only [Option.some.injEq, Prod.mk.injEq] at he
                    obtain ⟨rfl, rfl⟩ := he
                    exact ⟨_, rfl, R5.put _ _⟩
                  · simp at he
              · simp at he
        | _ => simp at he
      | _ => simp at he

theorem runO_up {n : Nat} (ih : Up T F n) {op : Op} {s : List AV} {h g h' : Heap} {v : AV} (e : runO T F n op s h = some (v, g)) (R : Le h h') : ∃ g', runO T F n op s h' = some (v, g') ∧ Le g g' := by
  unfold runO at e ⊢
  split at e
  · split at e
    · rename_i gf caps l h1 h2
      split at e
      · rename_i w hw
        simp only [Option.some.injEq, Prod.mk.injEq] at e
        obtain ⟨rfl, rfl⟩ := e
        exact ⟨h', rfl, R⟩
      · exact ih.f _ _ _ _ _ e _ R
    · exact ih.r _ _ _ _ _ e _ R
    · simp at e
  · exact opA_le R e

theorem up_o {n : Nat} (ih : Up T F n) : ∀ ops is s h s1 h1, evalOs T F (n + 1) ops is s h = some (s1, h1) → ∀ h', Le h h' → ∃ h1', evalOs T F (n + 1) ops is s h' = some (s1, h1') ∧ Le h1 h1' := by
  intro ops is s h s1 h1 e h' R
  cases is with
  | nil =>
    rw [evalOs] at e ⊢
    simp only [Option.some.injEq, Prod.mk.injEq] at e
    obtain ⟨rfl, rfl⟩ := e
    exact ⟨h', rfl, R⟩
  | cons i is =>
    cases ho : ops[i]? with
    | none => rw [evalOs, ho] at e; simp at e
    | some o =>
      rw [evalOs_cons ho] at e ⊢
      by_cases hw : wantedA o ops s = true
      · rw [if_pos hw] at e ⊢
        cases hx : runO T F n o.op s h with
        | none => rw [hx] at e; simp at e
        | some q =>
          obtain ⟨v, g⟩ := q
          rw [hx] at e
          obtain ⟨g', e', R'⟩ := runO_up ih hx R
          rw [e']
          exact ih.o _ _ _ _ _ _ e _ R'
      · rw [if_neg hw] at e ⊢
        exact ih.o _ _ _ _ _ _ e _ R

theorem up_d {n : Nat} (ih : Up T F n) : ∀ ops bf base is st st1, evalDs T F (n + 1) ops bf base is st = some st1 → ∀ st', LeD st st' → ∃ st1', evalDs T F (n + 1) ops bf base is st' = some st1' ∧ LeD st1 st1' := by
  intro ops bf base is st st1 e st' D
  cases is with
  | nil =>
    rw [evalDs] at e ⊢
    simp only [Option.some.injEq] at e
    subst e
    exact ⟨st', rfl, D⟩
  | cons i is =>
    rw [evalDs] at e ⊢
    cases ho : ops[i]? with
    | none => rw [ho] at e; simp at e
    | some o =>
      rw [ho] at e
      simp only at e ⊢
      cases hk : dkind T o.op with
      | eff =>
        simp only [hk] at e ⊢
        cases hx : evalOs T F n ops [i] st.s (heapFor base st.nb (bf.getD i 0) st.msk st.h) with
        | none => rw [hx] at e; simp at e
        | some p =>
          rw [hx] at e
          obtain ⟨s2, h2⟩ := p
          obtain ⟨h3, e3, R3⟩ := ih.o _ _ _ _ _ _ hx _ (heapFor_le D.h)
          rw [D.s, D.nb, D.msk, e3]
          exact ih.d _ _ _ _ _ _ e _ ⟨by rw [D.ss], rfl, by simp only; exact D.hs.push D.h, rfl, R3, rfl⟩
      | new =>
        simp only [hk] at e ⊢
        rw [D.s]
        by_cases hw : wantedA o ops st.s = true
        · simp only [hw, if_true] at e ⊢
          cases hx : allocA T (evalO st.s) o.op (base + i) with
          | none => rw [hx] at e; simp at e
          | some p => rw [hx] at e; exact ih.d _ _ _ _ _ _ e _ ⟨by rw [D.ss], rfl, D.hs, D.msk, D.h, by simp only [D.nb]⟩
        · simp only [hw, if_false, Bool.false_eq_true] at e ⊢
          exact ih.d _ _ _ _ _ _ e _ ⟨by rw [D.ss], rfl, D.hs, D.msk, D.h, D.nb⟩
      | quiet =>
        simp only [hk] at e ⊢
        rw [D.s]
        by_cases hw : wantedA o ops st.s = true
        · simp only [hw, if_true] at e ⊢
          cases hx : opA T (evalO st.s) o.op (heapFor base st.nb (bf.getD i 0) st.msk st.h) with
          | none => rw [hx] at e; simp at e
          | some p =>
            rw [hx] at e
            obtain ⟨v, g⟩ := p
            obtain ⟨g', e', _⟩ := opA_le (heapFor_le (base := base) (nb := st.nb) (b := bf.getD i 0) (msk := st.msk) D.h) hx
            rw [D.nb, D.msk, e']
            exact ih.d _ _ _ _ _ _ e _ ⟨by simp only [D.ss], rfl, D.hs, by first | rfl | exact D.msk, D.h, by first | rfl | exact D.nb⟩
        · simp only [hw, if_false, Bool.false_eq_true] at e ⊢
          exact ih.d _ _ _ _ _ _ e _ ⟨by rw [D.ss], rfl, D.hs, D.msk, D.h, D.nb⟩
      | no => simp only [hk] at e; simp at e

theorem up_f {n : Nat} (ih : Up T F n) : ∀ f args h v h1, callF T F (n + 1) f args h = some (v, h1) → ∀ h', Le h h' → ∃ h1', callF T F (n + 1) f args h' = some (v, h1') ∧ Le h1 h1' := by
  intro f args h v h1 e h' R
  rw [callF] at e ⊢
  cases hF : F f with
  | none => rw [hF] at e; simp at e
  | some fn =>
    rw [hF] at e
    simp only at e ⊢
    cases hb : fn.body with
    | none => rw [hb] at e; simp at e
    | some c =>
      rw [hb] at e
      simp only at e ⊢
      cases hc : evalC T F n f none c { s := args ++ List.replicate (fn.ntmps - args.length) undefA, ms := [], h } with
      | none => rw [hc] at e; simp at e
      | some p =>
        obtain ⟨k, f1⟩ := p
        rw [hc] at e
        obtain ⟨h2, e2, R2⟩ := ih.c _ _ _ _ _ _ hc h' R
        simp only at e2
        rw [e2]
        have key : (match takeMarks f1.ms f1.h with
            | none => none
            | some h2 => match resultsA T h2 f1.s fn.results.toList with
              | some [v] => some (v, h2)
              | some l => some (.tup l, h2)
              | none => none) = some (v, h1) → ∃ h1', (match takeMarks f1.ms h2 with
            | none => none
            | some h2 => match resultsA T h2 f1.s fn.results.toList with
              | some [v] => some (v, h2)
              | some l => some (.tup l, h2)
              | none => none) = some (v, h1') ∧ Le h1 h1' := by
          intro e
          split at e
          · simp at e
          · rename_i h3 hm
            obtain ⟨h4, e4, R4⟩ := takeMarks_up R2 hm
            rw [e4]
            simp only
            split at e
            · rename_i w hr
              rw [resultsA_up R4 hr]
              simp only [Option.some.injEq, Prod.mk.injEq] at e ⊢
              obtain ⟨rfl, rfl⟩ := e
              exact ⟨h4, ⟨rfl, rfl⟩, R4⟩
            · rename_i l hn hr
              rw [resultsA_up R4 hr]
              simp only [Option.some.injEq, Prod.mk.injEq] at e
              obtain ⟨rfl, rfl⟩ := e
              refine ⟨h4, ?_, R4⟩
              split
              · rename_i w hw
                simp only [Option.some.injEq] at hw
                exact absurd hw (hn _)
              · rename_i l' _ hl'
                simp only [Option.some.injEq] at hl'
                rw [hl']
              · rename_i hl'; cases hl'
            · simp at e
        cases k with
        | exit i => simp at e
        | normal => exact key e
        | ret => exact key e

theorem up_r {n : Nat} (ih : Up T F n) : ∀ l args h v h1, roundF T F (n + 1) l args h = some (v, h1) → ∀ h', Le h h' → ∃ h1', roundF T F (n + 1) l args h' = some (v, h1') ∧ Le h1 h1' := by
  intro l args h v h1 e h' R
  rw [roundF] at e ⊢
  cases hl : h.get l with
  | none => rw [hl] at e; simp at e
  | some b =>
    rw [hl] at e
    cases b with
    | loop q =>
      rw [R.hasL hl]
      simp only at e ⊢
      by_cases ha : args.length ≠ q.params.length
      · rw [if_pos ha] at e; simp at e
      · rw [if_neg ha] at e ⊢
        cases hc : evalC T F n q.fn (some l) q.assign { s := setAll q.tmps q.params args, ms := [], h } with
        | none => rw [hc] at e; simp at e
        | some p =>
          rw [hc] at e
          obtain ⟨k, f1⟩ := p
          obtain ⟨h2, e2, R2⟩ := ih.c _ _ _ _ _ _ hc h' R
          simp only at e2
          rw [e2]
          cases k with
          | normal =>
            simp only at e ⊢
            cases hg : f1.h.get l with
            | none => rw [hg] at e; simp at e
            | some b1 =>
              rw [hg] at e
              cases b1 with
              | loop r1 =>
                rw [R2.hasL hg]
                simp only at e ⊢
                by_cases hr : r1.state ≠ .ready ∨ f1.ms ≠ []
                · rw [if_pos hr] at e; simp at e
                · rw [if_neg hr] at e ⊢
                  cases hc2 : evalC T F n q.fn (some l) q.body { f1 with h := f1.h.put l (.loop { r1 with state := .busy }) } with
                  | none => rw [hc2] at e; simp at e
                  | some p2 =>
                    rw [hc2] at e
                    obtain ⟨k2, f2⟩ := p2
                    obtain ⟨h3, e3, R3⟩ := ih.c _ _ _ _ _ _ hc2 _ (R2.put l (.loop { r1 with state := .busy }))
                    simp only at e3
                    rw [e3]
                    simp only at e ⊢
                    cases hg2 : f2.h.get l with
                    | none => rw [hg2] at e; simp at e
                    | some b2 =>
                      rw [hg2] at e
                      cases b2 with
                      | loop r2 =>
                        rw [R3.hasL hg2]
                        simp only at e ⊢
                        by_cases hm : f2.ms ≠ []
                        · rw [if_pos hm] at e; simp at e
                        · rw [if_neg hm] at e ⊢
                          cases k2 with
                          | normal => simp only [Option.some.injEq, Prod.mk.injEq] at e ⊢; obtain ⟨rfl, rfl⟩ := e; exact ⟨_, ⟨rfl, rfl⟩, R3.put _ _⟩
                          | ret => simp only [Option.some.injEq, Prod.mk.injEq] at e ⊢; obtain ⟨rfl, rfl⟩ := e; exact ⟨_, ⟨rfl, rfl⟩, R3.put _ _⟩
                          | exit i => simp only [Option.some.injEq, Prod.mk.injEq] at e ⊢; obtain ⟨rfl, rfl⟩ := e; exact ⟨_, ⟨rfl, rfl⟩, R3.put _ _⟩
                      | _ => simp at e
              | _ => simp at e
          | _ => simp at e
    | _ => simp at e

theorem up : ∀ n, Up T F n
  | 0 => up_zero
  | n + 1 => have ih := up n; ⟨up_c ih, up_o ih, up_d ih, up_f ih, up_r ih⟩

end Go.Am
