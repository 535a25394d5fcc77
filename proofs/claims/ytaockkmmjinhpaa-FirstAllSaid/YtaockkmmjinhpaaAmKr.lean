/-
  The abstract machine for the kernel tells what the abstract machine tells, on each greater heap.
-/
import Derived.Test.YtaockkmmjinhpaaAmKe
import Derived.Test.YtaockkmmjinhpaaAmRo
namespace Go.Am
open Go.RowKit
variable {T : TT} {F : Nat → Option Func}

structure LOk (T : TT) (F : Nat → Option Func) (p : LvX) : Prop where
  c : ∀ fn n ro c f e f', Ok n f.s → p.c fn n ro c f = some (e, f') → Ok n f'.s ∧ ∀ P g hr, Rel P g f.h hr → WC T F fn ro c ⟨toL n f.s, f.ms, hr⟩ fun e1 f1 => ∃ h1, e1 = e ∧ f1 = ⟨toL n f'.s, f'.ms, h1⟩ ∧ Rel P g f'.h h1
  f : ∀ k args h v h', p.f k args h = some (v, h') → ∀ P g hr, Rel P g h hr → WF T F k args hr fun v1 h1 => v1 = v ∧ Rel P g h' h1
  r : ∀ l args h v h', p.r l args h = some (v, h') → ∀ P g hr, Rel P g h hr → WR T F l args hr fun v1 h1 => v1 = v ∧ Rel P g h' h1

theorem lok0 : LOk T F lvx0 := ⟨fun _ _ _ _ _ _ _ _ e => by simp [lvx0] at e, fun _ _ _ _ _ e => by simp [lvx0] at e, fun _ _ _ _ _ e => by simp [lvx0] at e⟩

theorem mkEs_ok {s : SS} : ∀ {l : List Operand} {g : SS → List AV}, mkEs l = some g → evalAll (evX s) l = some (g s)
  | [], g, e => by
    simp only [mkEs, Option.some.injEq] at e
    subst e; rfl
  | x :: l, g, e => by
    simp only [mkEs] at e
    split at e
    · rename_i g' hx hg
      simp only [Option.some.injEq] at e
      subst e
      simp only [evalAll, mkEs_ok hg, evX, hx, if_true]
    · simp at e

theorem rawBx_ok {p : LvX} (lok : LOk T F p) {n : Nat} {s : SS} (ok : Ok n s) {op : Op} {d : DF} {h : Heap} {r : SS × Heap} (e : (rawBx T F op d).run p.f p.r s h = some r) :
    ∃ v h', r = (d v s, h') ∧ ∀ P g hr, Rel P g h hr → WK T F op (toL n s) hr (fun v1 h1 => v1 = v ∧ Rel P g h' h1) := by
  unfold rawBx at e
  split at e
  · rename_i f args ts
    split at e
    · rename_i g hg
      obtain ⟨hf, e⟩ := wE_run e
      have e : obP (callR F p.f p.r ((mkE f).f s) (g s) h) (fun v h => some (d v s, h)) = some r := e
      obtain ⟨v, h', e1, e2⟩ := obP_eq e
      simp only [Option.some.injEq] at e2
      refine ⟨v, h', e2.symm, fun P g0 hr R => ?_⟩
      have hg := mkEs_ok (s := s) hg
      rw [evX_eq ok] at hf hg
      unfold WK
      simp only [hf, hg]
      unfold callR at e1
      split at e1
      · rename_i k caps hk
        rw [hk]
        simp only
        split at e1
        · rename_i w hw
          simp only [Option.some.injEq, Prod.mk.injEq] at e1
          rw [hw]
          exact ⟨e1.1, e1.2 ▸ R⟩
        · rename_i hw
          rw [hw]
          exact lok.f _ _ _ _ _ e1 _ _ _ R
      · rename_i b caps hk
        rw [hk]
        exact lok.r _ _ _ _ _ e1 _ _ _ R
      · simp at e1
    · simp [bad] at e
  · rename_i hno
    obtain ⟨v, h', e1, e2⟩ := opBx_ok e
    refine ⟨v, h', e2, fun P g0 hr R => ?_⟩
    rw [evX_eq ok] at e1
    obtain ⟨h2, e3, R2⟩ := opA_rel R e1
    unfold WK
    split
    · rename_i f args ts
      exact absurd rfl (hno _ _ _)
    · rw [e3]
      exact ⟨rfl, R2⟩

theorem mkD_eq {n : Nat} {s : SS} (ok : Ok n s) (o : Oper) (v : AV) : Ok n ((mkD n o.dst).f v s) ∧ toL n ((mkD n o.dst).f v s) = putA (toL n s) o.dst v := mkD_ok ok _ _

theorem toL_get {n : Nat} {s : SS} (ok : Ok n s) (i : Nat) (hi : i < 512) : (match (toL n s)[i]? with | some (.bool b) => some b | _ => none) = (match (mkG 3 i).f s with | .bool b => some b | _ => none) := by
  unfold toL
  rw [List.getElem?_map]
  rcases Nat.lt_or_ge i n with h | h
  · rw [List.getElem?_range h]
    simp only [Option.map_some]
    cases (mkG 3 i).f s <;> rfl
  · rw [List.getElem?_eq_none (by simpa using h), ok.2 i h hi]; rfl

theorem mkBx_ok {p : LvX} (lok : LOk T F p) {n : Nat} {s s' : SS} (ok : Ok n s) {all : List Oper} {o : Oper} {h h' : Heap} (e : (mkBx T F n all o).run p.f p.r s h = some (s', h')) :
    Ok n s' ∧ ∀ P g hr, Rel P g h hr → ∀ Q : List AV → Heap → Prop, (∀ h1, Rel P g h' h1 → Q (toL n s') h1) → WL T F all [o] (toL n s) hr Q := by
  unfold mkBx at e
  have fin : ∀ {s1 h1}, (rawBx T F o.op (mkD n o.dst).f).run p.f p.r s h = some (s1, h1) → wantedA o all (toL n s) = true → Ok n s1 ∧ ∀ P g hr, Rel P g h hr → ∀ Q : List AV → Heap → Prop, (∀ h2, Rel P g h1 h2 → Q (toL n s1) h2) → WL T F all [o] (toL n s) hr Q := by
    intro s1 h1 e hw
    obtain ⟨v, h2, e2, w⟩ := rawBx_ok lok ok e
    simp only [Prod.mk.injEq] at e2
    obtain ⟨rfl, rfl⟩ := e2
    obtain ⟨ok2, e3⟩ := mkD_eq ok o v
    refine ⟨ok2, fun P g hr R Q q => ?_⟩
    rw [e3] at q
    simp only [WL]
    exact ⟨fun _ => (w P g hr R).mono fun v1 h1 ⟨a, b⟩ => by subst a; exact q _ b, fun hf => by rw [hw] at hf; cases hf⟩
  have no : wantedA o all (toL n s) = false → Ok n ((mkD n o.dst).f undefA s) ∧ ∀ P g hr, Rel P g h hr → ∀ Q : List AV → Heap → Prop, (∀ h2, Rel P g h h2 → Q (toL n ((mkD n o.dst).f undefA s)) h2) → WL T F all [o] (toL n s) hr Q := by
    intro hw
    obtain ⟨ok2, e3⟩ := mkD_eq ok o undefA
    refine ⟨ok2, fun P g hr R Q q => ?_⟩
    rw [e3] at q
    simp only [WL]
    exact ⟨fun ht => (by rw [hw] at ht; cases ht), fun _ => q _ R⟩
  generalize hd : mkD n o.dst = db at e fin no
  obtain ⟨d⟩ := db
  simp only at e fin no
  cases hg : o.guard with
  | none =>
    rw [hg] at e
    exact fin e (by simp only [wantedA, hg])
  | some q =>
    obtain ⟨j, want⟩ := q
    rw [hg] at e
    simp only at e
    cases hj : all[j]? with
    | none => rw [hj] at e; simp [bad] at e
    | some g =>
      rw [hj] at e
      simp only at e
      cases hgd : g.dst with
      | none => rw [hgd] at e; simp [bad] at e
      | some k =>
        rw [hgd] at e
        simp only at e
        split at e
        · rename_i hk
          have hw : wantedA o all (toL n s) = (match (match (toL n s)[k]? with | some (.bool b) => some b | _ => none) with | some b => b == want | none => false) := by
            simp only [wantedA, hg, hj, hgd]
            cases (toL n s)[k]? with
            | none => rfl
            | some v => cases v <;> rfl
          rw [toL_get ok k hk] at hw
          generalize rawBx T F o.op d = rb at e fin
          obtain ⟨run⟩ := rb
          generalize mkG 3 k = gb at e hw
          obtain ⟨gf⟩ := gb
          have e : opGuard run (gf s) want d p.f p.r s h = some (s', h') := e
          simp only at hw
          cases hv : gf s with
          | bool b =>
            rw [hv] at e hw
            have e : @Bool.rec (fun _ => Option (SS × Heap)) (some (d undefA s, h)) (run p.f p.r s h) (b == want) = some (s', h') := e
            simp only at hw
            cases hb : (b == want) with
            | true =>
              rw [hb] at e hw
              exact fin e hw
            | false =>
              rw [hb] at e hw
              simp only [Option.some.injEq, Prod.mk.injEq] at e
              obtain ⟨rfl, rfl⟩ := e
              exact no hw
          | _ =>
            rw [hv] at e hw
            simp only [opGuard, Option.some.injEq, Prod.mk.injEq] at e
            obtain ⟨rfl, rfl⟩ := e
            exact no hw
        · simp [bad] at e

theorem runL_ok {p : LvX} (lok : LOk T F p) {n : Nat} {all : List Oper} : ∀ {l : List Oper} {s s' : SS} {h h' : Heap} (_ : Ok n s) (_ : runL p.f p.r (l.map (mkBx T F n all)) s h = some (s', h')),
    Ok n s' ∧ ∀ P g hr, Rel P g h hr → ∀ Q : List AV → Heap → Prop, (∀ h1, Rel P g h' h1 → Q (toL n s') h1) → WL T F all l (toL n s) hr Q
  | [], s, s', h, h', ok, e => by
    have e : some (s, h) = some (s', h') := e
    simp only [Option.some.injEq, Prod.mk.injEq] at e
    obtain ⟨rfl, rfl⟩ := e
    exact ⟨ok, fun P g hr R Q q => q _ R⟩
  | o :: l, s, s', h, h', ok, e => by
    have e : obP ((mkBx T F n all o).run p.f p.r s h) (runL p.f p.r (l.map (mkBx T F n all))) = some (s', h') := e
    obtain ⟨s1, h1, e1, e2⟩ := obP_eq e
    obtain ⟨ok1, w1⟩ := mkBx_ok lok ok e1
    obtain ⟨ok2, w2⟩ := runL_ok lok ok1 e2
    exact ⟨ok2, fun P g hr R Q q => w1 P g hr R (fun s h => WL T F all l s h Q) fun h2 R2 => w2 P g h2 R2 Q q⟩

theorem wantedX_eq {n : Nat} {s : SS} (ok : Ok n s) (o : Oper) (all : List Oper) : wantedX o all s = wantedA o all (toL n s) := by
  unfold wantedX wantedA
  cases o.guard with
  | none => rfl
  | some q =>
    obtain ⟨j, want⟩ := q
    simp only
    cases all[j]? with
    | none => rfl
    | some g =>
      simp only
      cases g.dst with
      | none => rfl
      | some k =>
        simp only
        by_cases hk : k < 512
        · rw [if_pos hk]
          have := toL_get ok k hk
          cases h1 : (toL n s)[k]? with
          | none =>
            rw [h1] at this
            cases h2 : (mkG 3 k).f s <;> rw [h2] at this <;> first | rfl | simp at this
          | some v =>
            rw [h1] at this
            cases v <;> cases h2 : (mkG 3 k).f s <;> rw [h2] at this <;> first | rfl | (simp at this; try (subst this; rfl))
        · have hn : (toL n s).length ≤ k := by rw [toL_len]; exact Nat.le_trans ok.1 (Nat.le_of_not_lt hk)
          rw [if_neg hk, List.getElem?_eq_none hn]

structure XOk (n : Nat) (st : DSx) : Prop where
  ss : ∀ s ∈ st.ss, Ok n s
  s : Ok n st.s

inductive HsRel (P : Nat → Prop) (g : Heap) : List (Nat × Heap) → List (Nat × Heap) → Prop
  | nil : HsRel P g [] []
  | cons {m h h' l l'} : Rel P g h h' → HsRel P g l l' → HsRel P g ((m, h) :: l) ((m, h') :: l')
theorem HsRel.push {P : Nat → Prop} {g : Heap} {m : Nat} {h h' : Heap} (R : Rel P g h h') : ∀ {l l'}, HsRel P g l l' → HsRel P g (l ++ [(m, h)]) (l' ++ [(m, h')])
  | _, _, .nil => .cons R .nil
  | _, _, .cons R1 H => .cons R1 (HsRel.push R H)
theorem HsRel.mem {P : Nat → Prop} {g : Heap} : ∀ {l l'}, HsRel P g l l' → ∀ {i m : Nat} {h' : Heap} {k : Nat}, ((m, h'), k) ∈ l'.zipIdx i → ∃ h, ((m, h), k) ∈ l.zipIdx i ∧ Rel P g h h'
  | _, _, .nil, i, m, h', k, hm => by simp at hm
  | _, _, .cons R H, i, m, h', k, hm => by
    simp only [List.zipIdx_cons, List.mem_cons] at hm
    rcases hm with hm | hm
    · simp only [Prod.mk.injEq] at hm
      obtain ⟨⟨rfl, rfl⟩, rfl⟩ := hm
      exact ⟨_, by simp, R⟩
    · obtain ⟨h, h1, h2⟩ := H.mem hm
      exact ⟨h, by simp only [List.zipIdx_cons, List.mem_cons]; exact .inr h1, h2⟩

structure SRel (P : Nat → Prop) (g : Heap) (n : Nat) (st : DSx) (t : DSt) : Prop where
  ss : t.ss = st.ss.map (toL n)
  s : t.s = toL n st.s
  hs : HsRel P g st.hs t.hs
  msk : t.msk = st.msk
  h : Rel P g st.h t.h
  nb : t.nb = st.nb

theorem putsA_rel {P : Nat → Prop} {g : Heap} {base : Nat} (hP : ∀ c, P c → c < base) : ∀ (l : List (Nat × Blk)) {h h' : Heap}, Rel P g h h' → Rel P g (putsA base l h) (putsA base l h')
  | [], _, _, R => R
  | (i, b) :: l, _, _, R => putsA_rel hP l (R.put (fun hb => by have := hP _ hb; omega) b)
theorem heapFor_rel {P : Nat → Prop} {g : Heap} {base : Nat} (hP : ∀ c, P c → c < base) {nb : List (Nat × Blk)} {b msk : Nat} {h h' : Heap} (R : Rel P g h h') : Rel P g (heapFor base nb b msk h) (heapFor base nb b msk h') := putsA_rel hP _ R

theorem dsX_ok {p : LvX} (lok : LOk T F p) {n : Nat} {all : List Oper} {bf : List Nat} {base : Nat} : ∀ {l : List Oper} {i : Nat} {st st' : DSx} (_ : XOk n st) (_ : dsX T F p.f p.r n all bf base l i st = some st'),
    XOk n st' ∧ st'.ss.length = st.ss.length + l.length ∧ ∀ P g, (∀ c, P c → c < base) → ∀ t, SRel P g n st t → ∀ Q : DSt → Prop, (∀ t', SRel P g n st' t' → Q t') → WD T F all bf base l i t Q
  | [], i, st, st', ok, e => by
    have e : some st = some st' := e
    simp only [Option.some.injEq] at e
    subst e
    exact ⟨ok, rfl, fun P g hP t D Q q => q t D⟩
  | o :: l, i, st, st', ok, e => by
    have push : ∀ {s1 : SS}, Ok n s1 → ∀ {hs msk h nb}, XOk n ⟨st.ss ++ [st.s], s1, hs, msk, h, nb⟩ := by
      intro s1 ok1 hs msk h nb
      refine ⟨fun s hs => ?_, ok1⟩
      simp only [List.mem_append, List.mem_singleton] at hs
      rcases hs with h1 | rfl
      · exact ok.ss s h1
      · exact ok.s
    have len : ∀ {m k : Nat}, m = (st.ss ++ [st.s]).length + k → m = st.ss.length + (k + 1) := by
      intro m k h
      rw [h, List.length_append]; simp; omega
    have hw := wantedX_eq ok.s o all
    have e : (match dkind T o.op with
      | .eff => obP ((mkBx T F n all o).run p.f p.r st.s (heapFor base st.nb (bf.getD i 0) st.msk st.h)) fun s1 h1 =>
        dsX T F p.f p.r n all bf base l (i + 1) { ss := st.ss ++ [st.s], s := s1, hs := st.hs ++ [(st.msk, st.h)], msk := st.msk ||| bf.getD i 0, h := h1, nb := st.nb }
      | .new =>
        if wantedX o all st.s then obP (allocA T (evX st.s) o.op (base + i)) fun v b => dsX T F p.f p.r n all bf base l (i + 1) { st with ss := st.ss ++ [st.s], s := (mkD n o.dst).f v st.s, nb := st.nb ++ [(i, b)] }
        else dsX T F p.f p.r n all bf base l (i + 1) { st with ss := st.ss ++ [st.s], s := (mkD n o.dst).f undefA st.s }
      | .quiet =>
        if wantedX o all st.s then obP (opA T (evX st.s) o.op (heapFor base st.nb (bf.getD i 0) st.msk st.h)) fun v _ => dsX T F p.f p.r n all bf base l (i + 1) { st with ss := st.ss ++ [st.s], s := (mkD n o.dst).f v st.s }
        else dsX T F p.f p.r n all bf base l (i + 1) { st with ss := st.ss ++ [st.s], s := (mkD n o.dst).f undefA st.s }
      | .no => none) = some st' := e
    rw [hw, evX_eq ok.s] at e
    obtain ⟨oku, eu⟩ := mkD_eq ok.s o undefA
    have pushD : ∀ {P g t}, SRel P g n st t → ∀ {s1 nb}, SRel P g n ⟨st.ss ++ [st.s], s1, st.hs, st.msk, st.h, nb⟩ ⟨t.ss ++ [t.s], toL n s1, t.hs, t.msk, t.h, nb⟩ := by
      intro P g t D s1 nb
      exact ⟨by rw [D.ss, D.s]; simp, rfl, D.hs, D.msk, D.h, rfl⟩
    have no : dsX T F p.f p.r n all bf base l (i + 1) { st with ss := st.ss ++ [st.s], s := (mkD n o.dst).f undefA st.s } = some st' →
        XOk n st' ∧ st'.ss.length = st.ss.length + (l.length + 1) ∧ ∀ P g, (∀ c, P c → c < base) → ∀ t, SRel P g n st t → ∀ Q : DSt → Prop, (∀ t', SRel P g n st' t' → Q t') → WD T F all bf base l (i + 1) { t with ss := t.ss ++ [t.s], s := putA t.s o.dst undefA } Q := by
      intro e
      obtain ⟨a, b, c⟩ := dsX_ok lok (push oku) e
      refine ⟨a, len b, fun P g hP t D Q q => ?_⟩
      have := c P g hP _ (pushD D) Q q
      rw [eu, ← D.s, ← D.nb] at this
      exact this
    unfold WD
    cases hk : dkind T o.op with
    | eff =>
      rw [hk] at e
      obtain ⟨s1, h1, e2, e3⟩ := obP_eq e
      obtain ⟨ok1, w1⟩ := mkBx_ok lok ok.s e2
      obtain ⟨a, b, c⟩ := dsX_ok lok (push ok1) e3
      refine ⟨a, len b, fun P g hP t D Q q => ?_⟩
      simp only
      rw [D.s, D.nb, D.msk]
      refine w1 P g _ (heapFor_rel hP D.h) _ fun h2 R2 => ?_
      refine c P g hP _ ⟨by rw [D.ss]; simp, rfl, ?_, rfl, R2, rfl⟩ Q q
      exact D.hs.push D.h
    | new =>
      rw [hk] at e
      simp only at e ⊢
      by_cases hwt : wantedA o all (toL n st.s) = true
      · rw [if_pos hwt] at e
        obtain ⟨v, b, e2, e3⟩ := obP_eq e
        obtain ⟨ok1, e4⟩ := mkD_eq ok.s o v
        obtain ⟨a, b', c⟩ := dsX_ok lok (push ok1) e3
        refine ⟨a, len b', fun P g hP t D Q q => ?_⟩
        rw [D.s]
        refine ⟨fun _ => ?_, fun hf => absurd (hwt.symm.trans hf) (by simp)⟩
        rw [e2]
        have := c P g hP _ (pushD D) Q q
        rw [e4, ← D.nb, D.s] at this
        exact this
      · rw [if_neg hwt] at e
        obtain ⟨a, b, c⟩ := no e
        refine ⟨a, b, fun P g hP t D Q q => ⟨fun ht => absurd (D.s ▸ ht) hwt, fun _ => c P g hP t D Q q⟩⟩
    | quiet =>
      rw [hk] at e
      simp only at e ⊢
      by_cases hwt : wantedA o all (toL n st.s) = true
      · rw [if_pos hwt] at e
        obtain ⟨v, b, e2, e3⟩ := obP_eq e
        obtain ⟨ok1, e4⟩ := mkD_eq ok.s o v
        obtain ⟨a, b', c⟩ := dsX_ok lok (push ok1) e3
        refine ⟨a, len b', fun P g hP t D Q q => ?_⟩
        rw [D.s, D.nb, D.msk]
        refine ⟨fun _ => ?_, fun hf => absurd (hwt.symm.trans hf) (by simp)⟩
        obtain ⟨h2, e5, _⟩ := opA_rel (heapFor_rel hP D.h) e2
        rw [e5]
        have := c P g hP _ (pushD D) Q q
        rw [e4, ← D.nb, D.s] at this
        rw [← D.msk, ← D.nb]
        exact this
      · rw [if_neg hwt] at e
        obtain ⟨a, b, c⟩ := no e
        refine ⟨a, b, fun P g hP t D Q q => ⟨fun ht => absurd (D.s ▸ ht) hwt, fun _ => c P g hP t D Q q⟩⟩
    | no => rw [hk] at e; simp at e

theorem sameVX_eq {n : Nat} {s : SS} (ok : Ok n s) (r : Option (AV × Heap)) (dst : Option Nat) : sameVX r n dst s = sameV r dst (toL n s) := by
  cases r with
  | none => rfl
  | some p =>
    cases dst with
    | none => rfl
    | some d =>
      simp only [sameVX, sameV]
      unfold toL
      rw [List.getElem?_map]
      by_cases hd : d < n
      · rw [if_pos hd, List.getElem?_range hd]; rfl
      · rw [if_neg hd, List.getElem?_eq_none (by simpa using hd)]; rfl

theorem sameV_rel {P : Nat → Prop} {g h h' : Heap} (R : Rel P g h h') {ρ : Operand → Option AV} {op : Op} {d : Option Nat} {s' : List AV} (e : sameV (opA T ρ op h) d s' = true) : sameV (opA T ρ op h') d s' = true := by
  cases h1 : opA T ρ op h with
  | none => rw [h1] at e; simp [sameV] at e
  | some p =>
    obtain ⟨v, h2⟩ := p
    obtain ⟨h3, e3, _⟩ := opA_rel R h1
    rw [h1] at e
    rw [e3]
    exact e

theorem drawChkX_ok {n : Nat} {ops : List Oper} {base : Nat} {st : DSx} (ok : XOk n st) (hl : st.ss.length = ops.length) {P : Nat → Prop} {g : Heap} (hP : ∀ c, P c → c < base) {t : DSt} (D : SRel P g n st t) (e : drawChkX T ops base n st = true) : drawChk T ops base t = true := by
  have key : ∀ i, i ≤ ops.length → Ok n ((st.ss ++ [st.s]).getD i (und 3)) ∧ (t.ss ++ [t.s]).getD i [] = toL n ((st.ss ++ [st.s]).getD i (und 3)) := by
    intro i hi
    have : t.ss ++ [t.s] = (st.ss ++ [st.s]).map (toL n) := by rw [D.ss, D.s]; simp
    rw [this, List.getD_eq_getElem?_getD, List.getD_eq_getElem?_getD, List.getElem?_map]
    have hi2 : i < (st.ss ++ [st.s]).length := by rw [List.length_append, hl]; simp; omega
    rw [List.getElem?_eq_getElem hi2]
    refine ⟨?_, rfl⟩
    have hm := List.getElem_mem hi2
    simp only [List.mem_append, List.mem_singleton] at hm
    simp only [Option.getD_some]
    rcases hm with h1 | h1
    · exact ok.ss _ h1
    · rw [h1]; exact ok.s
  unfold drawChkX at e
  unfold drawChk
  simp only [Bool.or_eq_true] at e ⊢
  rcases e with e | e
  · exact .inl e
  · refine .inr ?_
    rw [List.all_eq_true] at e ⊢
    intro q hq
    have h1 := e q hq
    obtain ⟨o, i⟩ := q
    have hi : i < ops.length := by
      have := List.mem_zipIdx hq
      omega
    obtain ⟨k1, k2⟩ := key i (by omega)
    obtain ⟨k3, k4⟩ := key (i + 1) (by omega)
    simp only at h1 ⊢
    rw [wantedX_eq k1, evX_eq k1, ← k2] at h1
    simp only [sameVX_eq k3, ← k4] at h1
    simp only [Bool.or_eq_true] at h1 ⊢
    rcases h1 with h1 | h1
    · exact .inl h1
    · refine .inr ?_
      rw [List.all_eq_true] at h1 ⊢
      intro q hq
      obtain ⟨⟨m, h'⟩, k⟩ := q
      have H : HsRel P g (st.hs ++ [(st.msk, st.h)]) (t.hs ++ [(t.msk, t.h)]) := by rw [D.msk]; exact D.hs.push D.h
      obtain ⟨h, hm, R⟩ := H.mem hq
      have h2 := h1 _ hm
      simp only [Bool.or_eq_true] at h2 ⊢
      rcases h2 with h2 | h2
      · exact .inl h2
      · refine .inr ?_
        rw [D.nb]
        exact sameV_rel (heapFor_rel hP R) h2

theorem regionX_ok {p : LvX} (lok : LOk T F p) {fn : Nat} {ro : Option Nat} {n i : Nat} {ops : Array Oper} {draw : Bool} {f f' : Fx} {e : AE} (ok : Ok n f.s) (h : regionX T F p n ops draw f = some (e, f')) :
    Ok n f'.s ∧ ∀ P g hr, Rel P g f.h hr → WC T F fn ro (.region i ops draw) ⟨toL n f.s, f.ms, hr⟩ fun e1 f1 => ∃ h1, e1 = e ∧ f1 = ⟨toL n f'.s, f'.ms, h1⟩ ∧ Rel P g f'.h h1 := by
  unfold regionX at h
  cases draw with
  | false =>
    obtain ⟨s, h1, e1, e2⟩ := obP_eq h
    simp only [Option.some.injEq, Prod.mk.injEq] at e2
    obtain ⟨rfl, rfl⟩ := e2
    obtain ⟨ok1, w⟩ := runL_ok lok ok e1
    refine ⟨ok1, fun P g hr R => WP.run ?_⟩
    simp only [WP, Bool.false_eq_true, if_false]
    exact w P g hr R _ fun h2 R2 => ⟨h2, by simp, rfl, R2⟩
  | true =>
    simp only at h
    split at h
    · rename_i hq
      obtain ⟨s, h1, e1, e2⟩ := obP_eq h
      simp only [Option.some.injEq, Prod.mk.injEq] at e2
      obtain ⟨rfl, rfl⟩ := e2
      obtain ⟨ok1, w⟩ := runL_ok lok ok e1
      exact ⟨ok1, fun P g hr R => (WP_quiet hq (w P g _ (R.bump _) _ fun h2 R2 => ⟨h2, rfl, rfl, R2⟩)).run⟩
    · split at h
      · rename_i hd
        obtain ⟨st, e1, e2⟩ := ob_eq h
        split at e2
        · rename_i hc
          simp only [Option.some.injEq, Prod.mk.injEq] at e2
          obtain ⟨rfl, rfl⟩ := e2
          obtain ⟨a, b, c⟩ := dsX_ok lok (st := ⟨[], f.s, [], 0, ⟨f.h.nxt + ops.size, f.h.l⟩, []⟩) ⟨fun s hs => by simp at hs, ok⟩ e1
          refine ⟨a.s, fun P g hr R => WP.run ?_⟩
          have hP : ∀ c, P c → c < f.h.nxt := fun c hc => (R.gone c hc).2
          rw [WP_drawn]
          refine ⟨hd, ?_⟩
          rw [R.nxt]
          refine c P g hP _ ⟨rfl, rfl, .nil, rfl, ?_, rfl⟩ _ fun t D => ⟨drawChkX_ok a (by simpa using b) hP D hc, putsA f.h.nxt (t.nb.filter fun p => !t.msk.testBit p.1) t.h, rfl, ?_, ?_⟩
          · have := R.bump ops.size
            rw [show (⟨f.h.nxt + ops.size, hr.l⟩ : Heap) = hr.bump ops.size from by rw [← R.nxt]; rfl]
            exact this
          · rw [D.s]
          · rw [D.nb, D.msk]
            exact putsA_rel hP _ D.h
        · simp at e2
      · simp at h

theorem evX_ok {n : Nat} {s : SS} (ok : Ok n s) (x : Operand) : evX s x = evalO (toL n s) x := by rw [evX_eq ok]

abbrev WCx (T : TT) (F : Nat → Option Func) (fn n : Nat) (ro : Option Nat) (c : Code) (f : Fx) (e : AE) (f' : Fx) : Prop :=
  ∀ P g hr, Rel P g f.h hr → WC T F fn ro c ⟨toL n f.s, f.ms, hr⟩ fun e1 f1 => ∃ h1, e1 = e ∧ f1 = ⟨toL n f'.s, f'.ms, h1⟩ ∧ Rel P g f'.h h1
abbrev CIn (T : TT) (F : Nat → Option Func) (p : LvX) (fn n : Nat) (ro : Option Nat) (c : Code) : Prop :=
  ∀ (f : Fx) (e : AE) (f' : Fx), Ok n f.s → cX T F p fn n ro c f = some (e, f') → Ok n f'.s ∧ WCx T F fn n ro c f e f'

theorem seqX_ok {r : Option (AE × Fx)} {b : Fx → Option (AE × Fx)} {e : AE} {f' : Fx} (h : seqX r b = some (e, f')) : (∃ f1, r = some (.normal, f1) ∧ b f1 = some (e, f')) ∨ (r = some (e, f') ∧ e ≠ .normal) := by
  unfold seqX at h
  split at h
  · rename_i f1
    exact .inl ⟨f1, rfl, h⟩
  · rename_i hno
    refine .inr ⟨h, fun he => ?_⟩
    subst he
    exact hno f' h

theorem enterA_rel {P : Nat → Prop} {g h1 h2 : Heap} (R : Rel P g h1 h2) {ro : Option Nat} {s s' : List AV} {ms : List Nat} {df : Nat} {ms' : List Nat} {h1' : Heap} (e : enterA ro ⟨s, ms, h1⟩ = some (df, ms', h1')) :
    ∃ h2', enterA ro ⟨s', ms, h2⟩ = some (df, ms', h2') ∧ Rel P g h1' h2' := by
  unfold enterA at e ⊢
  cases ro with
  | some l =>
    simp only at e ⊢
    split at e
    · rename_i r hr
      rw [R.has _ _ hr]
      simp only [Option.some.injEq, Prod.mk.injEq] at e
      obtain ⟨rfl, rfl, rfl⟩ := e
      exact ⟨_, rfl, R⟩
    · simp at e
  | none =>
    simp only [Option.some.injEq, Prod.mk.injEq] at e
    obtain ⟨rfl, rfl, rfl⟩ := e
    exact ⟨_, by simp only [R.nxt], R.add _⟩

theorem rangeX_ok {p : LvX} (lok : LOk T F p) {fn n : Nat} {ro : Option Nat} {g : Operand} {ps : Array Tmp} {a b : Code} {f f' : Fx} {e : AE} (ok : Ok n f.s) (h : rangeX p fn n ro g ps a b f = some (e, f')) :
    Ok n f'.s ∧ WCx T F fn n ro (.rangeFunc g ps a b) f e f' := by
  unfold rangeX at h
  rw [evX_ok ok] at h
  split at h
  · rename_i k caps hg
    split at h
    · simp at h
    · rename_i df ms hh he
      simp only at h
      split at h
      · simp at h
      · rename_i v h2 hc
        split at h
        · rename_i r hr
          split at h
          · simp at h
          · rename_i hb
            have go : ∀ P g0 h0, Rel P g0 f.h h0 → ∃ m hh' h1, enterA ro ⟨toL n f.s, f.ms, h0⟩ = some (df, ms, hh') ∧ hh'.nxt = hh.nxt ∧
                callF T F m k (.func (.yield hh'.nxt) [] :: caps) (hh'.add (.loop { state := .ready, pending := none, fn := fn, tmps := toL n f.s, params := ps.toList, assign := a, body := b, defers := df })) = some (v, h1) ∧ h1.get hh.nxt = some (.loop r) ∧
                Rel P g0 (h2.put hh.nxt (.loop { r with state := .exhausted })) (h1.put hh.nxt (.loop { r with state := .exhausted })) := by
              intro P g0 h0 R
              obtain ⟨hh', e1, R1⟩ := enterA_rel R (s' := toL n f.s) he
              obtain ⟨m, v1, h1, e2, q1, R2⟩ := lok.f _ _ _ _ _ hc P g0 _ (R1.add _)
              subst q1
              exact ⟨m, hh', h1, e1, R1.nxt, by rw [R1.nxt]; exact e2, R2.has _ _ hr, R2.put (R2.no hr) _⟩
            split at h
            · rename_i hp
              simp only [Option.some.injEq, Prod.mk.injEq] at h
              obtain ⟨rfl, rfl⟩ := h
              refine ⟨ok, fun P g0 h0 R => ?_⟩
              obtain ⟨m, hh', h1, e1, e2, e3, e4, R2⟩ := go P g0 h0 R
              refine ⟨m + 1, _, _, ?_, _, rfl, rfl, R2⟩
              rw [e2] at e3
              rw [evalC]
              simp only [hg, e1, e2, e3, e4, hb, if_false, hp]
            · rename_i hp
              simp only [Option.some.injEq, Prod.mk.injEq] at h
              obtain ⟨rfl, rfl⟩ := h
              refine ⟨ok, fun P g0 h0 R => ?_⟩
              obtain ⟨m, hh', h1, e1, e2, e3, e4, R2⟩ := go P g0 h0 R
              refine ⟨m + 1, _, _, ?_, _, rfl, rfl, R2⟩
              rw [e2] at e3
              rw [evalC]
              simp only [hg, e1, e2, e3, e4, hb, if_false, hp]
            · rename_i i hp
              simp only [Option.some.injEq, Prod.mk.injEq] at h
              obtain ⟨rfl, rfl⟩ := h
              refine ⟨ok, fun P g0 h0 R => ?_⟩
              obtain ⟨m, hh', h1, e1, e2, e3, e4, R2⟩ := go P g0 h0 R
              refine ⟨m + 1, _, _, ?_, _, rfl, rfl, R2⟩
              rw [e2] at e3
              rw [evalC]
              simp only [hg, e1, e2, e3, e4, hb, if_false, hp]
            · simp at h
        · simp at h
  · simp at h

theorem cX_ok {p : LvX} (lok : LOk T F p) {fn n : Nat} {ro : Option Nat} : ∀ (c : Code), CIn T F p fn n ro c
  | .skip, f, e, f', ok, h => by
    have h : some (AE.normal, f) = some (e, f') := h
    simp only [Option.some.injEq, Prod.mk.injEq] at h
    obtain ⟨rfl, rfl⟩ := h
    exact ⟨ok, fun P g hr R => ⟨1, _, _, by rw [evalC], _, rfl, rfl, R⟩⟩
  | .label _, f, e, f', ok, h => by
    have h : some (AE.normal, f) = some (e, f') := h
    simp only [Option.some.injEq, Prod.mk.injEq] at h
    obtain ⟨rfl, rfl⟩ := h
    exact ⟨ok, fun P g hr R => ⟨1, _, _, by rw [evalC], _, rfl, rfl, R⟩⟩
  | .exit id, f, e, f', ok, h => by
    have h : some (AE.exit id, f) = some (e, f') := h
    simp only [Option.some.injEq, Prod.mk.injEq] at h
    obtain ⟨rfl, rfl⟩ := h
    exact ⟨ok, fun P g hr R => ⟨1, _, _, by rw [evalC], _, rfl, rfl, R⟩⟩
  | .ret, f, e, f', ok, h => by
    have h : some (AE.ret, f) = some (e, f') := h
    simp only [Option.some.injEq, Prod.mk.injEq] at h
    obtain ⟨rfl, rfl⟩ := h
    exact ⟨ok, fun P g hr R => ⟨1, _, _, by rw [evalC], _, rfl, rfl, R⟩⟩
  | .goto _, f, e, f', ok, h => by
    have h : (none : Option (AE × Fx)) = some (e, f') := h
    simp at h
  | .refuse _, f, e, f', ok, h => by
    have h : (none : Option (AE × Fx)) = some (e, f') := h
    simp at h
  | .scope c, f, e, f', ok, h => by
    obtain ⟨a, w⟩ := cX_ok lok (fn := fn) (ro := ro) c f e f' ok h
    refine ⟨a, fun P g hr R => ?_⟩
    obtain ⟨m, e1, f1, ev, w⟩ := w P g hr R
    exact ⟨m + 1, e1, f1, by rw [evalC]; exact ev, w⟩
  | .seq a b, f, e, f', ok, h => by
    have h : seqX (cX T F p fn n ro a f) (cX T F p fn n ro b) = some (e, f') := h
    rcases seqX_ok h with ⟨f1, h1, h2⟩ | ⟨h1, h2⟩
    · obtain ⟨ok1, w1⟩ := cX_ok lok a f _ _ ok h1
      obtain ⟨ok2, w2⟩ := cX_ok lok b f1 _ _ ok1 h2
      refine ⟨ok2, fun P g hr R => WC.seq ((w1 P g hr R).mono fun e1 f2 ⟨h2, q1, q2, R2⟩ => ?_)⟩
      subst q1; subst q2
      exact w2 P g h2 R2
    · obtain ⟨ok1, w1⟩ := cX_ok lok a f _ _ ok h1
      refine ⟨ok1, fun P g hr R => WC.seq ((w1 P g hr R).mono fun e1 f2 ⟨h3, q1, q2, R2⟩ => ?_)⟩
      subst q1; subst q2
      cases e1 with
      | normal => exact absurd rfl h2
      | exit i => exact ⟨h3, rfl, rfl, R2⟩
      | ret => exact ⟨h3, rfl, rfl, R2⟩
  | .loop a, f, e, f', ok, h => by
    have h : seqX (cX T F p fn n ro a f) (fun f1 => p.c fn n ro (.loop a) f1) = some (e, f') := h
    rcases seqX_ok h with ⟨f1, h1, h2⟩ | ⟨h1, h2⟩
    · obtain ⟨ok1, w1⟩ := cX_ok lok a f _ _ ok h1
      obtain ⟨ok2, w2⟩ := lok.c _ _ _ _ _ _ _ ok1 h2
      refine ⟨ok2, fun P g hr R => WC.loop ((w1 P g hr R).mono fun e1 f2 ⟨h2, q1, q2, R2⟩ => ?_)⟩
      subst q1; subst q2
      exact w2 P g h2 R2
    · obtain ⟨ok1, w1⟩ := cX_ok lok a f _ _ ok h1
      refine ⟨ok1, fun P g hr R => WC.loop ((w1 P g hr R).mono fun e1 f2 ⟨h3, q1, q2, R2⟩ => ?_)⟩
      subst q1; subst q2
      cases e1 with
      | normal => exact absurd rfl h2
      | exit i => exact ⟨h3, rfl, rfl, R2⟩
      | ret => exact ⟨h3, rfl, rfl, R2⟩
  | .cond x a b, f, e, f', ok, h => by
    have h : ob (evX f.s x) (fun v => condX v (cX T F p fn n ro a) (cX T F p fn n ro b) f) = some (e, f') := h
    obtain ⟨v, hv, h⟩ := ob_eq h
    rw [evX_ok ok] at hv
    unfold condX at h
    split at h
    · rename_i y
      cases y with
      | true =>
        obtain ⟨ok1, w⟩ := cX_ok lok (fn := fn) (ro := ro) a f e f' ok h
        refine ⟨ok1, fun P g hr R => ?_⟩
        obtain ⟨m, e1, f1, ev, w⟩ := w P g hr R
        exact ⟨m + 1, e1, f1, by rw [evalC, hv]; exact ev, w⟩
      | false =>
        obtain ⟨ok1, w⟩ := cX_ok lok (fn := fn) (ro := ro) b f e f' ok h
        refine ⟨ok1, fun P g hr R => ?_⟩
        obtain ⟨m, e1, f1, ev, w⟩ := w P g hr R
        exact ⟨m + 1, e1, f1, by rw [evalC, hv]; exact ev, w⟩
    · simp at h
  | .block id c, f, e, f', ok, h => by
    have h : blockX id (cX T F p fn n ro c f) = some (e, f') := h
    unfold blockX at h
    split at h
    · rename_i i f1 h1
      obtain ⟨ok1, w⟩ := cX_ok lok (fn := fn) (ro := ro) c f _ _ ok h1
      by_cases hi : i = id
      · rw [if_pos hi] at h
        simp only [Option.some.injEq, Prod.mk.injEq] at h
        obtain ⟨rfl, rfl⟩ := h
        refine ⟨ok1, fun P g hr R => ?_⟩
        obtain ⟨m, e1, f2, ev, h2, q1, q2, R2⟩ := w P g hr R
        subst q1; subst q2
        exact ⟨m + 1, _, _, by rw [evalC, ev]; simp only [hi, if_true], _, rfl, rfl, R2⟩
      · rw [if_neg hi] at h
        simp only [Option.some.injEq, Prod.mk.injEq] at h
        obtain ⟨rfl, rfl⟩ := h
        refine ⟨ok1, fun P g hr R => ?_⟩
        obtain ⟨m, e1, f2, ev, h2, q1, q2, R2⟩ := w P g hr R
        subst q1; subst q2
        exact ⟨m + 1, _, _, by rw [evalC, ev]; simp only [hi, if_false], _, rfl, rfl, R2⟩
    · rename_i hno
      obtain ⟨ok1, w⟩ := cX_ok lok (fn := fn) (ro := ro) c f _ _ ok h
      refine ⟨ok1, fun P g hr R => ?_⟩
      obtain ⟨m, e1, f2, ev, h2, q1, q2, R2⟩ := w P g hr R
      subst q1; subst q2
      refine ⟨m + 1, e1, _, ?_, _, rfl, rfl, R2⟩
      rw [evalC, ev]
      cases e1 with
      | normal => rfl
      | ret => rfl
      | exit i => exact absurd h (hno _ _)
  | .region i ops draw, f, e, f', ok, h => regionX_ok lok ok h
  | .rangeFunc g ps a b, f, e, f', ok, h => rangeX_ok lok ok h

theorem resX_ok {n : Nat} {s : SS} (ok : Ok n s) {P : Nat → Prop} {g h hr : Heap} (R : Rel P g h hr) : ∀ {l : List ResultVar} {vs : List AV}, resX T h s l = some vs → resultsA T hr (toL n s) l = some vs
  | [], vs, e => e
  | .tmp t :: l, vs, e => by
    simp only [resX] at e
    split at e
    · rename_i ht
      split at e
      · rename_i m hm
        simp only [resultsA, resX_ok ok R hm, toL_getD ok, ht, if_true]
        exact e
      · simp at e
    · simp at e
  | .cell a t :: l, vs, e => by
    simp only [resX] at e
    split at e
    · rename_i ht
      simp only [resultsA, toL_getD ok, ht, if_true]
      split at e
      · rename_i b o hp
        rw [hp]
        simp only
        split at e
        · rename_i v m hv hm
          rw [R.load hv, resX_ok ok R hm]
          exact e
        · simp at e
      · simp at e
    · simp at e

theorem ofX_get : ∀ (l : List AV) (i : Nat) (t : SS) (j : Nat), i + l.length ≤ 512 → j < 512 → (mkG 3 j).f (ofX l i t) = if i ≤ j ∧ j < i + l.length then l.getD (j - i) undefA else (mkG 3 j).f t
  | [], i, t, j, h, hj => by
    rw [if_neg (by simp)]; rfl
  | v :: l, i, t, j, h, hj => by
    simp only [List.length_cons] at h
    simp only [ofX]
    rw [ofX_get l (i + 1) _ j (by omega) hj, mkG_mkS 3 i j v t (by omega) (by omega)]
    by_cases h1 : i = j
    · subst h1
      rw [if_neg (by omega), if_pos rfl, if_pos (by simp)]
      simp
    · rw [if_neg h1]
      by_cases h2 : i + 1 ≤ j ∧ j < i + 1 + l.length
      · rw [if_pos h2, if_pos (by simp only [List.length_cons]; omega)]
        obtain ⟨k, rfl⟩ : ∃ k, j = i + 1 + k := ⟨j - (i + 1), by omega⟩
        rw [show i + 1 + k - (i + 1) = k by omega, show i + 1 + k - i = k + 1 by omega]
        rfl
      · rw [if_neg h2, if_neg (by simp only [List.length_cons]; omega)]

theorem ofX_ok {l : List AV} {n : Nat} (h1 : l.length ≤ n) (h2 : n ≤ 512) : Ok n (ofX l 0 (und 3)) ∧ toL n (ofX l 0 (und 3)) = l ++ List.replicate (n - l.length) undefA := by
  constructor
  · refine ⟨h2, fun i hi h3 => ?_⟩
    rw [ofX_get l 0 _ i (by omega) h3, if_neg (by omega), mkG_und]
  · refine List.ext_getElem? fun j => ?_
    unfold toL
    rw [List.getElem?_map]
    rcases Nat.lt_or_ge j n with h | h
    · rw [List.getElem?_range h]
      simp only [Option.map_some]
      rw [ofX_get l 0 _ j (by omega) (by omega), mkG_und]
      by_cases hj : j < l.length
      · rw [if_pos (by omega), List.getElem?_append_left hj, List.getElem?_eq_getElem hj]
        simp [List.getD_eq_getElem?_getD, hj]
      · rw [if_neg (by omega), List.getElem?_append_right (by omega), List.getElem?_replicate, if_pos (by omega)]
    · rw [List.getElem?_eq_none (by simpa using h), List.getElem?_eq_none (by simp; omega)]
      rfl

theorem takeMarks_rel {P : Nat → Prop} {g : Heap} : ∀ {ms : List Nat} {h1 h2 h1' : Heap} (_ : Rel P g h1 h2) (_ : takeMarks ms h1 = some h1'), ∃ h2', takeMarks ms h2 = some h2' ∧ Rel P g h1' h2'
  | [], h1, h2, h1', R, e => by
    simp only [takeMarks, Option.some.injEq] at e
    subst e
    exact ⟨h2, rfl, R⟩
  | m :: ms, h1, h2, h1', R, e => by
    simp only [takeMarks] at e ⊢
    split at e
    · rename_i hb
      rw [R.has _ _ hb]
      exact takeMarks_rel (R.put (R.no hb) _) e
    · simp at e

theorem endX_ok {n : Nat} {P : Nat → Prop} {g hr : Heap} {f1 : Fx} (ok : Ok n f1.s) (R : Rel P g f1.h hr) {res : List ResultVar} {v : AV} {h' : Heap} (e : endX T res f1 = some (v, h')) :
    ∃ hr', (match takeMarks f1.ms hr with
          | none => none
          | some h2 => match resultsA T h2 (toL n f1.s) res with
            | some [v] => some (v, h2)
            | some l => some (.tup l, h2)
            | none => none) = some (v, hr') ∧ Rel P g h' hr' := by
  unfold endX at e
  split at e
  · simp at e
  · rename_i h2 hm
    obtain ⟨h3, e3, R3⟩ := takeMarks_rel R hm
    rw [e3]
    simp only
    split at e
    · rename_i w hr
      simp only [Option.some.injEq, Prod.mk.injEq] at e
      obtain ⟨rfl, rfl⟩ := e
      rw [resX_ok ok R3 hr]
      exact ⟨h3, rfl, R3⟩
    · rename_i l hno2 hr
      simp only [Option.some.injEq, Prod.mk.injEq] at e
      obtain ⟨rfl, rfl⟩ := e
      rw [resX_ok ok R3 hr]
      cases l with
      | nil => exact ⟨h3, rfl, R3⟩
      | cons a t => cases t with
        | nil => exact (hno2 a rfl).elim
        | cons b t => exact ⟨h3, rfl, R3⟩
    · simp at e

theorem fX_ok {p : LvX} (lok : LOk T F p) {f : Nat} {args : List AV} {h : Heap} {v : AV} {h' : Heap} (e : fX T F p f args h = some (v, h')) (P : Nat → Prop) (g hr : Heap) (R : Rel P g h hr) : WF T F f args hr fun v1 h1 => v1 = v ∧ Rel P g h' h1 := by
  unfold fX at e
  split at e
  · simp at e
  · rename_i fn hF
    split at e
    · simp at e
    · rename_i c hb
      split at e
      · rename_i hn
        obtain ⟨ok, ht⟩ := ofX_ok hn.1 hn.2
        split at e
        · simp at e
        · simp at e
        · rename_i e0 f1 hno hc
          obtain ⟨ok1, w⟩ := cX_ok lok c _ _ _ ok hc
          obtain ⟨m, e1, f2, ev, h2, q1, q2, R2⟩ := w P g hr R
          subst q1; subst q2
          rw [ht] at ev
          obtain ⟨h3, e3, R3⟩ := endX_ok ok1 R2 e
          have : callF T F (m + 1) f args hr = some (v, h3) := by
            rw [callF, hF]
            simp only [hb]
            have ev : evalC T F m f none c ⟨args ++ List.replicate (fn.ntmps - args.length) undefA, [], hr⟩ = _ := ev
            rw [ev]
            cases e1 with
            | exit i => exact absurd rfl (hno _)
            | normal => exact e3
            | ret => exact e3
          exact ⟨m + 1, v, h3, this, rfl, R3⟩
      · simp at e

theorem setAll_len : ∀ (s : List AV) (ts : List Nat) (vs : List AV), (setAll s ts vs).length = s.length
  | s, [], vs => by cases vs <;> simp [setAll]
  | s, t :: ts, [] => by simp [setAll]
  | s, t :: ts, v :: vs => by rw [setAll, setAll_len]; simp

def tailR (l : Nat) (r2 : LoopR) (g2 : Heap) : AE → Option (AV × Heap)
  | .normal => some (.bool true, g2.put l (.loop { r2 with state := .ready, pending := none }))
  | .ret => some (.bool false, g2.put l (.loop { r2 with state := .done, pending := some .ret }))
  | .exit id => some (.bool false, g2.put l (.loop { r2 with state := .done, pending := some (.exit id) }))

theorem rX_ok {p : LvX} (lok : LOk T F p) {l : Nat} {args : List AV} {h : Heap} {v : AV} {h' : Heap} (e : rX T F p l args h = some (v, h')) (P : Nat → Prop) (g hr : Heap) (R : Rel P g h hr) : WR T F l args hr fun v1 h1 => v1 = v ∧ Rel P g h' h1 := by
  unfold rX at e
  split at e
  · rename_i r hl
    split at e
    · rename_i fn hF
      split at e
      · simp at e
      · rename_i hn
        simp only [not_or, Decidable.not_not, Nat.not_lt] at hn
        obtain ⟨hn1, hn2, hn3⟩ := hn
        have hlen : (setAll r.tmps r.params args).length = fn.ntmps := by rw [setAll_len, hn2]
        obtain ⟨ok, ht⟩ := ofX_ok (l := setAll r.tmps r.params args) (n := fn.ntmps) (by omega) hn3
        rw [hlen, Nat.sub_self, List.replicate_zero, List.append_nil] at ht
        split at e
        · rename_i f1 hc
          obtain ⟨ok1, w1⟩ := cX_ok lok (fn := r.fn) (ro := some l) r.assign _ _ _ ok hc
          obtain ⟨m1, e1, f1', ev1, g1, q1, q2, R1⟩ := w1 P g hr R
          subst q1; subst q2
          rw [ht] at ev1
          split at e
          · rename_i r1 hr1
            split at e
            · simp at e
            · rename_i hs
              split at e
              · rename_i e2 f2 hc2
                have hh := fun k => cX_ok lok (fn := r.fn) (ro := some l) r.body _ _ _ k hc2
                obtain ⟨ok2, w2⟩ := hh ok1
                obtain ⟨m2, e2', f2', ev2, g2, q1, q2, R2⟩ := w2 P g _ (R1.put (R1.no hr1) _)
                subst q1; subst q2
                split at e
                · rename_i r2 hr2
                  split at e
                  · simp at e
                  · rename_i hms
                    have go : roundF T F (max m1 m2 + 1) l args hr = tailR l r2 g2 e2' := by
                      rw [roundF, R.has _ _ hl]
                      simp only
                      rw [if_neg (by simpa using hn1), evalC_le (Nat.le_max_left m1 m2) ev1]
                      simp only [R1.has _ _ hr1]
                      rw [if_neg hs, evalC_le (Nat.le_max_right m1 m2) ev2]
                      simp only [R2.has _ _ hr2]
                      rw [if_neg hms]
                      cases e2' <;> rfl
                    cases e2' with
                    | normal =>
                      simp only [Option.some.injEq, Prod.mk.injEq] at e
                      obtain ⟨rfl, rfl⟩ := e
                      exact ⟨_, _, _, go, rfl, R2.put (R2.no hr2) _⟩
                    | ret =>
                      simp only [Option.some.injEq, Prod.mk.injEq] at e
                      obtain ⟨rfl, rfl⟩ := e
                      exact ⟨_, _, _, go, rfl, R2.put (R2.no hr2) _⟩
                    | exit i =>
                      simp only [Option.some.injEq, Prod.mk.injEq] at e
                      obtain ⟨rfl, rfl⟩ := e
                      exact ⟨_, _, _, go, rfl, R2.put (R2.no hr2) _⟩
                · simp at e
              · simp at e
          · simp at e
        · simp at e
    · simp at e
  · simp at e

theorem lokS {p : LvX} (lok : LOk T F p) : LOk T F (lvxS T F p) :=
  ⟨fun _ _ _ c _ _ _ ok h => cX_ok lok c _ _ _ ok h, fun _ _ _ _ _ h => fX_ok lok h, fun _ _ _ _ _ h => rX_ok lok h⟩
theorem lok : ∀ n, LOk T F (lvx T F n)
  | 0 => lok0
  | n + 1 => lokS (lok n)

end Go.Am
