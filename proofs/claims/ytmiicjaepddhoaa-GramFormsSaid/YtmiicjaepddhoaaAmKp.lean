/-
  The abstract machine for the kernel tells what the abstract machine tells.
-/
import Derived.Test.YtmiicjaepddhoaaAmKe
namespace Go.Am
open Go.RowKit
variable {T : TT} {F : Nat → Option Func}

structure LOk (T : TT) (F : Nat → Option Func) (p : LvX) : Prop where
  c : ∀ fn n ro c f e f', Ok n f.s → p.c fn n ro c f = some (e, f') → Ok n f'.s ∧ WC T F fn ro c ⟨toL n f.s, f.ms, f.h⟩ fun e1 f1 => e1 = e ∧ f1 = ⟨toL n f'.s, f'.ms, f'.h⟩
  f : ∀ g args h v h', p.f g args h = some (v, h') → WF T F g args h fun v1 h1 => v1 = v ∧ h1 = h'
  r : ∀ l args h v h', p.r l args h = some (v, h') → WR T F l args h fun v1 h1 => v1 = v ∧ h1 = h'

theorem lok0 : LOk T F lvx0 := ⟨fun _ _ _ _ _ _ _ _ e => by simp [lvx0] at e, fun _ _ _ _ _ e => by simp [lvx0] at e, fun _ _ _ _ _ e => by simp [lvx0] at e⟩

theorem mkEs_ok {s : SS} : ∀ {l : List Operand} {g : SS → List AV}, mkEs l = some g → evalAll (evX s) l = some (g s)
  | [], g, e => by
    simp only [mkEs, Option.some.injEq] at e
    subst e; rfl
  | x :: l, g, e => by
    simp only [mkEs] at e
    split at e
    · rename_i g' hx hg
      simp only [Option.some.injEq] at e
      subst e
      simp only [evalAll, mkEs_ok hg, evX, hx, if_true]
    · simp at e

theorem rawBx_ok {p : LvX} (lok : LOk T F p) {n : Nat} {s : SS} (ok : Ok n s) {op : Op} {d : DF} {h : Heap} {r : SS × Heap} (e : (rawBx T F op d).run p.f p.r s h = some r) :
    ∃ v h', WK T F op (toL n s) h (fun v1 h1 => v1 = v ∧ h1 = h') ∧ r = (d v s, h') := by
  unfold rawBx at e
  split at e
  · rename_i f args ts
    split at e
    · rename_i g hg
      obtain ⟨hf, e⟩ := wE_run e
      have e : obP (callR F p.f p.r ((mkE f).f s) (g s) h) (fun v h => some (d v s, h)) = some r := e
      obtain ⟨v, h', e1, e2⟩ := obP_eq e
      simp only [Option.some.injEq] at e2
      refine ⟨v, h', ?_, e2.symm⟩
      have hg := mkEs_ok (s := s) hg
      rw [evX_eq ok] at hf hg
      unfold WK
      simp only [hf, hg]
      unfold callR at e1
      split at e1
      · rename_i k caps hk
        rw [hk]
        simp only
        split at e1
        · rename_i w hw
          simp only [Option.some.injEq, Prod.mk.injEq] at e1
          rw [hw]
          exact e1
        · rename_i hw
          rw [hw]
          exact lok.f _ _ _ _ _ e1
      · rename_i b caps hk
        rw [hk]
        exact lok.r _ _ _ _ _ e1
      · simp at e1
    · simp [bad] at e
  · rename_i hno
    obtain ⟨v, h', e1, e2⟩ := opBx_ok e
    refine ⟨v, h', ?_, e2⟩
    rw [evX_eq ok] at e1
    unfold WK
    split
    · rename_i f args ts
      exact absurd rfl (hno _ _ _)
    · rw [e1]
      exact ⟨rfl, rfl⟩

theorem mkD_eq {n : Nat} {s : SS} (ok : Ok n s) (o : Oper) (v : AV) : Ok n ((mkD n o.dst).f v s) ∧ toL n ((mkD n o.dst).f v s) = putA (toL n s) o.dst v := mkD_ok ok _ _

theorem toL_get {n : Nat} {s : SS} (ok : Ok n s) (i : Nat) (hi : i < 512) : (match (toL n s)[i]? with | some (.bool b) => some b | _ => none) = (match (mkG 3 i).f s with | .bool b => some b | _ => none) := by
  unfold toL
  rw [List.getElem?_map]
  rcases Nat.lt_or_ge i n with h | h
  · rw [List.getElem?_range h]
    simp only [Option.map_some]
    cases (mkG 3 i).f s <;> rfl
  · rw [List.getElem?_eq_none (by simpa using h), ok.2 i h hi]; rfl

theorem mkBx_ok {p : LvX} (lok : LOk T F p) {n : Nat} {s s' : SS} (ok : Ok n s) {all : List Oper} {o : Oper} {h h' : Heap} (e : (mkBx T F n all o).run p.f p.r s h = some (s', h')) :
    Ok n s' ∧ ∀ Q : List AV → Heap → Prop, Q (toL n s') h' → WL T F all [o] (toL n s) h Q := by
  unfold mkBx at e
  have fin : ∀ {s1 h1}, (rawBx T F o.op (mkD n o.dst).f).run p.f p.r s h = some (s1, h1) → wantedA o all (toL n s) = true → Ok n s1 ∧ ∀ Q : List AV → Heap → Prop, Q (toL n s1) h1 → WL T F all [o] (toL n s) h Q := by
    intro s1 h1 e hw
    obtain ⟨v, h2, w, e2⟩ := rawBx_ok lok ok e
    simp only [Prod.mk.injEq] at e2
    obtain ⟨rfl, rfl⟩ := e2
    obtain ⟨ok2, e3⟩ := mkD_eq ok o v
    refine ⟨ok2, fun Q q => ?_⟩
    rw [e3] at q
    simp only [WL]
    exact ⟨fun _ => w.mono fun v1 h1 ⟨a, b⟩ => by subst a; subst b; exact q, fun hf => by rw [hw] at hf; cases hf⟩
  have no : wantedA o all (toL n s) = false → Ok n ((mkD n o.dst).f undefA s) ∧ ∀ Q : List AV → Heap → Prop, Q (toL n ((mkD n o.dst).f undefA s)) h → WL T F all [o] (toL n s) h Q := by
    intro hw
    obtain ⟨ok2, e3⟩ := mkD_eq ok o undefA
    refine ⟨ok2, fun Q q => ?_⟩
    rw [e3] at q
    simp only [WL]
    exact ⟨fun ht => (by rw [hw] at ht; cases ht), fun _ => q⟩
  generalize hd : mkD n o.dst = db at e fin no
  obtain ⟨d⟩ := db
  simp only at e fin no
  cases hg : o.guard with
  | none =>
    rw [hg] at e
    exact fin e (by simp only [wantedA, hg])
  | some q =>
    obtain ⟨j, want⟩ := q
    rw [hg] at e
    simp only at e
    cases hj : all[j]? with
    | none => rw [hj] at e; simp [bad] at e
    | some g =>
      rw [hj] at e
      simp only at e
      cases hgd : g.dst with
      | none => rw [hgd] at e; simp [bad] at e
      | some k =>
        rw [hgd] at e
        simp only at e
        split at e
        · rename_i hk
          have hw : wantedA o all (toL n s) = (match (match (toL n s)[k]? with | some (.bool b) => some b | _ => none) with | some b => b == want | none => false) := by
            simp only [wantedA, hg, hj, hgd]
            cases (toL n s)[k]? with
            | none => rfl
            | some v => cases v <;> rfl
          rw [toL_get ok k hk] at hw
          generalize rawBx T F o.op d = rb at e fin
          obtain ⟨run⟩ := rb
          generalize mkG 3 k = gb at e hw
          obtain ⟨gf⟩ := gb
          have e : opGuard run (gf s) want d p.f p.r s h = some (s', h') := e
          simp only at hw
          cases hv : gf s with
          | bool b =>
            rw [hv] at e hw
            have e : @Bool.rec (fun _ => Option (SS × Heap)) (some (d undefA s, h)) (run p.f p.r s h) (b == want) = some (s', h') := e
            simp only at hw
            cases hb : (b == want) with
            | true =>
              rw [hb] at e hw
              exact fin e hw
            | false =>
              rw [hb] at e hw
              simp only [Option.some.injEq, Prod.mk.injEq] at e
              obtain ⟨rfl, rfl⟩ := e
              exact no hw
          | _ =>
            rw [hv] at e hw
            simp only [opGuard, Option.some.injEq, Prod.mk.injEq] at e
            obtain ⟨rfl, rfl⟩ := e
            exact no hw
        · simp [bad] at e

theorem runL_ok {p : LvX} (lok : LOk T F p) {n : Nat} {all : List Oper} : ∀ {l : List Oper} {s s' : SS} {h h' : Heap} (_ : Ok n s) (_ : runL p.f p.r (l.map (mkBx T F n all)) s h = some (s', h')),
    Ok n s' ∧ ∀ Q : List AV → Heap → Prop, Q (toL n s') h' → WL T F all l (toL n s) h Q
  | [], s, s', h, h', ok, e => by
    have e : some (s, h) = some (s', h') := e
    simp only [Option.some.injEq, Prod.mk.injEq] at e
    obtain ⟨rfl, rfl⟩ := e
    exact ⟨ok, fun Q q => q⟩
  | o :: l, s, s', h, h', ok, e => by
    have e : obP ((mkBx T F n all o).run p.f p.r s h) (runL p.f p.r (l.map (mkBx T F n all))) = some (s', h') := e
    obtain ⟨s1, h1, e1, e2⟩ := obP_eq e
    obtain ⟨ok1, w1⟩ := mkBx_ok lok ok e1
    obtain ⟨ok2, w2⟩ := runL_ok lok ok1 e2
    exact ⟨ok2, fun Q q => w1 (fun s h => WL T F all l s h Q) (w2 Q q)⟩

theorem wantedX_eq {n : Nat} {s : SS} (ok : Ok n s) (o : Oper) (all : List Oper) : wantedX o all s = wantedA o all (toL n s) := by
  unfold wantedX wantedA
  cases o.guard with
  | none => rfl
  | some q =>
    obtain ⟨j, want⟩ := q
    simp only
    cases all[j]? with
    | none => rfl
    | some g =>
      simp only
      cases g.dst with
      | none => rfl
      | some k =>
        simp only
        by_cases hk : k < 512
        · rw [if_pos hk]
          have := toL_get ok k hk
          cases h1 : (toL n s)[k]? with
          | none =>
            rw [h1] at this
            cases h2 : (mkG 3 k).f s <;> rw [h2] at this <;> first | rfl | simp at this
          | some v =>
            rw [h1] at this
            cases v <;> cases h2 : (mkG 3 k).f s <;> rw [h2] at this <;> first | rfl | (simp at this; try (subst this; rfl))
        · have hn : (toL n s).length ≤ k := by rw [toL_len]; exact Nat.le_trans ok.1 (Nat.le_of_not_lt hk)
          rw [if_neg hk, List.getElem?_eq_none hn]

structure XOk (n : Nat) (st : DSx) : Prop where
  ss : ∀ s ∈ st.ss, Ok n s
  s : Ok n st.s

theorem dsX_ok {p : LvX} (lok : LOk T F p) {n : Nat} {all : List Oper} {bf : List Nat} {base : Nat} : ∀ {l : List Oper} {i : Nat} {st st' : DSx} (_ : XOk n st) (_ : dsX T F p.f p.r n all bf base l i st = some st'),
    XOk n st' ∧ st'.ss.length = st.ss.length + l.length ∧ ∀ Q : DSt → Prop, Q (st'.toD n) → WD T F all bf base l i (st.toD n) Q
  | [], i, st, st', ok, e => by
    have e : some st = some st' := e
    simp only [Option.some.injEq] at e
    subst e
    exact ⟨ok, rfl, fun Q q => q⟩
  | o :: l, i, st, st', ok, e => by
    have push : ∀ {s1 : SS}, Ok n s1 → ∀ {hs msk h nb}, XOk n ⟨st.ss ++ [st.s], s1, hs, msk, h, nb⟩ := by
      intro s1 ok1 hs msk h nb
      refine ⟨fun s hs => ?_, ok1⟩
      simp only [List.mem_append, List.mem_singleton] at hs
      rcases hs with h1 | rfl
      · exact ok.ss s h1
      · exact ok.s
    have toD : ∀ {s1 : SS} {hs msk h nb}, DSx.toD n ⟨st.ss ++ [st.s], s1, hs, msk, h, nb⟩ = ⟨(st.toD n).ss ++ [(st.toD n).s], toL n s1, hs, msk, h, nb⟩ := by
      intro s1 hs msk h nb
      simp [DSx.toD]
    have len : ∀ {m k : Nat}, m = (st.ss ++ [st.s]).length + k → m = st.ss.length + (k + 1) := by
      intro m k h
      rw [h, List.length_append]; simp; omega
    have hw := wantedX_eq ok.s o all
    unfold WD
    have e : (match dkind T o.op with
      | .eff => obP ((mkBx T F n all o).run p.f p.r st.s (heapFor base st.nb (bf.getD i 0) st.msk st.h)) fun s1 h1 =>
        dsX T F p.f p.r n all bf base l (i + 1) { ss := st.ss ++ [st.s], s := s1, hs := st.hs ++ [(st.msk, st.h)], msk := st.msk ||| bf.getD i 0, h := h1, nb := st.nb }
      | .new =>
        if wantedX o all st.s then obP (allocA T (evX st.s) o.op (base + i)) fun v b => dsX T F p.f p.r n all bf base l (i + 1) { st with ss := st.ss ++ [st.s], s := (mkD n o.dst).f v st.s, nb := st.nb ++ [(i, b)] }
        else dsX T F p.f p.r n all bf base l (i + 1) { st with ss := st.ss ++ [st.s], s := (mkD n o.dst).f undefA st.s }
      | .quiet =>
        if wantedX o all st.s then obP (opA T (evX st.s) o.op (heapFor base st.nb (bf.getD i 0) st.msk st.h)) fun v _ => dsX T F p.f p.r n all bf base l (i + 1) { st with ss := st.ss ++ [st.s], s := (mkD n o.dst).f v st.s }
        else dsX T F p.f p.r n all bf base l (i + 1) { st with ss := st.ss ++ [st.s], s := (mkD n o.dst).f undefA st.s }
      | .no => none) = some st' := e
    rw [hw] at e
    have e1 : evX st.s = evalO (st.toD n).s := evX_eq ok.s
    rw [e1] at e
    obtain ⟨oku, eu⟩ := mkD_eq ok.s o undefA
    have no : dsX T F p.f p.r n all bf base l (i + 1) { st with ss := st.ss ++ [st.s], s := (mkD n o.dst).f undefA st.s } = some st' →
        XOk n st' ∧ st'.ss.length = st.ss.length + (l.length + 1) ∧ ∀ Q : DSt → Prop, Q (st'.toD n) → WD T F all bf base l (i + 1) { st.toD n with ss := (st.toD n).ss ++ [(st.toD n).s], s := putA (st.toD n).s o.dst undefA } Q := by
      intro e
      obtain ⟨a, b, c⟩ := dsX_ok lok (push oku) e
      refine ⟨a, len b, fun Q q => ?_⟩
      have := c Q q
      rw [toD, eu] at this
      exact this
    cases hk : dkind T o.op with
    | eff =>
      rw [hk] at e
      obtain ⟨s1, h1, e2, e3⟩ := obP_eq e
      obtain ⟨ok1, w1⟩ := mkBx_ok lok ok.s e2
      obtain ⟨a, b, c⟩ := dsX_ok lok (push ok1) e3
      refine ⟨a, len b, fun Q q => w1 _ ?_⟩
      have := c Q q
      rw [toD] at this
      exact this
    | new =>
      rw [hk] at e
      simp only at e ⊢
      by_cases hwt : wantedA o all (toL n st.s) = true
      · rw [if_pos hwt] at e
        obtain ⟨v, b, e2, e3⟩ := obP_eq e
        obtain ⟨ok1, e4⟩ := mkD_eq ok.s o v
        obtain ⟨a, b, c⟩ := dsX_ok lok (push ok1) e3
        refine ⟨a, len b, fun Q q => ⟨fun _ => ?_, fun hf => absurd (hwt.symm.trans hf) (by simp)⟩⟩
        rw [e2]
        have := c Q q
        rw [toD, e4] at this
        exact this
      · rw [if_neg hwt] at e
        obtain ⟨a, b, c⟩ := no e
        exact ⟨a, b, fun Q q => ⟨fun ht => absurd ht hwt, fun _ => c Q q⟩⟩
    | quiet =>
      rw [hk] at e
      simp only at e ⊢
      by_cases hwt : wantedA o all (toL n st.s) = true
      · rw [if_pos hwt] at e
        obtain ⟨v, b, e2, e3⟩ := obP_eq e
        obtain ⟨ok1, e4⟩ := mkD_eq ok.s o v
        obtain ⟨a, b', c⟩ := dsX_ok lok (push ok1) e3
        refine ⟨a, len b', fun Q q => ⟨fun _ => ?_, fun hf => absurd (hwt.symm.trans hf) (by simp)⟩⟩
        have := c Q q
        rw [toD, e4] at this
        have e2 : opA T (evalO (st.toD n).s) o.op (heapFor base (st.toD n).nb (bf.getD i 0) (st.toD n).msk (st.toD n).h) = some (v, b) := e2
        rw [e2]
        exact this
      · rw [if_neg hwt] at e
        obtain ⟨a, b, c⟩ := no e
        exact ⟨a, b, fun Q q => ⟨fun ht => absurd ht hwt, fun _ => c Q q⟩⟩
    | no => rw [hk] at e; simp at e

theorem sameVX_eq {n : Nat} {s : SS} (ok : Ok n s) (r : Option (AV × Heap)) (dst : Option Nat) : sameVX r n dst s = sameV r dst (toL n s) := by
  cases r with
  | none => rfl
  | some p =>
    cases dst with
    | none => rfl
    | some d =>
      simp only [sameVX, sameV]
      unfold toL
      rw [List.getElem?_map]
      by_cases hd : d < n
      · rw [if_pos hd, List.getElem?_range hd]; rfl
      · rw [if_neg hd, List.getElem?_eq_none (by simpa using hd)]; rfl

theorem drawChkX_eq {n : Nat} {ops : List Oper} {base : Nat} {st : DSx} (ok : XOk n st) (hl : st.ss.length = ops.length) (e : drawChkX T ops base n st = true) : drawChk T ops base (st.toD n) = true := by
  have key : ∀ i, i ≤ ops.length → Ok n ((st.ss ++ [st.s]).getD i (und 3)) ∧ ((st.toD n).ss ++ [(st.toD n).s]).getD i [] = toL n ((st.ss ++ [st.s]).getD i (und 3)) := by
    intro i hi
    have : (st.toD n).ss ++ [(st.toD n).s] = (st.ss ++ [st.s]).map (toL n) := by simp [DSx.toD]
    rw [this, List.getD_eq_getElem?_getD, List.getD_eq_getElem?_getD, List.getElem?_map]
    have hi2 : i < (st.ss ++ [st.s]).length := by rw [List.length_append, hl]; simp; omega
    rw [List.getElem?_eq_getElem hi2]
    refine ⟨?_, rfl⟩
    have hm := List.getElem_mem hi2
    simp only [List.mem_append, List.mem_singleton] at hm
    simp only [Option.getD_some]
    rcases hm with h1 | h1
    · exact ok.ss _ h1
    · rw [h1]; exact ok.s
  unfold drawChkX at e
  unfold drawChk
  simp only [Bool.or_eq_true] at e ⊢
  rcases e with e | e
  · exact .inl e
  · refine .inr ?_
    rw [List.all_eq_true] at e ⊢
    intro q hq
    have h1 := e q hq
    obtain ⟨o, i⟩ := q
    have hi : i < ops.length := by
      have := List.mem_zipIdx hq
      omega
    obtain ⟨k1, k2⟩ := key i (by omega)
    obtain ⟨k3, k4⟩ := key (i + 1) (by omega)
    simp only at h1 ⊢
    rw [wantedX_eq k1, evX_eq k1, ← k2] at h1
    simp only [sameVX_eq k3, ← k4] at h1
    exact h1

theorem regionX_ok {p : LvX} (lok : LOk T F p) {fn : Nat} {ro : Option Nat} {n i : Nat} {ops : Array Oper} {draw : Bool} {f f' : Fx} {e : AE} (ok : Ok n f.s) (h : regionX T F p n ops draw f = some (e, f')) :
    Ok n f'.s ∧ WC T F fn ro (.region i ops draw) ⟨toL n f.s, f.ms, f.h⟩ fun e1 f1 => e1 = e ∧ f1 = ⟨toL n f'.s, f'.ms, f'.h⟩ := by
  unfold regionX at h
  cases draw with
  | false =>
    obtain ⟨s, h1, e1, e2⟩ := obP_eq h
    simp only [Option.some.injEq, Prod.mk.injEq] at e2
    obtain ⟨rfl, rfl⟩ := e2
    obtain ⟨ok1, w⟩ := runL_ok lok ok e1
    refine ⟨ok1, WP.run ?_⟩
    simp only [WP, Bool.false_eq_true, if_false]
    exact w _ (by simp)
  | true =>
    simp only at h
    split at h
    · rename_i hq
      obtain ⟨s, h1, e1, e2⟩ := obP_eq h
      simp only [Option.some.injEq, Prod.mk.injEq] at e2
      obtain ⟨rfl, rfl⟩ := e2
      obtain ⟨ok1, w⟩ := runL_ok lok ok e1
      exact ⟨ok1, (WP_quiet hq (w _ ⟨rfl, rfl⟩)).run⟩
    · split at h
      · rename_i hd
        obtain ⟨st, e1, e2⟩ := ob_eq h
        split at e2
        · rename_i hc
          simp only [Option.some.injEq, Prod.mk.injEq] at e2
          obtain ⟨rfl, rfl⟩ := e2
          obtain ⟨a, b, c⟩ := dsX_ok lok (st := ⟨[], f.s, [], 0, ⟨f.h.nxt + ops.size, f.h.l⟩, []⟩) ⟨fun s hs => by simp at hs, ok⟩ e1
          refine ⟨a.s, WP.run ?_⟩
          rw [WP_drawn]
          refine ⟨hd, c _ ⟨drawChkX_eq a (by simpa using b) hc, rfl, rfl⟩⟩
        · simp at e2
      · simp at h

theorem evX_ok {n : Nat} {s : SS} (ok : Ok n s) (x : Operand) : evX s x = evalO (toL n s) x := by rw [evX_eq ok]

abbrev CIn (T : TT) (F : Nat → Option Func) (p : LvX) (fn n : Nat) (ro : Option Nat) (c : Code) : Prop :=
  ∀ (f : Fx) (e : AE) (f' : Fx), Ok n f.s → cX T F p fn n ro c f = some (e, f') → Ok n f'.s ∧ WC T F fn ro c ⟨toL n f.s, f.ms, f.h⟩ fun e1 f1 => e1 = e ∧ f1 = ⟨toL n f'.s, f'.ms, f'.h⟩

theorem seqX_ok {r : Option (AE × Fx)} {b : Fx → Option (AE × Fx)} {e : AE} {f' : Fx} (h : seqX r b = some (e, f')) : (∃ f1, r = some (.normal, f1) ∧ b f1 = some (e, f')) ∨ (r = some (e, f') ∧ e ≠ .normal) := by
  unfold seqX at h
  split at h
  · rename_i f1
    exact .inl ⟨f1, rfl, h⟩
  · rename_i hno
    refine .inr ⟨h, fun he => ?_⟩
    subst he
    exact hno f' h

theorem rangeX_ok {p : LvX} (lok : LOk T F p) {fn n : Nat} {ro : Option Nat} {g : Operand} {ps : Array Tmp} {a b : Code} {f f' : Fx} {e : AE} (ok : Ok n f.s) (h : rangeX p fn n ro g ps a b f = some (e, f')) :
    Ok n f'.s ∧ WC T F fn ro (.rangeFunc g ps a b) ⟨toL n f.s, f.ms, f.h⟩ fun e1 f1 => e1 = e ∧ f1 = ⟨toL n f'.s, f'.ms, f'.h⟩ := by
  unfold rangeX at h
  rw [evX_ok ok] at h
  split at h
  · rename_i k caps hg
    have hen : enterA ro ⟨[], f.ms, f.h⟩ = enterA ro ⟨toL n f.s, f.ms, f.h⟩ := rfl
    rw [hen] at h
    split at h
    · simp at h
    · rename_i df ms hh he
      simp only at h
      split at h
      · simp at h
      · rename_i v h2 hc
        obtain ⟨m, v1, h1, e1, rfl, rfl⟩ := lok.f _ _ _ _ _ hc
        split at h
        · rename_i r hr
          split at h
          · simp at h
          · rename_i hb
            split at h
            · rename_i hp
              simp only [Option.some.injEq, Prod.mk.injEq] at h
              obtain ⟨rfl, rfl⟩ := h
              refine ⟨ok, m + 1, _, _, ?_, rfl, rfl⟩
              rw [evalC]
              simp only [hg, he, e1, hr, hb, if_false, hp]
            · rename_i hp
              simp only [Option.some.injEq, Prod.mk.injEq] at h
              obtain ⟨rfl, rfl⟩ := h
              refine ⟨ok, m + 1, _, _, ?_, rfl, rfl⟩
              rw [evalC]
              simp only [hg, he, e1, hr, hb, if_false, hp]
            · rename_i i hp
              simp only [Option.some.injEq, Prod.mk.injEq] at h
              obtain ⟨rfl, rfl⟩ := h
              refine ⟨ok, m + 1, _, _, ?_, rfl, rfl⟩
              rw [evalC]
              simp only [hg, he, e1, hr, hb, if_false, hp]
            · simp at h
        · simp at h
  · simp at h

theorem cX_ok {p : LvX} (lok : LOk T F p) {fn n : Nat} {ro : Option Nat} : ∀ (c : Code), CIn T F p fn n ro c
  | .skip, f, e, f', ok, h => by
    have h : some (AE.normal, f) = some (e, f') := h
    simp only [Option.some.injEq, Prod.mk.injEq] at h
    obtain ⟨rfl, rfl⟩ := h
    exact ⟨ok, 1, _, _, by rw [evalC], rfl, rfl⟩
  | .label _, f, e, f', ok, h => by
    have h : some (AE.normal, f) = some (e, f') := h
    simp only [Option.some.injEq, Prod.mk.injEq] at h
    obtain ⟨rfl, rfl⟩ := h
    exact ⟨ok, 1, _, _, by rw [evalC], rfl, rfl⟩
  | .exit id, f, e, f', ok, h => by
    have h : some (AE.exit id, f) = some (e, f') := h
    simp only [Option.some.injEq, Prod.mk.injEq] at h
    obtain ⟨rfl, rfl⟩ := h
    exact ⟨ok, 1, _, _, by rw [evalC], rfl, rfl⟩
  | .ret, f, e, f', ok, h => by
    have h : some (AE.ret, f) = some (e, f') := h
    simp only [Option.some.injEq, Prod.mk.injEq] at h
    obtain ⟨rfl, rfl⟩ := h
    exact ⟨ok, 1, _, _, by rw [evalC], rfl, rfl⟩
  | .goto _, f, e, f', ok, h => by
    have h : (none : Option (AE × Fx)) = some (e, f') := h
    simp at h
  | .refuse _, f, e, f', ok, h => by
    have h : (none : Option (AE × Fx)) = some (e, f') := h
    simp at h
  | .scope c, f, e, f', ok, h => by
    obtain ⟨a, m, e1, f1, ev, w⟩ := cX_ok lok (fn := fn) (ro := ro) c f e f' ok h
    exact ⟨a, m + 1, e1, f1, by rw [evalC]; exact ev, w⟩
  | .seq a b, f, e, f', ok, h => by
    have h : seqX (cX T F p fn n ro a f) (cX T F p fn n ro b) = some (e, f') := h
    rcases seqX_ok h with ⟨f1, h1, h2⟩ | ⟨h1, h2⟩
    · obtain ⟨ok1, w1⟩ := cX_ok lok a f _ _ ok h1
      obtain ⟨ok2, w2⟩ := cX_ok lok b f1 _ _ ok1 h2
      refine ⟨ok2, WC.seq (w1.mono fun e1 f2 ⟨q1, q2⟩ => ?_)⟩
      subst q1; subst q2
      exact w2
    · obtain ⟨ok1, w1⟩ := cX_ok lok a f _ _ ok h1
      refine ⟨ok1, WC.seq (w1.mono fun e1 f2 ⟨q1, q2⟩ => ?_)⟩
      subst q1; subst q2
      cases e1 with
      | normal => exact absurd rfl h2
      | exit i => exact ⟨rfl, rfl⟩
      | ret => exact ⟨rfl, rfl⟩
  | .loop a, f, e, f', ok, h => by
    have h : seqX (cX T F p fn n ro a f) (fun f1 => p.c fn n ro (.loop a) f1) = some (e, f') := h
    rcases seqX_ok h with ⟨f1, h1, h2⟩ | ⟨h1, h2⟩
    · obtain ⟨ok1, w1⟩ := cX_ok lok a f _ _ ok h1
      obtain ⟨ok2, w2⟩ := lok.c _ _ _ _ _ _ _ ok1 h2
      refine ⟨ok2, WC.loop (w1.mono fun e1 f2 ⟨q1, q2⟩ => ?_)⟩
      subst q1; subst q2
      exact w2
    · obtain ⟨ok1, w1⟩ := cX_ok lok a f _ _ ok h1
      refine ⟨ok1, WC.loop (w1.mono fun e1 f2 ⟨q1, q2⟩ => ?_)⟩
      subst q1; subst q2
      cases e1 with
      | normal => exact absurd rfl h2
      | exit i => exact ⟨rfl, rfl⟩
      | ret => exact ⟨rfl, rfl⟩
  | .cond x a b, f, e, f', ok, h => by
    have h : ob (evX f.s x) (fun v => condX v (cX T F p fn n ro a) (cX T F p fn n ro b) f) = some (e, f') := h
    obtain ⟨v, hv, h⟩ := ob_eq h
    rw [evX_ok ok] at hv
    unfold condX at h
    split at h
    · rename_i y
      cases y with
      | true =>
        obtain ⟨ok1, m, e1, f1, ev, w⟩ := cX_ok lok (fn := fn) (ro := ro) a f e f' ok h
        exact ⟨ok1, m + 1, e1, f1, by rw [evalC, hv]; exact ev, w⟩
      | false =>
        obtain ⟨ok1, m, e1, f1, ev, w⟩ := cX_ok lok (fn := fn) (ro := ro) b f e f' ok h
        exact ⟨ok1, m + 1, e1, f1, by rw [evalC, hv]; exact ev, w⟩
    · simp at h
  | .block id c, f, e, f', ok, h => by
    have h : blockX id (cX T F p fn n ro c f) = some (e, f') := h
    unfold blockX at h
    split at h
    · rename_i i f1 h1
      obtain ⟨ok1, m, e1, f2, ev, q1, q2⟩ := cX_ok lok (fn := fn) (ro := ro) c f _ _ ok h1
      subst q1; subst q2
      by_cases hi : i = id
      · rw [if_pos hi] at h
        simp only [Option.some.injEq, Prod.mk.injEq] at h
        obtain ⟨rfl, rfl⟩ := h
        exact ⟨ok1, m + 1, _, _, by rw [evalC, ev]; simp only [hi, if_true], rfl, rfl⟩
      · rw [if_neg hi] at h
        simp only [Option.some.injEq, Prod.mk.injEq] at h
        obtain ⟨rfl, rfl⟩ := h
        exact ⟨ok1, m + 1, _, _, by rw [evalC, ev]; simp only [hi, if_false], rfl, rfl⟩
    · rename_i hno
      obtain ⟨ok1, m, e1, f2, ev, q1, q2⟩ := cX_ok lok (fn := fn) (ro := ro) c f _ _ ok h
      subst q1; subst q2
      refine ⟨ok1, m + 1, e1, _, ?_, rfl, rfl⟩
      rw [evalC, ev]
      cases e1 with
      | normal => rfl
      | ret => rfl
      | exit i => exact absurd h (hno _ _)
  | .region i ops draw, f, e, f', ok, h => regionX_ok lok ok h
  | .rangeFunc g ps a b, f, e, f', ok, h => rangeX_ok lok ok h

theorem resX_ok {n : Nat} {s : SS} (ok : Ok n s) {h : Heap} : ∀ {l : List ResultVar} {vs : List AV}, resX T h s l = some vs → resultsA T h (toL n s) l = some vs
  | [], vs, e => e
  | .tmp t :: l, vs, e => by
    simp only [resX] at e
    split at e
    · rename_i ht
      split at e
      · rename_i m hm
        simp only [resultsA, resX_ok ok hm, toL_getD ok, ht, if_true]
        exact e
      · simp at e
    · simp at e
  | .cell a t :: l, vs, e => by
    simp only [resX] at e
    split at e
    · rename_i ht
      simp only [resultsA, toL_getD ok, ht, if_true]
      split at e
      · rename_i b o hp
        rw [hp]
        simp only
        split at e
        · rename_i v m hv hm
          rw [hv, resX_ok ok hm]
          exact e
        · simp at e
      · simp at e
    · simp at e

theorem ofX_get : ∀ (l : List AV) (i : Nat) (t : SS) (j : Nat), i + l.length ≤ 512 → j < 512 → (mkG 3 j).f (ofX l i t) = if i ≤ j ∧ j < i + l.length then l.getD (j - i) undefA else (mkG 3 j).f t
  | [], i, t, j, h, hj => by
    rw [if_neg (by simp)]; rfl
  | v :: l, i, t, j, h, hj => by
    simp only [List.length_cons] at h
    simp only [ofX]
    rw [ofX_get l (i + 1) _ j (by omega) hj, mkG_mkS 3 i j v t (by omega) (by omega)]
    by_cases h1 : i = j
    · subst h1
      rw [if_neg (by omega), if_pos rfl, if_pos (by simp)]
      simp
    · rw [if_neg h1]
      by_cases h2 : i + 1 ≤ j ∧ j < i + 1 + l.length
      · rw [if_pos h2, if_pos (by simp only [List.length_cons]; omega)]
        obtain ⟨k, rfl⟩ : ∃ k, j = i + 1 + k := ⟨j - (i + 1), by omega⟩
        rw [show i + 1 + k - (i + 1) = k by omega, show i + 1 + k - i = k + 1 by omega]
        rfl
      · rw [if_neg h2, if_neg (by simp only [List.length_cons]; omega)]

theorem ofX_ok {l : List AV} {n : Nat} (h1 : l.length ≤ n) (h2 : n ≤ 512) : Ok n (ofX l 0 (und 3)) ∧ toL n (ofX l 0 (und 3)) = l ++ List.replicate (n - l.length) undefA := by
  constructor
  · refine ⟨h2, fun i hi h3 => ?_⟩
    rw [ofX_get l 0 _ i (by omega) h3, if_neg (by omega), mkG_und]
  · refine List.ext_getElem? fun j => ?_
    unfold toL
    rw [List.getElem?_map]
    rcases Nat.lt_or_ge j n with h | h
    · rw [List.getElem?_range h]
      simp only [Option.map_some]
      rw [ofX_get l 0 _ j (by omega) (by omega), mkG_und]
      by_cases hj : j < l.length
      · rw [if_pos (by omega), List.getElem?_append_left hj, List.getElem?_eq_getElem hj]
        simp [List.getD_eq_getElem?_getD, hj]
      · rw [if_neg (by omega), List.getElem?_append_right (by omega), List.getElem?_replicate, if_pos (by omega)]
    · rw [List.getElem?_eq_none (by simpa using h), List.getElem?_eq_none (by simp; omega)]
      rfl

theorem fX_ok {p : LvX} (lok : LOk T F p) {f : Nat} {args : List AV} {h : Heap} {v : AV} {h' : Heap} (e : fX T F p f args h = some (v, h')) : WF T F f args h fun v1 h1 => v1 = v ∧ h1 = h' := by
  unfold fX at e
  split at e
  · simp at e
  · rename_i fn hF
    split at e
    · simp at e
    · rename_i c hb
      split at e
      · rename_i hn
        obtain ⟨ok, ht⟩ := ofX_ok hn.1 hn.2
        split at e
        · simp at e
        · simp at e
        · rename_i e0 f1 hno hc
          obtain ⟨ok1, m, e1, f2, ev, q1, q2⟩ := cX_ok lok c _ _ _ ok hc
          subst q1; subst q2
          rw [ht] at ev
          have : callF T F (m + 1) f args h = some (v, h') := by
            rw [callF, hF]
            simp only [hb]
            rw [show (⟨args ++ List.replicate (fn.ntmps - args.length) undefA, [], h⟩ : Frm) = ⟨args ++ List.replicate (fn.ntmps - args.length) undefA, (⟨ofX args 0 (und 3), [], h⟩ : Fx).ms, (⟨ofX args 0 (und 3), [], h⟩ : Fx).h⟩ from rfl, ev]
            unfold endX at e
            cases e1 with
            | exit i => exact absurd rfl (hno _)
            | normal =>
              simp only
              split at e
              · simp at e
              · rename_i h2 hm
                rw [hm]
                simp only
                split at e
                · rename_i w hr
                  rw [resX_ok ok1 hr]; exact e
                · rename_i l hno2 hr
                  rw [resX_ok ok1 hr]
                  cases l with
                  | nil => exact e
                  | cons a t => cases t with
                    | nil => exact (hno2 a rfl).elim
                    | cons b t => exact e
                · simp at e
            | ret =>
              simp only
              split at e
              · simp at e
              · rename_i h2 hm
                rw [hm]
                simp only
                split at e
                · rename_i w hr
                  rw [resX_ok ok1 hr]; exact e
                · rename_i l hno2 hr
                  rw [resX_ok ok1 hr]
                  cases l with
                  | nil => exact e
                  | cons a t => cases t with
                    | nil => exact (hno2 a rfl).elim
                    | cons b t => exact e
                · simp at e
          exact ⟨m + 1, v, h', this, rfl, rfl⟩
      · simp at e

theorem setAll_len : ∀ (s : List AV) (ts : List Nat) (vs : List AV), (setAll s ts vs).length = s.length
  | s, [], vs => by cases vs <;> simp [setAll]
  | s, t :: ts, [] => by simp [setAll]
  | s, t :: ts, v :: vs => by rw [setAll, setAll_len]; simp

theorem rX_ok {p : LvX} (lok : LOk T F p) {l : Nat} {args : List AV} {h : Heap} {v : AV} {h' : Heap} (e : rX T F p l args h = some (v, h')) : WR T F l args h fun v1 h1 => v1 = v ∧ h1 = h' := by
  unfold rX at e
  split at e
  · rename_i r hr
    split at e
    · rename_i fn hF
      split at e
      · simp at e
      · rename_i hn
        simp only [not_or, Decidable.not_not, Nat.not_lt] at hn
        obtain ⟨hn1, hn2, hn3⟩ := hn
        have hl : (setAll r.tmps r.params args).length = fn.ntmps := by rw [setAll_len, hn2]
        obtain ⟨ok, ht⟩ := ofX_ok (l := setAll r.tmps r.params args) (n := fn.ntmps) (by omega) hn3
        rw [hl, Nat.sub_self, List.replicate_zero, List.append_nil] at ht
        split at e
        · rename_i f1 hc
          obtain ⟨ok1, m1, e1, f1', ev1, q1, q2⟩ := cX_ok lok r.assign _ _ _ ok hc
          subst q1; subst q2
          rw [ht] at ev1
          split at e
          · rename_i r1 hr1
            split at e
            · simp at e
            · rename_i hs
              split at e
              · rename_i e2 f2 hc2
                have hh := fun k => cX_ok lok (fn := r.fn) (ro := some l) r.body _ _ _ k hc2
                obtain ⟨ok2, m2, e2', f2', ev2, q1, q2⟩ := hh ok1
                subst q1; subst q2
                split at e
                · rename_i r2 hr2
                  split at e
                  · simp at e
                  · rename_i hms
                    have : roundF T F (max m1 m2 + 1) l args h = some (v, h') := by
                      rw [roundF, hr]
                      simp only
                      rw [if_neg (by simpa using hn1), evalC_le (Nat.le_max_left m1 m2) ev1]
                      simp only [hr1]
                      rw [if_neg hs, evalC_le (Nat.le_max_right m1 m2) ev2]
                      simp only [hr2]
                      rw [if_neg hms]
                      exact e
                    exact ⟨_, v, h', this, rfl, rfl⟩
                · simp at e
              · simp at e
          · simp at e
        · simp at e
    · simp at e
  · simp at e

theorem lokS {p : LvX} (lok : LOk T F p) : LOk T F (lvxS T F p) :=
  ⟨fun _ _ _ c _ _ _ ok h => cX_ok lok c _ _ _ ok h, fun _ _ _ _ _ h => fX_ok lok h, fun _ _ _ _ _ h => rX_ok lok h⟩
theorem lok : ∀ n, LOk T F (lvx T F n)
  | 0 => lok0
  | n + 1 => lokS (lok n)

theorem law0X_of {P : Program} {T : TT} {F : Nat → Option Func} (hM : P.follows .mixedOrders = true) (hT : TypesOk P T) (hF : FuncsOk P F) (n f : Nat) (e : tells ((lvx T F n).f f [] heap0) = true) (w : World) :
    Calls P f #[] w fun e w' => e = .returned (.bool true) ∧ Below w.heap.size w w' := by
  unfold tells at e
  split at e
  · rename_i b h' h1
    obtain ⟨m, v1, h2, e1, q1, q2⟩ := (lok n).f _ _ _ _ _ h1
    subst q1
    refine law0_of hM hT hF (n := m) ?_ w
    rw [e1]
    exact e
  · cases e

end Go.Am
