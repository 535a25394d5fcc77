/-
  The abstract machine for the kernel, with a table of calls that are told already.
-/
import Derived.Test.YtaockkmmjinhpaaAmKr
namespace Go.Am
variable {T : TT} {F : Nat → Option Func}

def eqbm : List (AV × AV × Nat) → List (AV × AV × Nat) → Bool
  | [], [] => true
  | a :: l, b :: m => AV.eqb a.1 b.1 && AV.eqb a.2.1 b.2.1 && a.2.2 == b.2.2 && eqbm l m
  | _, _ => false
def Blk.eqb : Blk → Blk → Bool
  | .cells l w, .cells m x => eqbs l m && w == x
  | .map l c, .map m d => eqbm l m && c == d
  | _, _ => false

theorem eqbm_eq : ∀ {l m : List (AV × AV × Nat)}, eqbm l m = true → l = m
  | [], [], _ => rfl
  | [], _ :: _, e => by simp [eqbm] at e
  | _ :: _, [], e => by simp [eqbm] at e
  | (a, b, c) :: l, (a', b', c') :: m, e => by
    simp only [eqbm, Bool.and_eq_true, beq_iff_eq] at e
    obtain ⟨⟨⟨h1, h2⟩, h3⟩, h4⟩ := e
    rw [AV.eqb_eq _ _ h1, AV.eqb_eq _ _ h2, h3, eqbm_eq h4]
theorem Blk.eqb_eq {a b : Blk} (e : Blk.eqb a b = true) : a = b := by
  cases a <;> cases b <;> simp only [Blk.eqb, Bool.and_eq_true, beq_iff_eq, Bool.false_eq_true] at e
  · rw [eqbs_eq _ _ e.1, e.2]
  · rw [eqbm_eq e.1, e.2]

/-- A call that is told: function, arguments, blocks that it needs, the next number; value, next number, blocks that are new or changed. -/
structure Entry where
  g : Nat
  args : List AV
  hp : List (Nat × Blk)
  nxt : Nat
  v : AV
  nxt' : Nat
  dl : List (Nat × Blk)

def putL (t : HT) : List (Nat × Blk) → HT
  | [] => t
  | p :: l => HT.put (p.1 + 1) (putL t l) p.1 (some p.2)
theorem putL_get (t : HT) : ∀ (l : List (Nat × Blk)) {b : Nat} {x : Blk}, (putL t l).get b = some x → (b, x) ∈ l ∨ ((∀ y, (b, y) ∉ l) ∧ t.get b = some x)
  | [], b, x, e => .inr ⟨fun _ => by simp, e⟩
  | p :: l, b, x, e => by
    simp only [putL] at e
    rw [HT.get_put _ _ _ _ _ (Nat.lt_succ_self _)] at e
    by_cases h : p.1 = b
    · rw [if_pos h] at e
      simp only [Option.some.injEq] at e
      subst h; subst e
      exact .inl (by simp)
    · rw [if_neg h] at e
      rcases putL_get t l e with h1 | ⟨h1, h2⟩
      · exact .inl (List.mem_cons_of_mem _ h1)
      · refine .inr ⟨fun y hy => ?_, h2⟩
        simp only [List.mem_cons] at hy
        rcases hy with hy | hy
        · rw [← hy] at h; exact h rfl
        · exact h1 y hy
theorem putL_none (t : HT) : ∀ (l : List (Nat × Blk)) {b : Nat}, (∀ y, (b, y) ∉ l) → (putL t l).get b = t.get b
  | [], b, _ => rfl
  | p :: l, b, h => by
    simp only [putL]
    rw [HT.get_put _ _ _ _ _ (Nat.lt_succ_self _), if_neg, putL_none t l]
    · intro y hy; exact h y (List.mem_cons_of_mem _ hy)
    · intro hp; exact h p.2 (by rw [← hp]; simp)

def Entry.h (E : Entry) : Heap := ⟨E.nxt, putL .nil E.hp⟩

def hasB (h : Heap) (p : Nat × Blk) : Bool := match h.get p.1 with
  | some x => Blk.eqb x p.2
  | none => false
theorem hasB_eq {h : Heap} {p : Nat × Blk} (e : hasB h p = true) : h.get p.1 = some p.2 := by
  unfold hasB at e
  split at e
  · rename_i x hx
    rw [hx, Blk.eqb_eq e]
  · cases e

/-- Is an entry told by a run? -/
def Entry.told (E : Entry) (r : Option (AV × Heap)) : Bool := match r with
  | some (v, h) => AV.eqb v E.v && h.nxt == E.nxt' && E.dl.all (hasB h) && E.hp.all fun p => (E.dl.any fun q => q.1 == p.1) || hasB h p
  | none => false

structure EntryOk (T : TT) (F : Nat → Option Func) (E : Entry) : Prop where
  run : ∀ P g hr, Rel P g E.h hr → WF T F E.g E.args hr fun v1 h1 => v1 = E.v ∧ ∃ h', Rel P g h' h1 ∧ h'.nxt = E.nxt' ∧ (∀ p ∈ E.dl, h'.get p.1 = some p.2) ∧ ∀ b x, E.h.get b = some x → (∀ y, (b, y) ∉ E.dl) → h'.get b = some x

theorem entry_ok {p : LvX} (lok : LOk T F p) {E : Entry} (e : E.told (p.f E.g E.args E.h) = true) : EntryOk T F E := by
  unfold Entry.told at e
  split at e
  · rename_i v h hr
    simp only [Bool.and_eq_true, beq_iff_eq] at e
    obtain ⟨⟨⟨e1, e2⟩, e3⟩, e4⟩ := e
    refine ⟨fun P g h0 R => ?_⟩
    refine (lok.f _ _ _ _ _ hr P g h0 R).mono fun v1 h1 ⟨q1, R1⟩ => ⟨q1.trans (AV.eqb_eq _ _ e1), h, R1, e2, fun p hp => hasB_eq (List.all_eq_true.1 e3 p hp), fun b x hb hn => ?_⟩
    have : (b, x) ∈ E.hp := by
      rcases putL_get .nil E.hp hb with h2 | ⟨_, h2⟩
      · exact h2
      · simp [HT.get] at h2
    have h4 := List.all_eq_true.1 e4 _ this
    simp only [Bool.or_eq_true] at h4
    rcases h4 with h4 | h4
    · rw [List.any_eq_true] at h4
      obtain ⟨q, hq, hb⟩ := h4
      simp only [beq_iff_eq] at hb
      exact absurd (by rw [← hb]; exact hq) (hn q.2)
    · exact hasB_eq h4
  · cases e

/-- All blocks of a tree lie below a number. -/
def HT.under : HT → Nat → Bool
  | .nil, _ => true
  | .node v l r, n => (v.isNone || Nat.ble 1 n) && (l.under (n / 2) && r.under ((n - 1) / 2))
theorem HT.under_get : ∀ {t : HT} {n b : Nat} {x : Blk}, t.under n = true → t.get b = some x → b < n
  | .nil, n, b, x, e, h => by simp [HT.get] at h
  | .node v l r, n, b, x, e, h => by
    simp only [HT.under, Bool.and_eq_true, Bool.or_eq_true] at e
    obtain ⟨e1, e2, e3⟩ := e
    rw [HT.get] at h
    split at h
    · rename_i hb
      rcases e1 with e1 | e1
      · rw [h] at e1; cases e1
      · have := Nat.le_of_ble_eq_true e1; omega
    · split at h
      · have := HT.under_get e2 h; omega
      · have := HT.under_get e3 h; omega

noncomputable def Entry.use (E : Entry) (args : List AV) (h : Heap) : Option (AV × Heap) :=
  @Bool.rec (fun _ => Option (AV × Heap)) none (some (E.v, ⟨E.nxt', putL h.l E.dl⟩)) (Nat.beq h.nxt E.nxt && (eqbs args E.args && (E.hp.all (hasB h) && (h.l.under h.nxt && Nat.ble E.nxt E.nxt'))))

theorem use_ok {E : Entry} (ok : EntryOk T F E) {args : List AV} {h h' : Heap} {v : AV} (e : E.use args h = some (v, h')) (P : Nat → Prop) (g hr : Heap) (R : Rel P g h hr) : WF T F E.g args hr fun v1 h1 => v1 = v ∧ Rel P g h' h1 := by
  unfold Entry.use at e
  cases hc : (Nat.beq h.nxt E.nxt && (eqbs args E.args && (E.hp.all (hasB h) && (h.l.under h.nxt && Nat.ble E.nxt E.nxt')))) with
  | false => rw [hc] at e; simp at e
  | true =>
    rw [hc] at e
    simp only [Option.some.injEq, Prod.mk.injEq] at e
    obtain ⟨rfl, rfl⟩ := e
    simp only [Bool.and_eq_true] at hc
    obtain ⟨c1, c2, c3, c4, c5⟩ := hc
    have c1 := Nat.eq_of_beq_eq_true c1
    have c2 := eqbs_eq _ _ c2
    have c5 := Nat.le_of_ble_eq_true c5
    subst c2
    have hp : ∀ b x, E.h.get b = some x → h.get b = some x := by
      intro b x hb
      rcases putL_get .nil E.hp hb with h2 | ⟨_, h2⟩
      · exact hasB_eq (List.all_eq_true.1 c3 _ h2)
      · simp [HT.get] at h2
    have R2 : Rel (fun b => b < h.nxt ∧ E.h.get b = none) hr E.h hr :=
      ⟨by rw [R.nxt, c1]; rfl, fun b x hb => R.has _ _ (hp b x hb), fun b hb => ⟨hb.2, by rw [show E.h.nxt = h.nxt from c1.symm]; exact hb.1⟩, fun _ _ => rfl⟩
    refine (ok.run _ _ hr R2).mono fun v1 h1 ⟨q1, h2, R3, n1, d1, d2⟩ => ⟨q1, ?_, ?_, ?_, ?_⟩
    · rw [R3.nxt]; exact n1
    · intro b x hb
      have hb : (putL h.l E.dl).get b = some x := hb
      rcases putL_get h.l E.dl hb with h3 | ⟨h3, h4⟩
      · exact R3.has _ _ (d1 _ h3)
      · have hlt : b < h.nxt := HT.under_get c4 h4
        cases hE : E.h.get b with
        | none =>
          rw [R3.old b ⟨hlt, hE⟩]
          exact R.has _ _ h4
        | some y =>
          have := hp b y hE
          rw [show h.get b = some x from h4] at this
          rw [this]
          exact R3.has _ _ (d2 b y hE h3)
    · intro b hb
      have g1 := R.gone b hb
      have hE : E.h.get b = none := by
        cases hE : E.h.get b with
        | none => rfl
        | some y => rw [hp b y hE] at g1; simp at g1
      have hn : ∀ y, (b, y) ∉ E.dl := by
        intro y hy
        have := d1 _ hy
        rw [(R3.gone b ⟨g1.2, hE⟩).1] at this
        cases this
      refine ⟨?_, ?_⟩
      · show (putL h.l E.dl).get b = none
        rw [putL_none _ _ hn]; exact g1.1
      · show b < E.nxt'
        omega
    · intro b hb
      have g1 := R.gone b hb
      have hE : E.h.get b = none := by
        cases hE : E.h.get b with
        | none => rfl
        | some y => rw [hp b y hE] at g1; simp at g1
      rw [R3.old b ⟨g1.2, hE⟩]
      exact R.old b hb

noncomputable def tryK (p : CallT) (g : Nat) (args : List AV) (h : Heap) (l : List Entry) : Option (AV × Heap) :=
  List.rec (motive := fun _ => Option (AV × Heap)) (p g args h) (fun E _ ih => @Bool.rec (fun _ => Option (AV × Heap)) ih (E.use args h) (Nat.beq h.nxt E.nxt)) l
/-- A table: entries by functions. -/
noncomputable def tabK (tb : List (Nat × List Entry)) (p : CallT) (g : Nat) (args : List AV) (h : Heap) : Option (AV × Heap) :=
  List.rec (motive := fun _ => Option (AV × Heap)) (p g args h) (fun q _ ih => @Prod.rec _ _ (fun _ => Option (AV × Heap)) (fun k l => @Bool.rec (fun _ => Option (AV × Heap)) ih (tryK p g args h l) (Nat.beq k g)) q) tb

def TabOk (T : TT) (F : Nat → Option Func) (tb : List (Nat × List Entry)) : Prop := ∀ q ∈ tb, ∀ E ∈ q.2, E.g = q.1 ∧ EntryOk T F E

theorem tryK_ok {p : CallT} (hp : ∀ k args h v h', p k args h = some (v, h') → ∀ P g hr, Rel P g h hr → WF T F k args hr fun v1 h1 => v1 = v ∧ Rel P g h' h1) {k : Nat} {args : List AV} {h : Heap} {v : AV} {h' : Heap} :
    ∀ {l : List Entry}, (∀ E ∈ l, E.g = k ∧ EntryOk T F E) → tryK p k args h l = some (v, h') → ∀ P g hr, Rel P g h hr → WF T F k args hr fun v1 h1 => v1 = v ∧ Rel P g h' h1
  | [], _, e => hp _ _ _ _ _ e
  | E :: l, ok, e => by
    have e : @Bool.rec (fun _ => Option (AV × Heap)) (tryK p k args h l) (E.use args h) (Nat.beq h.nxt E.nxt) = some (v, h') := e
    cases hb : Nat.beq h.nxt E.nxt with
    | false =>
      rw [hb] at e
      exact tryK_ok hp (fun E hE => ok E (List.mem_cons_of_mem _ hE)) e
    | true =>
      rw [hb] at e
      obtain ⟨h1, h2⟩ := ok E (by simp)
      intro P g hr R
      rw [← h1]
      exact use_ok h2 e P g hr R

theorem tabK_ok {p : CallT} (hp : ∀ k args h v h', p k args h = some (v, h') → ∀ P g hr, Rel P g h hr → WF T F k args hr fun v1 h1 => v1 = v ∧ Rel P g h' h1) {k : Nat} {args : List AV} {h : Heap} {v : AV} {h' : Heap} :
    ∀ {tb : List (Nat × List Entry)}, TabOk T F tb → tabK tb p k args h = some (v, h') → ∀ P g hr, Rel P g h hr → WF T F k args hr fun v1 h1 => v1 = v ∧ Rel P g h' h1
  | [], _, e => hp _ _ _ _ _ e
  | (j, l) :: tb, ok, e => by
    have e : @Bool.rec (fun _ => Option (AV × Heap)) (tabK tb p k args h) (tryK p k args h l) (Nat.beq j k) = some (v, h') := e
    cases hb : Nat.beq j k with
    | false =>
      rw [hb] at e
      exact tabK_ok hp (fun E hE => ok E (List.mem_cons_of_mem _ hE)) e
    | true =>
      rw [hb] at e
      have hb := Nat.eq_of_beq_eq_true hb
      exact tryK_ok hp (fun E hE => by rw [← hb]; exact ok (j, l) (by simp) E hE) e

noncomputable def lvxT (T : TT) (F : Nat → Option Func) (tb : List (Nat × List Entry)) (n : Nat) : LvX :=
  Nat.rec lvx0 (fun _ p => ⟨cX T F p, tabK tb (fX T F p), rX T F p⟩) n
theorem lokT {tb : List (Nat × List Entry)} (ok : TabOk T F tb) : ∀ n, LOk T F (lvxT T F tb n)
  | 0 => lok0
  | n + 1 =>
    have ih := lokT ok n
    ⟨fun _ _ _ c _ _ _ ok h => cX_ok ih c _ _ _ ok h, fun _ _ _ _ _ h => tabK_ok (fun _ _ _ _ _ h => fX_ok ih h) ok h, fun _ _ _ _ _ h => rX_ok ih h⟩

def EsOk (T : TT) (F : Nat → Option Func) (k : Nat) (l : List Entry) : Prop := ∀ E ∈ l, E.g = k ∧ EntryOk T F E
theorem EsOk.nil {k : Nat} : EsOk T F k [] := fun _ h => by cases h
theorem EsOk.cons {k : Nat} {E : Entry} {l : List Entry} (h : E.g = k) (e : EntryOk T F E) (t : EsOk T F k l) : EsOk T F k (E :: l) := by
  intro E' h'
  simp only [List.mem_cons] at h'
  rcases h' with rfl | h'
  · exact ⟨h, e⟩
  · exact t E' h'
theorem TabOk.nil : TabOk T F [] := fun _ h => by cases h
theorem TabOk.cons {k : Nat} {l : List Entry} {tb : List (Nat × List Entry)} (h : EsOk T F k l) (t : TabOk T F tb) : TabOk T F ((k, l) :: tb) := by
  intro q hq
  simp only [List.mem_cons] at hq
  rcases hq with rfl | hq
  · exact h
  · exact t q hq

end Go.Am
