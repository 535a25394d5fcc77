/-
  Weakest conditions over the abstract machine: regions whose order is drawn and in which what was there stays as it was.
-/
import Derived.Test.YtaockkmmjinhpaaAmZ
namespace Go.Am
variable {T : TT} {F : Nat → Option Func}

mutual
theorem AV.eqb_refl : ∀ a : AV, AV.eqb a a = true
  | .int _ _ => by simp [AV.eqb]
  | .bool _ => by simp [AV.eqb]
  | .str _ => by simp [AV.eqb]
  | .ptr _ => by simp [AV.eqb]
  | .slc _ _ _ _ => by simp [AV.eqb]
  | .map _ => by simp [AV.eqb]
  | .func _ l => by simp [AV.eqb, eqbs_refl l]
  | .nilFn => by simp [AV.eqb]
  | .iface _ v => by simp [AV.eqb, AV.eqb_refl v]
  | .nilIface => by simp [AV.eqb]
  | .agg l => by simp [AV.eqb, eqbs_refl l]
  | .tup l => by simp [AV.eqb, eqbs_refl l]
theorem eqbs_refl : ∀ l : List AV, eqbs l l = true
  | [] => by simp [eqbs]
  | a :: l => by simp [eqbs, AV.eqb_refl a, eqbs_refl l]
end

/-- Operations that don't look at the heap. -/
def pureOp (T : TT) : Op → Bool
  | .move _ | .assign _ | .pick .. | .build .. | .nilCheck _ | .binOp .. | .unOp .. | .makeInterface .. | .makeFunc .. | .slice .. | .fieldAddr .. | .field ..
  | .indexAddr .. | .index .. | .extract .. => true
  | .call { callee := .builtin b, argTypes := ts, .. } => (match b with
    | .min | .max => true
    | .len => (match ts.toList with
      | t :: _ => (match T t with | some ti => (match ti.kind with | .map .. => false | _ => true) | none => false)
      | _ => false)
    | _ => false)
  | .convert _ d _ => (match T d with
    | some b => (match b.kind with
      | .int _ => true
      | _ => false)
    | none => false)
  | _ => false

theorem pure_any {ρ : Operand → Option AV} {op : Op} {h h' : Heap} {v : AV} (hp : pureOp T op = true) (e : opA T ρ op h = some (v, h')) (g : Heap) : opA T ρ op g = some (v, g) := by
  cases op with
  | move x => simp only [opA] at e ⊢; split at e <;> simp_all
  | assign x => simp only [opA] at e ⊢; split at e <;> simp_all
  | pick c a b => simp only [opA] at e ⊢; split at e <;> (try split at e) <;> simp_all
  | build t ps => simp only [opA] at e ⊢; split at e <;> (try split at e) <;> simp_all
  | nilCheck x => simp only [opA] at e ⊢; split at e <;> simp_all
  | binOp op t x y z => simp only [opA] at e ⊢; split at e <;> (try split at e) <;> simp_all
  | unOp op t x => simp only [opA] at e ⊢; split at e <;> (try split at e) <;> simp_all
  | makeInterface t x => simp only [opA] at e ⊢; split at e <;> (try split at e) <;> simp_all
  | makeFunc f a b => simp only [opA] at e ⊢; split at e <;> (try split at e) <;> (try split at e) <;> simp_all
  | slice t x a b c => simp only [opA] at e ⊢; split at e <;> (try split at e) <;> simp_all
  | fieldAddr t x f => simp only [opA] at e ⊢; split at e <;> (try split at e) <;> (try split at e) <;> (try split at e) <;> (try split at e) <;> simp_all
  | field t x f => simp only [opA] at e ⊢; split at e <;> (try split at e) <;> (try split at e) <;> (try split at e) <;> simp_all
  | indexAddr t x f => simp only [opA] at e ⊢; split at e <;> (try split at e) <;> (try split at e) <;> (try split at e) <;> simp_all
  | index t x f => simp only [opA] at e ⊢; split at e <;> (try split at e) <;> (try split at e) <;> (try split at e) <;> (try split at e) <;> simp_all
  | extract x i => simp only [opA] at e ⊢; split at e <;> (try split at e) <;> simp_all
  | convert a b x =>
    simp only [pureOp] at hp
    split at hp
    · rename_i ti hti
      split at hp
      · rename_i k hk
        simp only [opA] at e ⊢
        split at e
        · rename_i w hw
          simp only [convA, hti, hk] at e ⊢
          split at e
          · rename_i u hu
            split at e <;> simp_all
          · simp at e
        · simp at e
      · simp at hp
    · simp at hp
  | call c =>
    obtain ⟨callee, args, ts⟩ := c
    cases callee with
    | builtin b =>
      simp only [opA] at e ⊢
      split at e
      · rename_i l hl
        cases b with
        | min => simp only [builtinA] at e ⊢; split at e <;> (try split at e) <;> simp_all
        | max => simp only [builtinA] at e ⊢; split at e <;> (try split at e) <;> simp_all
        | len =>
          simp only [pureOp] at hp
          split at hp
          · rename_i t r ht
            split at hp
            · rename_i ti hti
              rw [ht] at e ⊢
              cases l with
              | nil => simp [builtinA] at e
              | cons x l =>
                cases l with
                | cons y l => simp [builtinA] at e
                | nil =>
                  simp only [builtinA] at e ⊢
                  split at e
                  · rename_i w hw
                    simp only [Option.some.injEq, Prod.mk.injEq] at e
                    obtain ⟨rfl, rfl⟩ := e
                    have : lenA T t x g = some w := by
                      simp only [lenA, hti] at hw ⊢
                      split at hw <;> simp_all
                    rw [this]
                  · simp at e
            · simp at hp
          · simp at hp
        | _ => simp [pureOp] at hp
      · simp at e
    | _ => simp [pureOp] at hp
  | _ => simp [pureOp] at hp

/-- A load out of a block that stood there. -/
theorem load_any {t : Nat} {b o : Nat} {h g : Heap} (e : g.get b = h.get b) : loadVar T g t b o = loadVar T h t b o := by
  simp only [loadVar, loadCells, e]

theorem putsA_old (base : Nat) : ∀ (l : List (Nat × Blk)) (h : Heap) (b : Nat), b < base → (putsA base l h).get b = h.get b
  | [], h, b, hb => rfl
  | (i, x) :: l, h, b, hb => by
    rw [putsA, putsA_old base l _ b hb, Heap.get_put, if_neg (by omega)]
theorem heapFor_get {base : Nat} {nb : List (Nat × Blk)} {x m : Nat} {h : Heap} {b : Nat} (hb : b < base) : (heapFor base nb x m h).get b = h.get b := putsA_old base _ h b hb

/-- A quiet operation: what it tells hangs on blocks below a number alone. -/
def Firm (T : TT) (ρ : Operand → Option AV) (op : Op) (P : Nat → Prop) (h : Heap) (v : AV) : Prop := ∀ g : Heap, (∀ b, P b → g.get b = h.get b) → opA T ρ op g = some (v, g)

def effAt (T : TT) (all : List Oper) (i : Nat) : Bool := match all[i]? with | some o => dkind T o.op == .eff | none => false

/-- An operation that is ordered against all that change something. -/
def safeB (T : TT) (all : List Oper) (bf : List Nat) (i : Nat) : Bool :=
  decide (bf.getD i 0 < 2 ^ i) && ((List.range all.length).filter (effAt T all)).all fun e => (decide (e < i) && (bf.getD i 0).testBit e) || (decide (i < e) && (bf.getD e 0).testBit i)

/-- What was newly made as operation a is handed to nothing that changes anything. -/
def newB (T : TT) (all : List Oper) (bf : List Nat) (a : Nat) : Bool := ((List.range all.length).filter (effAt T all)).all fun e => !(bf.getD e 0).testBit a
/-- What was newly made as operation a is handed to nothing that changes anything, but behind operation j. -/
def newJ (T : TT) (all : List Oper) (bf : List Nat) (a j : Nat) : Bool := ((List.range all.length).filter (effAt T all)).all fun e => !(bf.getD e 0).testBit a || (decide (j < e) && (bf.getD e 0).testBit j)
theorem newB_J {all : List Oper} {bf : List Nat} {a j : Nat} (h : newB T all bf a = true) : newJ T all bf a j = true := by
  simp only [newB, newJ, List.all_eq_true] at h ⊢
  exact fun e he => by rw [h e he]; rfl
/-- What it tells hangs on a block that was newly made in that region alone. -/
def Newly (T : TT) (ρ : Operand → Option AV) (op : Op) (v : AV) (base : Nat) (nb : List (Nat × Blk)) (x : Nat) (all : List Oper) (bf : List Nat) (j : Nat) : Prop :=
  ∃ a blk, newJ T all bf a j = true ∧ (a, blk) ∈ nb ∧ x.testBit a = true ∧ ∀ g : Heap, g.get (base + a) = some blk → opA T ρ op g = some (v, g)
def FirmN (T : TT) (ρ : Operand → Option AV) (op : Op) (P : Nat → Prop) (h : Heap) (v : AV) (base : Nat) (nb : List (Nat × Blk)) (x : Nat) (all : List Oper) (bf : List Nat) (j : Nat) : Prop := Firm T ρ op P h v ∨ Newly T ρ op v base nb x all bf j

theorem putsA_not {base a : Nat} : ∀ {l : List (Nat × Blk)} {h : Heap}, (∀ p ∈ l, p.1 ≠ a) → (putsA base l h).get (base + a) = h.get (base + a)
  | [], _, _ => rfl
  | (i, b) :: l, h, hn => by
    rw [putsA, putsA_not fun p hp => hn p (List.mem_cons_of_mem _ hp), Heap.get_put, if_neg]
    intro e
    exact hn (i, b) (by simp) (by simp only; omega)
theorem putsA_mem {base a : Nat} {blk : Blk} : ∀ {l : List (Nat × Blk)} {h : Heap}, l.Pairwise (fun p q => p.1 ≠ q.1) → (a, blk) ∈ l → (putsA base l h).get (base + a) = some blk
  | (i, b) :: l, h, hp, hm => by
    rw [List.pairwise_cons] at hp
    rw [putsA]
    rcases List.mem_cons.1 hm with hm | hm
    · simp only [Prod.mk.injEq] at hm
      obtain ⟨rfl, rfl⟩ := hm
      rw [putsA_not fun p hq => fun e => hp.1 p hq e.symm, Heap.get_put, if_pos rfl]
    · exact putsA_mem hp.2 hm
theorem heapFor_new {base a x m : Nat} {blk : Blk} {nb : List (Nat × Blk)} {h : Heap} (hp : nb.Pairwise (fun p q => p.1 ≠ q.1)) (hm : (a, blk) ∈ nb) (hx : x.testBit a = true) (hk : m.testBit a = false) : (heapFor base nb x m h).get (base + a) = some blk :=
  putsA_mem (hp.filter _) (List.mem_filter.2 ⟨hm, by simp [hx, hk]⟩)

/-- The last operation, behind all others. -/
def lastB (all : List Oper) (bf : List Nat) (i : Nat) : Bool := decide (i + 1 = all.length) && (List.range i).all fun j => (bf.getD i 0).testBit j

/-- Such a region. -/
def WE (T : TT) (F : Nat → Option Func) (P : Nat → Prop) (all : List Oper) (bf : List Nat) (base : Nat) : List Oper → Nat → List AV → Heap → List (Nat × Blk) → Nat → (List AV → Heap → Prop) → Prop
  | [], _, s, h, nb, msk, Q => Q s (putsA base (nb.filter fun p => !msk.testBit p.1) h)
  | o :: l, i, s, h, nb, msk, Q =>
    match dkind T o.op with
    | .eff => WL T F all [o] s (heapFor base nb (bf.getD i 0) msk h) fun s' h' => (∀ b, P b → h'.get b = h.get b) ∧ WE T F P all bf base l (i + 1) s' h' nb (msk ||| bf.getD i 0) Q
    | .new =>
      (wantedA o all s = true → match allocA T (evalO s) o.op (base + i) with
        | some (v, b) => WE T F P all bf base l (i + 1) (putA s o.dst v) h (nb ++ [(i, b)]) msk Q
        | none => False) ∧
      (wantedA o all s = false → WE T F P all bf base l (i + 1) (putA s o.dst undefA) h nb msk Q)
    | .quiet =>
      (wantedA o all s = true → ∃ v, (FirmN T (evalO s) o.op P h v base nb (bf.getD i 0) all bf i ∨ safeB T all bf i = true ∧ opA T (evalO s) o.op (heapFor base nb (bf.getD i 0) msk h) = some (v, heapFor base nb (bf.getD i 0) msk h)) ∧ WE T F P all bf base l (i + 1) (putA s o.dst v) h nb msk Q) ∧
      (wantedA o all s = false → WE T F P all bf base l (i + 1) (putA s o.dst undefA) h nb msk Q)
    | .no => False

/-- What stands behind each operation of such a region. -/
structure WInv (T : TT) (P : Nat → Prop) (all : List Oper) (bf : List Nat) (base : Nat) (h0 : Heap) (i : Nat) (st : DSt) : Prop where
  len : st.ss.length = i
  cnt : st.hs.length = ((List.range i).filter (effAt T all)).length
  old : ∀ q ∈ st.hs ++ [(st.msk, st.h)], (∀ b, P b → q.2.get b = h0.get b) ∨ (i = all.length ∧ ∀ j, j < all.length → effAt T all j = true ∨ q.1.testBit j = true)
  inb : ∀ p ∈ st.nb, p.1 < i
  unq : st.nb.Pairwise (fun p q => p.1 ≠ q.1)
  msk0 : ∀ a j, newJ T all bf a j = true → ∀ q ∈ st.hs ++ [(st.msk, st.h)], (q.1.testBit a = false ∨ q.1.testBit j = true) ∧ (i ≤ j → q.1.testBit a = false)
  firm : ∀ j, j < i → ∀ o, all[j]? = some o → dkind T o.op = .quiet → wantedA o all ((st.ss ++ [st.s]).getD j []) = true →
    ∃ v, (FirmN T (evalO ((st.ss ++ [st.s]).getD j [])) o.op P h0 v base st.nb (bf.getD j 0) all bf j ∨ safeB T all bf j = true ∧ ∀ (k : Nat) (q : Nat × Heap), (st.hs ++ [(st.msk, st.h)])[k]? = some q → q.1.testBit j = true ∨ (∃ e, ((List.range all.length).filter (effAt T all))[k]? = some e ∧ (bf.getD j 0).testBit e = true) ∨
      ∃ g, opA T (evalO ((st.ss ++ [st.s]).getD j [])) o.op (heapFor base st.nb (bf.getD j 0) q.1 q.2) = some (v, g)) ∧ (st.ss ++ [st.s]).getD (j + 1) [] = putA ((st.ss ++ [st.s]).getD j []) o.dst v

theorem effs_at {all : List Oper} {i k : Nat} (hi : i ≤ all.length) (hk : k < ((List.range i).filter (effAt T all)).length) : ∃ e, ((List.range all.length).filter (effAt T all))[k]? = some e ∧ e < i := by
  obtain ⟨d, hd⟩ := Nat.exists_eq_add_of_le hi
  rw [hd, List.range_add, List.filter_append, List.getElem?_append_left hk]
  refine ⟨_, List.getElem?_eq_getElem hk, ?_⟩
  have := List.getElem_mem hk
  simp only [List.mem_filter, List.mem_range] at this
  exact this.1

theorem safe_bits {all : List Oper} {bf : List Nat} {i : Nat} (h : safeB T all bf i = true) : (∀ k, i ≤ k → (bf.getD i 0).testBit k = false) ∧ ∀ e, e < all.length → effAt T all e = true → (e < i ∧ (bf.getD i 0).testBit e = true) ∨ (i < e ∧ (bf.getD e 0).testBit i = true) := by
  simp only [safeB, Bool.and_eq_true, decide_eq_true_eq, List.all_eq_true, List.mem_filter, List.mem_range, Bool.or_eq_true] at h
  refine ⟨fun k hk => Nat.testBit_lt_two_pow (Nat.lt_of_lt_of_le h.1 (Nat.pow_le_pow_right (by omega) hk)), fun e h1 h2 => h.2 e ⟨h1, h2⟩⟩

theorem heapFor_more {base : Nat} {nb : List (Nat × Blk)} {i : Nat} {b : Blk} {x m : Nat} {h : Heap} (hx : x.testBit i = false) : heapFor base (nb ++ [(i, b)]) x m h = heapFor base nb x m h := by
  simp [heapFor, List.filter_append, hx]

/-- A step that leaves heaps alone. -/
theorem WInv.next {P : Nat → Prop} {all : List Oper} {bf : List Nat} {base : Nat} {h0 : Heap} {i : Nat} {st st' : DSt} (I : WInv T P all bf base h0 i st) (hlt : i < all.length) (e1 : st'.ss = st.ss ++ [st.s]) (hne : effAt T all i = false) (eh : st'.hs = st.hs) (em : st'.msk = st.msk) (eg : st'.h = st.h)
    (en : st'.nb = st.nb ∨ ∃ b, st'.nb = st.nb ++ [(i, b)])
    (e3 : ∀ o, all[i]? = some o → dkind T o.op = .quiet → wantedA o all st.s = true → st'.nb = st.nb ∧ ∃ v, (FirmN T (evalO st.s) o.op P h0 v base st.nb (bf.getD i 0) all bf i ∨ safeB T all bf i = true ∧ ∃ g, opA T (evalO st.s) o.op (heapFor base st.nb (bf.getD i 0) st.msk st.h) = some (v, g)) ∧ st'.s = putA st.s o.dst v) : WInv T P all bf base h0 (i + 1) st' := by
  have hl := I.len
  have hmem : ∀ p ∈ st'.nb, p ∈ st.nb ∨ p.1 = i := by
    rcases en with en | ⟨b, en⟩
    · rw [en]; exact fun p hp => .inl hp
    · rw [en]; intro p hp
      rcases List.mem_append.1 hp with hp | hp
      · exact .inl hp
      · simp only [List.mem_singleton] at hp; subst hp; exact .inr rfl
  have hsub : ∀ p ∈ st.nb, p ∈ st'.nb := by
    rcases en with en | ⟨b, en⟩
    · rw [en]; exact fun p hp => hp
    · rw [en]; exact fun p hp => List.mem_append_left _ hp
  refine ⟨by rw [e1]; simp [hl], ?_, fun q hq => .inl ((I.old q (by rw [eh, em, eg] at hq; exact hq)).resolve_right fun x => by omega), fun p hp => ?_, ?_, by rw [eh, em, eg]; exact fun a j ha q hq => ⟨(I.msk0 a j ha q hq).1, fun h1 => (I.msk0 a j ha q hq).2 (by omega)⟩, ?_⟩
  rotate_left
  · rcases hmem p hp with hp | hp
    · have := I.inb p hp; omega
    · omega
  · rcases en with en | ⟨b, en⟩
    · rw [en]; exact I.unq
    · rw [en, List.pairwise_append]
      refine ⟨I.unq, by simp, fun p hp q hq => ?_⟩
      simp only [List.mem_singleton] at hq
      subst hq
      have := I.inb p hp
      simp only; omega
  rotate_left
  · rw [eh, I.cnt, List.range_succ, List.filter_append]; simp [hne]
  have ha : ∀ j, j ≤ i → (st'.ss ++ [st'.s]).getD j [] = (st.ss ++ [st.s]).getD j [] := by
    intro j hj
    rw [e1, List.getD_eq_getElem?_getD, List.getD_eq_getElem?_getD, List.getElem?_append_left (by simp [hl]; omega)]
  intro j hj o ho hk hw
  rw [ha j (by omega)] at hw ⊢
  rw [eh, em, eg]
  rcases Nat.lt_or_ge j i with hji | hji
  · rw [ha (j + 1) (by omega)]
    obtain ⟨v, h1, h2⟩ := I.firm j hji o ho hk hw
    refine ⟨v, h1.imp (fun hf => hf.imp id fun ⟨a, blk, n1, n2, n3⟩ => ⟨a, blk, n1, hsub _ n2, n3⟩) fun ⟨h3, h4⟩ => ⟨h3, fun k q hq => ?_⟩, h2⟩
    rcases en with en | ⟨b, en⟩
    · rw [en]; exact h4 k q hq
    · rw [en, heapFor_more ((safe_bits h3).1 i (by omega))]; exact h4 k q hq
  · have : j = i := by omega
    subst this
    have hs : (st.ss ++ [st.s]).getD j [] = st.s := by
      rw [List.getD_eq_getElem?_getD, ← hl]; simp
    rw [hs] at hw ⊢
    obtain ⟨en, v, h1, h2⟩ := e3 o ho hk hw
    refine ⟨v, h1.imp (fun hf => by rw [en]; exact hf) fun ⟨h3, g, h4⟩ => ⟨h3, fun k q hq => ?_⟩, ?_⟩
    · rw [← h2, e1, List.getD_eq_getElem?_getD]
      rw [List.getElem?_append_right (by simp [hl])]
      simp [hl]
    · rw [en]
      rcases Nat.lt_or_ge k st.hs.length with hkl | hkl
      · rw [I.cnt] at hkl
        obtain ⟨e, e1, e2⟩ := effs_at (Nat.le_of_lt hlt) hkl
        refine .inr (.inl ⟨e, e1, ?_⟩)
        have hm := List.mem_of_getElem? e1
        simp only [List.mem_filter, List.mem_range] at hm
        rcases (safe_bits h3).2 e hm.1 hm.2 with h5 | h5
        · exact h5.2
        · omega
      · rw [List.getElem?_append_right hkl] at hq
        have : k - st.hs.length = 0 := by
          have := (List.getElem?_eq_some_iff.1 hq).1
          simp at this; omega
        rw [this] at hq
        simp only [List.getElem?_cons_zero, Option.some.injEq] at hq
        subst hq
        exact .inr (.inr ⟨g, h4⟩)

/-- A step that changes something. -/
theorem WInv.eff {P : Nat → Prop} {all : List Oper} {bf : List Nat} {base : Nat} {h0 : Heap} {i : Nat} {st : DSt} {s' : List AV} {h' : Heap} (I : WInv T P all bf base h0 i st) (hlt : i < all.length) (hne : effAt T all i = true) (hp : (∀ b, P b → h'.get b = h0.get b) ∨ lastB all bf i = true) :
    WInv T P all bf base h0 (i + 1) { ss := st.ss ++ [st.s], s := s', hs := st.hs ++ [(st.msk, st.h)], msk := st.msk ||| bf.getD i 0, h := h', nb := st.nb } := by
  have hl := I.len
  refine ⟨by simp [hl], ?_, ?_, fun p hp => Nat.lt_succ_of_lt (I.inb p hp), I.unq, fun a j ha q hq => ?_, ?_⟩
  rotate_left 2
  · simp only [List.mem_append, List.mem_singleton] at hq
    rcases hq with (hq | hq) | hq
    · exact ⟨(I.msk0 a j ha q (by simp [hq])).1, fun h1 => (I.msk0 a j ha q (by simp [hq])).2 (by omega)⟩
    · exact ⟨(I.msk0 a j ha q (by simp [hq])).1, fun h1 => (I.msk0 a j ha q (by simp [hq])).2 (by omega)⟩
    · subst hq
      obtain ⟨h1, h3⟩ := I.msk0 a j ha (st.msk, st.h) (by simp)
      have h2 : (bf.getD i 0).testBit a = false ∨ (j < i ∧ (bf.getD i 0).testBit j = true) := by
        simp only [newJ, List.all_eq_true, List.mem_filter, List.mem_range, Bool.or_eq_true, Bool.and_eq_true, decide_eq_true_eq, Bool.not_eq_true'] at ha
        exact ha i ⟨hlt, hne⟩
      simp only at h1 h3
      simp only [Nat.testBit_or]
      refine ⟨?_, fun h4 => ?_⟩
      · rcases h2 with h2 | ⟨_, h2⟩
        · rcases h1 with h1 | h1
          · exact .inl (by rw [h1, h2]; rfl)
          · exact .inr (by rw [h1]; rfl)
        · exact .inr (by rw [h2, Bool.or_true])
      · rcases h2 with h2 | ⟨h5, _⟩
        · rw [h2, h3 (by omega)]; rfl
        · omega
  rotate_left
  · simp only [List.length_append, List.length_cons, List.length_nil, I.cnt, List.range_succ, List.filter_append]; simp [hne]
  · intro q hq
    simp only [List.mem_append, List.mem_singleton] at hq
    rcases hq with (hq | hq) | hq
    · exact .inl ((I.old q (by simp [hq])).resolve_right fun x => by omega)
    · exact .inl ((I.old q (by simp [hq])).resolve_right fun x => by omega)
    · subst hq
      refine hp.imp id fun hp => ?_
      simp only [lastB, Bool.and_eq_true, decide_eq_true_eq, List.all_eq_true, List.mem_range] at hp
      refine ⟨hp.1, fun j hj => ?_⟩
      by_cases hji : j = i
      · subst hji; exact .inl hne
      · refine .inr ?_
        simp only [Nat.testBit_or, Bool.or_eq_true]
        exact .inr (hp.2 j (by omega))
  have ha : ∀ j, j ≤ i → ((st.ss ++ [st.s]) ++ [s']).getD j [] = (st.ss ++ [st.s]).getD j [] := by
    intro j hj
    rw [List.getD_eq_getElem?_getD, List.getD_eq_getElem?_getD, List.getElem?_append_left (by simp [hl]; omega)]
  intro j hj o ho hk hw
  simp only at hw ⊢
  rw [ha j (by omega)] at hw ⊢
  rcases Nat.lt_or_ge j i with hji | hji
  · rw [ha (j + 1) (by omega)]
    obtain ⟨v, h1, h2⟩ := I.firm j hji o ho hk hw
    refine ⟨v, h1.imp id fun ⟨h3, h4⟩ => ⟨h3, fun k q hq => ?_⟩, h2⟩
    rcases Nat.lt_or_ge k (st.hs ++ [(st.msk, st.h)]).length with hkl | hkl
    · rw [List.getElem?_append_left hkl] at hq
      exact h4 k q hq
    · rw [List.getElem?_append_right hkl] at hq
      have : k - (st.hs ++ [(st.msk, st.h)]).length = 0 := by
        have := (List.getElem?_eq_some_iff.1 hq).1
        simp at this ⊢; omega
      rw [this] at hq
      simp only [List.getElem?_cons_zero, Option.some.injEq] at hq
      subst hq
      refine .inl ?_
      simp only [Nat.testBit_or, Bool.or_eq_true]
      rcases (safe_bits h3).2 i hlt hne with h5 | h5
      · omega
      · exact .inr h5.2
  · have : j = i := by omega
    subst this
    simp only [effAt, ho, beq_iff_eq] at hne
    rw [hk] at hne; cases hne

theorem sameV_of {r : Option (AV × Heap)} {v : AV} {g : Heap} {dst : Option Nat} {s s' : List AV} (e : r = some (v, g)) (hs : s' = putA s dst v) : sameV r dst s' = true := by
  subst e
  simp only [sameV]
  split
  · rfl
  · rename_i d
    rw [hs]
    simp only [putA]
    split
    · rename_i v' hv'
      rw [List.getElem?_set] at hv'
      simp only [if_true] at hv'
      split at hv'
      · simp only [Option.some.injEq] at hv'; subst hv'; exact AV.eqb_refl _
      · simp at hv'
    · rfl

theorem WInv.chk {P : Nat → Prop} {ops : List Oper} {base : Nat} {h0 : Heap} {st : DSt} (hP : ∀ b, P b → b < base) (I : WInv T P ops (befores ops []) base h0 ops.length st) : drawChk T ops base st = true := by
  unfold drawChk
  refine Bool.or_eq_true_iff.2 (.inr ?_)
  simp only [List.all_eq_true]
  intro ⟨o, i⟩ hoi
  have ho : ops[i]? = some o := by
    rw [List.mem_zipIdx_iff_getElem?] at hoi; exact hoi
  have hi : i < ops.length := (List.getElem?_eq_some_iff.1 ho).1
  simp only [Bool.or_eq_true, List.all_eq_true]
  by_cases hq : dkind T o.op = .quiet
  · cases hw : wantedA o ops ((st.ss ++ [st.s]).getD i []) with
    | false => simp
    | true =>
      refine .inr fun ⟨q, k⟩ hqk => ?_
      rw [List.mem_zipIdx_iff_getElem?] at hqk
      have hmem : q ∈ st.hs ++ [(st.msk, st.h)] := List.mem_of_getElem? hqk
      obtain ⟨v, hf, hs⟩ := I.firm i hi o ho hq hw
      rcases hf with (hf | ⟨a, blk, n1, n2, n3, n4⟩) | ⟨_, hf⟩
      · rcases I.old q hmem with ho1 | ⟨_, ho1⟩
        · exact .inr (sameV_of (hf _ fun b hb => (heapFor_get (hP b hb)).trans (ho1 b hb)) hs)
        · refine .inl (.inl ((ho1 i hi).resolve_left fun he => ?_))
          simp only [effAt, ho, hq] at he
          cases he
      · rcases (I.msk0 a i n1 q hmem).1 with h1 | h1
        · exact .inr (sameV_of (n4 _ (heapFor_new I.unq n2 n3 h1)) hs)
        · exact .inl (.inl h1)
      · rcases hf k q hqk with h1 | ⟨e, h1, h2⟩ | ⟨g, h1⟩
        · exact .inl (.inl h1)
        · refine .inl (.inr ?_)
          have hh : ∀ l : List Nat, l[k]? = some e → (match l[k]? with | some e => ((befores ops []).getD i 0).testBit e | none => false) = true := by
            intro l hl; rw [hl]; exact h2
          exact hh _ h1
        · exact .inr (sameV_of h1 hs)
  · refine .inl (.inl ?_)
    simp [hq]

section
variable {P : Nat → Prop} {all l : List Oper} {bf : List Nat} {base i msk : Nat} {s : List AV} {h : Heap} {nb : List (Nat × Blk)} {Q : List AV → Heap → Prop} {d : Option Nat} {op : Op} {ty : TypeId} {pos : String} {after : Array Edge}

theorem WE_pure (hk : dkind T op = .quiet) (hp : pureOp T op = true) : WE T F P all bf base (⟨d, op, ty, pos, after, none⟩ :: l) i s h nb msk Q = @OBk (opA T (evalO s) op h) ⟨fun v _ => @SetK (putA s d v) h ⟨fun s h => WE T F P all bf base l (i + 1) s h nb msk Q⟩⟩ := by
  rw [WE]
  simp only [hk, wantedA, true_imp_iff, Bool.true_eq_false, false_imp_iff, and_true, OBk, OB, SetK]
  refine propext ⟨fun ⟨v, hf, w⟩ => ?_, fun w => ?_⟩
  · have : opA T (evalO s) op h = some (v, h) := hf.elim (fun hf => hf.elim (fun hf => hf h fun _ _ => rfl) fun ⟨a, blk, _, _, _, n4⟩ => pure_any hp (n4 (h.put (base + a) blk) (by rw [Heap.get_put, if_pos rfl])) h) fun hf => pure_any hp hf.2 h
    rw [this]; exact w
  · cases hx : opA T (evalO s) op h with
    | none => rw [hx] at w; exact w.elim
    | some p =>
      rw [hx] at w
      obtain ⟨v, h'⟩ := p
      exact ⟨v, .inl (.inl fun g _ => pure_any hp hx g), w⟩
@[go_sem ↓] theorem WE_move {x} : WE T F P all bf base (⟨d, .move x, ty, pos, after, none⟩ :: l) i s h nb msk Q = @OBk (opA T (evalO s) (.move x) h) ⟨fun v _ => @SetK (putA s d v) h ⟨fun s h => WE T F P all bf base l (i + 1) s h nb msk Q⟩⟩ := WE_pure rfl rfl
@[go_sem ↓] theorem WE_assign {x} : WE T F P all bf base (⟨d, .assign x, ty, pos, after, none⟩ :: l) i s h nb msk Q = @OBk (opA T (evalO s) (.assign x) h) ⟨fun v _ => @SetK (putA s d v) h ⟨fun s h => WE T F P all bf base l (i + 1) s h nb msk Q⟩⟩ := WE_pure rfl rfl
@[go_sem ↓] theorem WE_binOp {op t x y e} : WE T F P all bf base (⟨d, .binOp op t x y e, ty, pos, after, none⟩ :: l) i s h nb msk Q = @OBk (opA T (evalO s) (.binOp op t x y e) h) ⟨fun v _ => @SetK (putA s d v) h ⟨fun s h => WE T F P all bf base l (i + 1) s h nb msk Q⟩⟩ := WE_pure rfl rfl
@[go_sem ↓] theorem WE_unOp {op t x} : WE T F P all bf base (⟨d, .unOp op t x, ty, pos, after, none⟩ :: l) i s h nb msk Q = @OBk (opA T (evalO s) (.unOp op t x) h) ⟨fun v _ => @SetK (putA s d v) h ⟨fun s h => WE T F P all bf base l (i + 1) s h nb msk Q⟩⟩ := WE_pure rfl rfl
@[go_sem ↓] theorem WE_extract {x i} : WE T F P all bf base (⟨d, .extract x i, ty, pos, after, none⟩ :: l) i s h nb msk Q = @OBk (opA T (evalO s) (.extract x i) h) ⟨fun v _ => @SetK (putA s d v) h ⟨fun s h => WE T F P all bf base l (i + 1) s h nb msk Q⟩⟩ := WE_pure rfl rfl
@[go_sem ↓] theorem WE_build {t x} : WE T F P all bf base (⟨d, .build t x, ty, pos, after, none⟩ :: l) i s h nb msk Q = @OBk (opA T (evalO s) (.build t x) h) ⟨fun v _ => @SetK (putA s d v) h ⟨fun s h => WE T F P all bf base l (i + 1) s h nb msk Q⟩⟩ := WE_pure rfl rfl
@[go_sem ↓] theorem WE_nilCheck {x} : WE T F P all bf base (⟨d, .nilCheck x, ty, pos, after, none⟩ :: l) i s h nb msk Q = @OBk (opA T (evalO s) (.nilCheck x) h) ⟨fun v _ => @SetK (putA s d v) h ⟨fun s h => WE T F P all bf base l (i + 1) s h nb msk Q⟩⟩ := WE_pure rfl rfl
@[go_sem ↓] theorem WE_slice {t x a b c} : WE T F P all bf base (⟨d, .slice t x a b c, ty, pos, after, none⟩ :: l) i s h nb msk Q = @OBk (opA T (evalO s) (.slice t x a b c) h) ⟨fun v _ => @SetK (putA s d v) h ⟨fun s h => WE T F P all bf base l (i + 1) s h nb msk Q⟩⟩ := WE_pure rfl rfl
@[go_sem ↓] theorem WE_fieldAddr {t x f} : WE T F P all bf base (⟨d, .fieldAddr t x f, ty, pos, after, none⟩ :: l) i s h nb msk Q = @OBk (opA T (evalO s) (.fieldAddr t x f) h) ⟨fun v _ => @SetK (putA s d v) h ⟨fun s h => WE T F P all bf base l (i + 1) s h nb msk Q⟩⟩ := WE_pure rfl rfl
@[go_sem ↓] theorem WE_field {t x f} : WE T F P all bf base (⟨d, .field t x f, ty, pos, after, none⟩ :: l) i s h nb msk Q = @OBk (opA T (evalO s) (.field t x f) h) ⟨fun v _ => @SetK (putA s d v) h ⟨fun s h => WE T F P all bf base l (i + 1) s h nb msk Q⟩⟩ := WE_pure rfl rfl
@[go_sem ↓] theorem WE_indexAddr {t x f} : WE T F P all bf base (⟨d, .indexAddr t x f, ty, pos, after, none⟩ :: l) i s h nb msk Q = @OBk (opA T (evalO s) (.indexAddr t x f) h) ⟨fun v _ => @SetK (putA s d v) h ⟨fun s h => WE T F P all bf base l (i + 1) s h nb msk Q⟩⟩ := WE_pure rfl rfl
@[go_sem ↓] theorem WE_index {t x f} : WE T F P all bf base (⟨d, .index t x f, ty, pos, after, none⟩ :: l) i s h nb msk Q = @OBk (opA T (evalO s) (.index t x f) h) ⟨fun v _ => @SetK (putA s d v) h ⟨fun s h => WE T F P all bf base l (i + 1) s h nb msk Q⟩⟩ := WE_pure rfl rfl
@[go_sem ↓] theorem WE_pick {c x y} : WE T F P all bf base (⟨d, .pick c x y, ty, pos, after, none⟩ :: l) i s h nb msk Q = @OBk (opA T (evalO s) (.pick c x y) h) ⟨fun v _ => @SetK (putA s d v) h ⟨fun s h => WE T F P all bf base l (i + 1) s h nb msk Q⟩⟩ := WE_pure rfl rfl
@[go_sem ↓] theorem WE_makeFunc {c x y} : WE T F P all bf base (⟨d, .makeFunc c x y, ty, pos, after, none⟩ :: l) i s h nb msk Q = @OBk (opA T (evalO s) (.makeFunc c x y) h) ⟨fun v _ => @SetK (putA s d v) h ⟨fun s h => WE T F P all bf base l (i + 1) s h nb msk Q⟩⟩ := WE_pure rfl rfl
@[go_sem ↓] theorem WE_makeInterface {t x} : WE T F P all bf base (⟨d, .makeInterface t x, ty, pos, after, none⟩ :: l) i s h nb msk Q = @OBk (opA T (evalO s) (.makeInterface t x) h) ⟨fun v _ => @SetK (putA s d v) h ⟨fun s h => WE T F P all bf base l (i + 1) s h nb msk Q⟩⟩ := WE_pure rfl rfl
@[go_sem ↓] theorem WE_min {args ts} : WE T F P all bf base (⟨d, .call { callee := .builtin .min, args, argTypes := ts }, ty, pos, after, none⟩ :: l) i s h nb msk Q = @OBk (opA T (evalO s) (.call { callee := .builtin .min, args, argTypes := ts }) h) ⟨fun v _ => @SetK (putA s d v) h ⟨fun s h => WE T F P all bf base l (i + 1) s h nb msk Q⟩⟩ := WE_pure rfl rfl
@[go_sem ↓] theorem WE_max {args ts} : WE T F P all bf base (⟨d, .call { callee := .builtin .max, args, argTypes := ts }, ty, pos, after, none⟩ :: l) i s h nb msk Q = @OBk (opA T (evalO s) (.call { callee := .builtin .max, args, argTypes := ts }) h) ⟨fun v _ => @SetK (putA s d v) h ⟨fun s h => WE T F P all bf base l (i + 1) s h nb msk Q⟩⟩ := WE_pure rfl rfl
@[go_sem] def lenPure (T : TT) (t : Nat) : Bool := match T t with | some ti => (match ti.kind with | .map .. => false | _ => true) | none => false
@[go_sem ↓] theorem WE_len {args t} : WE T F P all bf base (⟨d, .call { callee := .builtin .len, args, argTypes := ⟨[t]⟩ }, ty, pos, after, none⟩ :: l) i s h nb msk Q = @condK (some (.bool (lenPure T t)))
    ⟨@OBk (opA T (evalO s) (.call { callee := .builtin .len, args, argTypes := ⟨[t]⟩ }) h) ⟨fun v _ => @SetK (putA s d v) h ⟨fun s h => WE T F P all bf base l (i + 1) s h nb msk Q⟩⟩, WE T F P all bf base (⟨d, .call { callee := .builtin .len, args, argTypes := ⟨[t]⟩ }, ty, pos, after, none⟩ :: l) i s h nb msk Q⟩ := by
  cases hp : lenPure T t with
  | true =>
    rw [condK_true]
    exact WE_pure (op := .call { callee := .builtin .len, args, argTypes := ⟨[t]⟩ }) rfl hp
  | false => rw [condK_false]; exact rfl
class KL where
  p : Prop
/-- A load in such a region, reached. -/
def LoadK [K : KL] : Prop := K.p
@[go_sem ↓] theorem WE_load' {t x} : WE T F P all bf base (⟨d, .load t x, ty, pos, after, none⟩ :: l) i s h nb msk Q = @LoadK ⟨WE T F P all bf base (⟨d, .load t x, ty, pos, after, none⟩ :: l) i s h nb msk Q⟩ := propext Iff.rfl
theorem WE_eff (hk : dkind T op = .eff) : WE T F P all bf base (⟨d, op, ty, pos, after, none⟩ :: l) i s h nb msk Q = WK T F op s (heapFor base nb (bf.getD i 0) msk h) fun v h' => (∀ b, P b → h'.get b = h.get b) ∧ @SetK (putA s d v) h' ⟨fun s h' => WE T F P all bf base l (i + 1) s h' nb (msk ||| bf.getD i 0) Q⟩ := by
  rw [WE]
  simp only [hk, WL_op, WL_nil, SetK]
@[go_sem ↓] theorem WE_call {f args ts} : WE T F P all bf base (⟨d, .call { callee := .value f, args, argTypes := ts }, ty, pos, after, none⟩ :: l) i s h nb msk Q = WK T F (.call { callee := .value f, args, argTypes := ts }) s (heapFor base nb (bf.getD i 0) msk h) fun v h' => (∀ b, P b → h'.get b = h.get b) ∧ @SetK (putA s d v) h' ⟨fun s h' => WE T F P all bf base l (i + 1) s h' nb (msk ||| bf.getD i 0) Q⟩ := WE_eff rfl
@[go_sem ↓] theorem WE_append {args ts} : WE T F P all bf base (⟨d, .call { callee := .builtin .append, args, argTypes := ts }, ty, pos, after, none⟩ :: l) i s h nb msk Q = WK T F (.call { callee := .builtin .append, args, argTypes := ts }) s (heapFor base nb (bf.getD i 0) msk h) fun v h' => (∀ b, P b → h'.get b = h.get b) ∧ @SetK (putA s d v) h' ⟨fun s h' => WE T F P all bf base l (i + 1) s h' nb (msk ||| bf.getD i 0) Q⟩ := WE_eff rfl
@[go_sem ↓] theorem WE_store {t x y} : WE T F P all bf base (⟨d, .store t x y, ty, pos, after, none⟩ :: l) i s h nb msk Q = WK T F (.store t x y) s (heapFor base nb (bf.getD i 0) msk h) fun v h' => (∀ b, P b → h'.get b = h.get b) ∧ @SetK (putA s d v) h' ⟨fun s h' => WE T F P all bf base l (i + 1) s h' nb (msk ||| bf.getD i 0) Q⟩ := WE_eff rfl
def putsF (base : Nat) (nb : List (Nat × Blk)) (msk : Nat) (h : Heap) : Heap := putsA base (nb.filter fun p => !msk.testBit p.1) h
@[go_sem] theorem putsF_nil {m : Nat} {h : Heap} : putsF base [] m h = h := rfl
@[go_sem ↓] theorem WE_nil : WE T F P all bf base [] i s h nb msk Q = @SetK s (putsF base nb msk h) ⟨Q⟩ := propext Iff.rfl
@[go_sem] theorem heapFor_nil {x m : Nat} : heapFor base [] x m h = h := rfl
@[go_sem] theorem putsA_nil : putsA base [] h = h := rfl
attribute [go_sem] List.filter_nil
class KB where
  k : AV → Blk → Prop
def AllocK (r : Option (AV × Blk)) [K : KB] : Prop := match r with | some (v, b) => K.k v b | none => False
@[go_sem] theorem AllocK_some {v : AV} {b : Blk} {K : KB} : @AllocK (some (v, b)) K = K.k v b := propext Iff.rfl
theorem WE_new (hk : dkind T op = .new) : WE T F P all bf base (⟨d, op, ty, pos, after, none⟩ :: l) i s h nb msk Q = @AllocK (allocA T (evalO s) op (base + i)) ⟨fun v b => @SetK (putA s d v) h ⟨fun s h => WE T F P all bf base l (i + 1) s h (nb ++ [(i, b)]) msk Q⟩⟩ := by
  rw [WE]
  simp only [hk, wantedA, true_imp_iff, Bool.true_eq_false, false_imp_iff, and_true, AllocK, SetK]
@[go_sem ↓] theorem WE_buildSlice {t n x} : WE T F P all bf base (⟨d, .buildSlice t n x, ty, pos, after, none⟩ :: l) i s h nb msk Q = @AllocK (allocA T (evalO s) (.buildSlice t n x) (base + i)) ⟨fun v b => @SetK (putA s d v) h ⟨fun s h => WE T F P all bf base l (i + 1) s h (nb ++ [(i, b)]) msk Q⟩⟩ := WE_new rfl
@[go_sem ↓] theorem WE_alloc {t} : WE T F P all bf base (⟨d, .alloc t, ty, pos, after, none⟩ :: l) i s h nb msk Q = @AllocK (allocA T (evalO s) (.alloc t) (base + i)) ⟨fun v b => @SetK (putA s d v) h ⟨fun s h => WE T F P all bf base l (i + 1) s h (nb ++ [(i, b)]) msk Q⟩⟩ := WE_new rfl
@[go_sem ↓] theorem WE_box {t x} : WE T F P all bf base (⟨d, .box t x, ty, pos, after, none⟩ :: l) i s h nb msk Q = @AllocK (allocA T (evalO s) (.box t x) (base + i)) ⟨fun v b => @SetK (putA s d v) h ⟨fun s h => WE T F P all bf base l (i + 1) s h (nb ++ [(i, b)]) msk Q⟩⟩ := WE_new rfl
@[go_sem ↓] theorem WE_makeSlice {t x y} : WE T F P all bf base (⟨d, .makeSlice t x y, ty, pos, after, none⟩ :: l) i s h nb msk Q = @AllocK (allocA T (evalO s) (.makeSlice t x y) (base + i)) ⟨fun v b => @SetK (putA s d v) h ⟨fun s h => WE T F P all bf base l (i + 1) s h (nb ++ [(i, b)]) msk Q⟩⟩ := WE_new rfl
@[go_sem] theorem heapFor_cons {x m j : Nat} {b : Blk} {h : Heap} {nb : List (Nat × Blk)} : heapFor base ((j, b) :: nb) x m h = heapFor base nb x m (if (x.testBit j && !m.testBit j) = true then h.put (base + j) b else h) := by
  simp only [heapFor, List.filter_cons]
  split <;> rfl
@[go_sem] theorem putsF_cons {m j : Nat} {b : Blk} {h : Heap} {nb : List (Nat × Blk)} : putsF base ((j, b) :: nb) m h = putsF base nb m (if (!m.testBit j) = true then h.put (base + j) b else h) := by
  simp only [putsF, List.filter_cons]
  split <;> rfl
attribute [go_sem] allocA Nat.testBit
end

end Go.Am
