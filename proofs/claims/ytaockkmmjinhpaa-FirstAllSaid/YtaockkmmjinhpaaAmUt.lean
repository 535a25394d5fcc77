/-
  The abstract machine: drawn regions at whose end several operations, one behind the other, change what was read.
-/
import Derived.Test.YtaockkmmjinhpaaAmUz
set_option linter.unusedVariables false
namespace Go.Am
open Go
variable {T : TT} {F : Nat → Option Func}

def pureAt (T : TT) (all : List Oper) (j : Nat) : Bool := match all[j]? with | some o => dkind T o.op == .quiet && pureOp T o.op | none => false
/-- From here on operations look at no heap, or change one. -/
def tailB (T : TT) (all : List Oper) (i : Nat) : Bool := (List.range all.length).all fun j => decide (j < i) || effAt T all j || pureAt T all j
theorem tailB_succ {all : List Oper} {i : Nat} (h : tailB T all i = true) : tailB T all (i + 1) = true := by
  simp only [tailB, List.all_eq_true, List.mem_range, Bool.or_eq_true, decide_eq_true_eq] at h ⊢
  intro j hj
  rcases h j hj with (h1 | h1) | h1
  · exact .inl (.inl (by omega))
  · exact .inl (.inr h1)
  · exact .inr h1
/-- An operation behind all that look at a heap; what is behind it looks at none. -/
def lastT (T : TT) (all : List Oper) (bf : List Nat) (i : Nat) : Bool := tailB T all (i + 1) && (List.range all.length).all fun j => effAt T all j || pureAt T all j || (bf.getD i 0).testBit j
structure WInvT (T : TT) (P : Nat → Prop) (all : List Oper) (bf : List Nat) (base : Nat) (h0 : Heap) (i : Nat) (st : DSt) : Prop where
  len : st.ss.length = i
  cnt : st.hs.length = ((List.range i).filter (effAt T all)).length
  old : ∀ q ∈ st.hs ++ [(st.msk, st.h)], (∀ b, P b → q.2.get b = h0.get b) ∨ (tailB T all i = true ∧ ∀ j, j < all.length → effAt T all j = true ∨ pureAt T all j = true ∨ q.1.testBit j = true)
  inb : ∀ p ∈ st.nb, p.1 < i
  unq : st.nb.Pairwise (fun p q => p.1 ≠ q.1)
  msk0 : ∀ a j, newJ T all bf a j = true → ∀ q ∈ st.hs ++ [(st.msk, st.h)], (q.1.testBit a = false ∨ q.1.testBit j = true) ∧ (i ≤ j → q.1.testBit a = false)
  firm : ∀ j, j < i → ∀ o, all[j]? = some o → dkind T o.op = .quiet → wantedA o all ((st.ss ++ [st.s]).getD j []) = true →
    ∃ v, (FirmN T (evalO ((st.ss ++ [st.s]).getD j [])) o.op P h0 v base st.nb (bf.getD j 0) all bf j ∨ safeB T all bf j = true ∧ ∀ (k : Nat) (q : Nat × Heap), (st.hs ++ [(st.msk, st.h)])[k]? = some q → q.1.testBit j = true ∨ (∃ e, ((List.range all.length).filter (effAt T all))[k]? = some e ∧ (bf.getD j 0).testBit e = true) ∨
      ∃ g, opA T (evalO ((st.ss ++ [st.s]).getD j [])) o.op (heapFor base st.nb (bf.getD j 0) q.1 q.2) = some (v, g)) ∧ (st.ss ++ [st.s]).getD (j + 1) [] = putA ((st.ss ++ [st.s]).getD j []) o.dst v

theorem eff_old {P : Nat → Prop} {all : List Oper} {bf : List Nat} {h0 h h' : Heap} {i msk : Nat}
    (hc : (∀ b, P b → h.get b = h0.get b) ∨ (tailB T all i = true ∧ ∀ j, j < all.length → effAt T all j = true ∨ pureAt T all j = true ∨ msk.testBit j = true)) (q : (∀ b, P b → h'.get b = h.get b) ∨ lastT T all bf i = true) :
    (∀ b, P b → h'.get b = h0.get b) ∨ (tailB T all (i + 1) = true ∧ ∀ j, j < all.length → effAt T all j = true ∨ pureAt T all j = true ∨ (msk ||| bf.getD i 0).testBit j = true) := by
  rcases hc with hc | ⟨h1, h2⟩
  · rcases q with q | q
    · exact .inl fun b hb => (q b hb).trans (hc b hb)
    · simp only [lastT, Bool.and_eq_true, List.all_eq_true, List.mem_range, Bool.or_eq_true] at q
      refine .inr ⟨q.1, fun j hj => ?_⟩
      rcases q.2 j hj with (h1 | h1) | h1
      · exact .inl h1
      · exact .inr (.inl h1)
      · exact .inr (.inr (by rw [Nat.testBit_or, h1, Bool.or_true]))
  · refine .inr ⟨tailB_succ h1, fun j hj => ?_⟩
    rcases h2 j hj with h1 | h1 | h1
    · exact .inl h1
    · exact .inr (.inl h1)
    · exact .inr (.inr (by rw [Nat.testBit_or, h1, Bool.true_or]))
theorem firm_old {P : Nat → Prop} {all : List Oper} {h0 h : Heap} {i msk : Nat} {o : Oper} {ρ : Operand → Option AV} {v : AV} (hlt : i < all.length) (hk : all[i]? = some o) (hkd : dkind T o.op = .quiet)
    (hc : (∀ b, P b → h.get b = h0.get b) ∨ (tailB T all i = true ∧ ∀ j, j < all.length → effAt T all j = true ∨ pureAt T all j = true ∨ msk.testBit j = true)) (hf : Firm T ρ o.op P h v) : Firm T ρ o.op P h0 v := by
  rcases hc with hc | ⟨h1, _⟩
  · exact fun g hg => hf g fun b hb => (hg b hb).trans (hc b hb).symm
  · simp only [tailB, List.all_eq_true, List.mem_range, Bool.or_eq_true, decide_eq_true_eq] at h1
    rcases h1 i hlt with (h2 | h2) | h2
    · omega
    · simp only [effAt, hk, hkd] at h2; cases h2
    · simp only [pureAt, hk, Bool.and_eq_true] at h2
      exact fun g _ => pure_any h2.2 (hf h fun _ _ => rfl) g
/-- A step that leaves heaps alone. -/
theorem WInvT.next {P : Nat → Prop} {all : List Oper} {bf : List Nat} {base : Nat} {h0 : Heap} {i : Nat} {st st' : DSt} (I : WInvT T P all bf base h0 i st) (hlt : i < all.length) (e1 : st'.ss = st.ss ++ [st.s]) (hne : effAt T all i = false) (eh : st'.hs = st.hs) (em : st'.msk = st.msk) (eg : st'.h = st.h)
    (en : st'.nb = st.nb ∨ ∃ b, st'.nb = st.nb ++ [(i, b)])
    (e3 : ∀ o, all[i]? = some o → dkind T o.op = .quiet → wantedA o all st.s = true → st'.nb = st.nb ∧ ∃ v, (FirmN T (evalO st.s) o.op P h0 v base st.nb (bf.getD i 0) all bf i ∨ safeB T all bf i = true ∧ ∃ g, opA T (evalO st.s) o.op (heapFor base st.nb (bf.getD i 0) st.msk st.h) = some (v, g)) ∧ st'.s = putA st.s o.dst v) : WInvT T P all bf base h0 (i + 1) st' := by
  have hl := I.len
  have hmem : ∀ p ∈ st'.nb, p ∈ st.nb ∨ p.1 = i := by
    rcases en with en | ⟨b, en⟩
    · rw [en]; exact fun p hp => .inl hp
    · rw [en]; intro p hp
      rcases List.mem_append.1 hp with hp | hp
      · exact .inl hp
      · simp only [List.mem_singleton] at hp; subst hp; exact .inr rfl
  have hsub : ∀ p ∈ st.nb, p ∈ st'.nb := by
    rcases en with en | ⟨b, en⟩
    · rw [en]; exact fun p hp => hp
    · rw [en]; exact fun p hp => List.mem_append_left _ hp
  refine ⟨by rw [e1]; simp [hl], ?_, fun q hq => (I.old q (by rw [eh, em, eg] at hq; exact hq)).imp id fun x => ⟨tailB_succ x.1, x.2⟩, fun p hp => ?_, ?_, by rw [eh, em, eg]; exact fun a j ha q hq => ⟨(I.msk0 a j ha q hq).1, fun h1 => (I.msk0 a j ha q hq).2 (by omega)⟩, ?_⟩
  rotate_left
  · rcases hmem p hp with hp | hp
    · have := I.inb p hp; omega
    · omega
  · rcases en with en | ⟨b, en⟩
    · rw [en]; exact I.unq
    · rw [en, List.pairwise_append]
      refine ⟨I.unq, by simp, fun p hp q hq => ?_⟩
      simp only [List.mem_singleton] at hq
      subst hq
      have := I.inb p hp
      simp only; omega
  rotate_left
  · rw [eh, I.cnt, List.range_succ, List.filter_append]; simp [hne]
  have ha : ∀ j, j ≤ i → (st'.ss ++ [st'.s]).getD j [] = (st.ss ++ [st.s]).getD j [] := by
    intro j hj
    rw [e1, List.getD_eq_getElem?_getD, List.getD_eq_getElem?_getD, List.getElem?_append_left (by simp [hl]; omega)]
  intro j hj o ho hk hw
  rw [ha j (by omega)] at hw ⊢
  rw [eh, em, eg]
  rcases Nat.lt_or_ge j i with hji | hji
  · rw [ha (j + 1) (by omega)]
    obtain ⟨v, h1, h2⟩ := I.firm j hji o ho hk hw
    refine ⟨v, h1.imp (fun hf => hf.imp id fun ⟨a, blk, n1, n2, n3⟩ => ⟨a, blk, n1, hsub _ n2, n3⟩) fun ⟨h3, h4⟩ => ⟨h3, fun k q hq => ?_⟩, h2⟩
    rcases en with en | ⟨b, en⟩
    · rw [en]; exact h4 k q hq
    · rw [en, heapFor_more ((safe_bits h3).1 i (by omega))]; exact h4 k q hq
  · have : j = i := by omega
    subst this
    have hs : (st.ss ++ [st.s]).getD j [] = st.s := by
      rw [List.getD_eq_getElem?_getD, ← hl]; simp
    rw [hs] at hw ⊢
    obtain ⟨en, v, h1, h2⟩ := e3 o ho hk hw
    refine ⟨v, h1.imp (fun hf => by rw [en]; exact hf) fun ⟨h3, g, h4⟩ => ⟨h3, fun k q hq => ?_⟩, ?_⟩
    · rw [← h2, e1, List.getD_eq_getElem?_getD]
      rw [List.getElem?_append_right (by simp [hl])]
      simp [hl]
    · rw [en]
      rcases Nat.lt_or_ge k st.hs.length with hkl | hkl
      · rw [I.cnt] at hkl
        obtain ⟨e, e1, e2⟩ := effs_at (Nat.le_of_lt hlt) hkl
        refine .inr (.inl ⟨e, e1, ?_⟩)
        have hm := List.mem_of_getElem? e1
        simp only [List.mem_filter, List.mem_range] at hm
        rcases (safe_bits h3).2 e hm.1 hm.2 with h5 | h5
        · exact h5.2
        · omega
      · rw [List.getElem?_append_right hkl] at hq
        have : k - st.hs.length = 0 := by
          have := (List.getElem?_eq_some_iff.1 hq).1
          simp at this; omega
        rw [this] at hq
        simp only [List.getElem?_cons_zero, Option.some.injEq] at hq
        subst hq
        exact .inr (.inr ⟨g, h4⟩)

/-- A step that changes something. -/
theorem WInvT.eff {P : Nat → Prop} {all : List Oper} {bf : List Nat} {base : Nat} {h0 : Heap} {i : Nat} {st : DSt} {s' : List AV} {h' : Heap} (I : WInvT T P all bf base h0 i st) (hlt : i < all.length) (hne : effAt T all i = true) (hp : (∀ b, P b → h'.get b = h0.get b) ∨ (tailB T all (i + 1) = true ∧ ∀ j, j < all.length → effAt T all j = true ∨ pureAt T all j = true ∨ (st.msk ||| bf.getD i 0).testBit j = true)) :
    WInvT T P all bf base h0 (i + 1) { ss := st.ss ++ [st.s], s := s', hs := st.hs ++ [(st.msk, st.h)], msk := st.msk ||| bf.getD i 0, h := h', nb := st.nb } := by
  have hl := I.len
  refine ⟨by simp [hl], ?_, ?_, fun p hp => Nat.lt_succ_of_lt (I.inb p hp), I.unq, fun a j ha q hq => ?_, ?_⟩
  rotate_left 2
  · simp only [List.mem_append, List.mem_singleton] at hq
    rcases hq with (hq | hq) | hq
    · exact ⟨(I.msk0 a j ha q (by simp [hq])).1, fun h1 => (I.msk0 a j ha q (by simp [hq])).2 (by omega)⟩
    · exact ⟨(I.msk0 a j ha q (by simp [hq])).1, fun h1 => (I.msk0 a j ha q (by simp [hq])).2 (by omega)⟩
    · subst hq
      obtain ⟨h1, h3⟩ := I.msk0 a j ha (st.msk, st.h) (by simp)
      have h2 : (bf.getD i 0).testBit a = false ∨ (j < i ∧ (bf.getD i 0).testBit j = true) := by
        simp only [newJ, List.all_eq_true, List.mem_filter, List.mem_range, Bool.or_eq_true, Bool.and_eq_true, decide_eq_true_eq, Bool.not_eq_true'] at ha
        exact ha i ⟨hlt, hne⟩
      simp only at h1 h3
      simp only [Nat.testBit_or]
      refine ⟨?_, fun h4 => ?_⟩
      · rcases h2 with h2 | ⟨_, h2⟩
        · rcases h1 with h1 | h1
          · exact .inl (by rw [h1, h2]; rfl)
          · exact .inr (by rw [h1]; rfl)
        · exact .inr (by rw [h2, Bool.or_true])
      · rcases h2 with h2 | ⟨h5, _⟩
        · rw [h2, h3 (by omega)]; rfl
        · omega
  rotate_left
  · simp only [List.length_append, List.length_cons, List.length_nil, I.cnt, List.range_succ, List.filter_append]; simp [hne]
  · intro q hq
    simp only [List.mem_append, List.mem_singleton] at hq
    rcases hq with (hq | hq) | hq
    · exact (I.old q (by simp [hq])).imp id fun x => ⟨tailB_succ x.1, x.2⟩
    · exact (I.old q (by simp [hq])).imp id fun x => ⟨tailB_succ x.1, x.2⟩
    · subst hq
      exact hp
  have ha : ∀ j, j ≤ i → ((st.ss ++ [st.s]) ++ [s']).getD j [] = (st.ss ++ [st.s]).getD j [] := by
    intro j hj
    rw [List.getD_eq_getElem?_getD, List.getD_eq_getElem?_getD, List.getElem?_append_left (by simp [hl]; omega)]
  intro j hj o ho hk hw
  simp only at hw ⊢
  rw [ha j (by omega)] at hw ⊢
  rcases Nat.lt_or_ge j i with hji | hji
  · rw [ha (j + 1) (by omega)]
    obtain ⟨v, h1, h2⟩ := I.firm j hji o ho hk hw
    refine ⟨v, h1.imp id fun ⟨h3, h4⟩ => ⟨h3, fun k q hq => ?_⟩, h2⟩
    rcases Nat.lt_or_ge k (st.hs ++ [(st.msk, st.h)]).length with hkl | hkl
    · rw [List.getElem?_append_left hkl] at hq
      exact h4 k q hq
    · rw [List.getElem?_append_right hkl] at hq
      have : k - (st.hs ++ [(st.msk, st.h)]).length = 0 := by
        have := (List.getElem?_eq_some_iff.1 hq).1
        simp at this ⊢; omega
      rw [this] at hq
      simp only [List.getElem?_cons_zero, Option.some.injEq] at hq
      subst hq
      refine .inl ?_
      simp only [Nat.testBit_or, Bool.or_eq_true]
      rcases (safe_bits h3).2 i hlt hne with h5 | h5
      · omega
      · exact .inr h5.2
  · have : j = i := by omega
    subst this
    simp only [effAt, ho, beq_iff_eq] at hne
    rw [hk] at hne; cases hne

theorem WInvT.chk {P : Nat → Prop} {ops : List Oper} {base : Nat} {h0 : Heap} {st : DSt} (hP : ∀ b, P b → b < base) (I : WInvT T P ops (befores ops []) base h0 ops.length st) : drawChk T ops base st = true := by
  unfold drawChk
  refine Bool.or_eq_true_iff.2 (.inr ?_)
  simp only [List.all_eq_true]
  intro ⟨o, i⟩ hoi
  have ho : ops[i]? = some o := by
    rw [List.mem_zipIdx_iff_getElem?] at hoi; exact hoi
  have hi : i < ops.length := (List.getElem?_eq_some_iff.1 ho).1
  simp only [Bool.or_eq_true, List.all_eq_true]
  by_cases hq : dkind T o.op = .quiet
  · cases hw : wantedA o ops ((st.ss ++ [st.s]).getD i []) with
    | false => simp
    | true =>
      refine .inr fun ⟨q, k⟩ hqk => ?_
      rw [List.mem_zipIdx_iff_getElem?] at hqk
      have hmem : q ∈ st.hs ++ [(st.msk, st.h)] := List.mem_of_getElem? hqk
      obtain ⟨v, hf, hs⟩ := I.firm i hi o ho hq hw
      rcases hf with (hf | ⟨a, blk, n1, n2, n3, n4⟩) | ⟨_, hf⟩
      · rcases I.old q hmem with ho1 | ⟨_, ho1⟩
        · exact .inr (sameV_of (hf _ fun b hb => (heapFor_get (hP b hb)).trans (ho1 b hb)) hs)
        · rcases ho1 i hi with he | hpu | hb
          · simp only [effAt, ho, hq] at he
            cases he
          · simp only [pureAt, ho, Bool.and_eq_true] at hpu
            exact .inr (sameV_of (pure_any hpu.2 (hf h0 fun _ _ => rfl) _) hs)
          · exact .inl (.inl hb)
      · rcases (I.msk0 a i n1 q hmem).1 with h1 | h1
        · exact .inr (sameV_of (n4 _ (heapFor_new I.unq n2 n3 h1)) hs)
        · exact .inl (.inl h1)
      · rcases hf k q hqk with h1 | ⟨e, h1, h2⟩ | ⟨g, h1⟩
        · exact .inl (.inl h1)
        · refine .inl (.inr ?_)
          have hh : ∀ l : List Nat, l[k]? = some e → (match l[k]? with | some e => ((befores ops []).getD i 0).testBit e | none => false) = true := by
            intro l hl; rw [hl]; exact h2
          exact hh _ h1
        · exact .inr (sameV_of h1 hs)
  · refine .inl (.inl ?_)
    simp [hq]

def UT (T : TT) (F : Nat → Option Func) (P : Nat → Prop) (all : List Oper) (bf : List Nat) (base : Nat) : List Oper → Nat → List AV → Heap → List (Nat × Blk) → Nat → (List AV → Heap → Prop) → Prop
  | [], _, s, h, nb, msk, Q => Q s (putsA base (nb.filter fun p => !msk.testBit p.1) h)
  | o :: l, i, s, h, nb, msk, Q =>
    match dkind T o.op with
    | .eff => UL T F all [o] s (heapFor base nb (bf.getD i 0) msk h) fun s' h' => ((∀ b, P b → h'.get b = h.get b) ∨ lastT T all bf i = true) ∧ UT T F P all bf base l (i + 1) s' h' nb (msk ||| bf.getD i 0) Q
    | .new =>
      (wantedA o all s = true → match allocA T (evalO s) o.op (base + i) with
        | some (v, b) => UT T F P all bf base l (i + 1) (putA s o.dst v) h (nb ++ [(i, b)]) msk Q
        | none => False) ∧
      (wantedA o all s = false → UT T F P all bf base l (i + 1) (putA s o.dst undefA) h nb msk Q)
    | .quiet =>
      (wantedA o all s = true → ∃ v, (FirmN T (evalO s) o.op P h v base nb (bf.getD i 0) all bf i ∨ safeB T all bf i = true ∧ opA T (evalO s) o.op (heapFor base nb (bf.getD i 0) msk h) = some (v, heapFor base nb (bf.getD i 0) msk h)) ∧ UT T F P all bf base l (i + 1) (putA s o.dst v) h nb msk Q) ∧
      (wantedA o all s = false → UT T F P all bf base l (i + 1) (putA s o.dst undefA) h nb msk Q)
    | .no => False
theorem UD_of_UT {P : Nat → Prop} {all : List Oper} {bf : List Nat} {base : Nat} {h0 : Heap} {Q : List AV → Heap → Prop} (hP : ∀ b, P b → b < base) : ∀ {l : List Oper} {i : Nat} {st : DSt} (_ : all.drop i = l) (_ : i ≤ all.length) (_ : WInvT T P all bf base h0 i st) (_ : UT T F P all bf base l i st.s st.h st.nb st.msk Q),
    UD T F all bf base l i st fun st' => WInvT T P all bf base h0 all.length st' ∧ Q st'.s (putsA base (st'.nb.filter fun p => !st'.msk.testBit p.1) st'.h)
  | [], i, st, hd, hle, I, w => by
    have hi : all.length ≤ i := by
      have := congrArg List.length hd
      simp at this; omega
    have : i = all.length := by omega
    exact ⟨this ▸ I, w⟩
  | o :: l, i, st, hd, hle, I, w => by
    have hk : all[i]? = some o := by
      have := congrArg (fun x => x[0]?) hd
      simpa using this
    have hd' : all.drop (i + 1) = l := by
      have := congrArg (List.drop 1) hd
      simpa [List.drop_drop, Nat.add_comm] using this
    have hlt : i + 1 ≤ all.length := (List.getElem?_eq_some_iff.1 hk).1
    have hcur := I.old (st.msk, st.h) (by simp)
    simp only at hcur
    have hat : effAt T all i = (dkind T o.op == .eff) := by simp only [effAt, hk]
    unfold UT at w
    unfold UD
    split at w
    · rename_i hkd
      simp only [hkd]
      refine w.mono fun s' h' ⟨q1, q2⟩ => ?_
      exact UD_of_UT hP hd' hlt (I.eff hlt (by rw [hat, hkd]; rfl) (eff_old hcur q1)) q2
    · rename_i hkd
      simp only [hkd]
      have hne : effAt T all i = false := by rw [hat, hkd]; rfl
      refine ⟨fun hw => ?_, fun hw => ?_⟩
      · have w1 := w.1 hw
        split at w1
        · rename_i v b hv
          rw [hv]
          refine UD_of_UT hP hd' hlt (I.next hlt rfl hne rfl rfl rfl (.inr ⟨b, rfl⟩) fun o' ho' hq' => ?_) w1
          rw [hk] at ho'; simp only [Option.some.injEq] at ho'; subst ho'
          rw [hkd] at hq'; simp at hq'
        · exact w1.elim
      · refine UD_of_UT hP hd' hlt (I.next hlt rfl hne rfl rfl rfl (.inl rfl) fun o' ho' hq' => ?_) (w.2 hw)
        rw [hk] at ho'; simp only [Option.some.injEq] at ho'; subst ho'
        rw [hkd] at hq'; simp at hq'
    · rename_i hkd
      simp only [hkd]
      have hne : effAt T all i = false := by rw [hat, hkd]; rfl
      refine ⟨fun hw => ?_, fun hw => ?_⟩
      · obtain ⟨v, hf, w1⟩ := w.1 hw
        have hv : opA T (evalO st.s) o.op (heapFor base st.nb (bf.getD i 0) st.msk st.h) = some (v, heapFor base st.nb (bf.getD i 0) st.msk st.h) := hf.elim (fun hf => hf.elim (fun hf => hf _ fun b hb => heapFor_get (hP b hb)) fun ⟨a, blk, n1, n2, n3, n4⟩ => n4 _ (heapFor_new I.unq n2 n3 ((I.msk0 a i n1 (st.msk, st.h) (by simp)).2 (Nat.le_refl _)))) fun hf => hf.2
        rw [hv]
        refine UD_of_UT hP hd' hlt (I.next hlt rfl hne rfl rfl rfl (.inl rfl) fun o' ho' _ _ => ?_) w1
        rw [hk] at ho'; simp only [Option.some.injEq] at ho'; subst ho'
        exact ⟨rfl, v, hf.imp (fun hf => hf.imp (fun hf => firm_old (by omega) hk hkd hcur hf) id) fun hf => ⟨hf.1, _, hf.2⟩, rfl⟩
      · refine UD_of_UT hP hd' hlt (I.next hlt rfl hne rfl rfl rfl (.inl rfl) fun o' ho' _ hw' => ?_) (w.2 hw)
        rw [hk] at ho'; simp only [Option.some.injEq] at ho'; subst ho'
        rw [hw] at hw'; simp at hw'
    · exact w.elim
theorem DrawT_of (P : Nat → Prop) {ops : Array Oper} {fn : Nat} {ro : Option Nat} {i : Nat} {s : List AV} {ms : List Nat} {h : Heap} {Q : AE → Frm → Prop} (hd : drawOk T ops = true) (hP : ∀ b, P b → b < h.nxt)
    (w : UT T F P ops.toList (befores ops.toList []) h.nxt ops.toList 0 s (h.bump ops.size) [] 0 fun s h => Q .normal ⟨s, ms, h⟩) : @DrawU T F ⟨s, ms, h⟩ ⟨fn, ro, .region i ops true, Q⟩ := by
  show UP T F fn ro (.region i ops true) ⟨s, ms, h⟩ Q
  rw [UP_drawn]
  refine ⟨hd, ?_⟩
  have := UD_of_UT hP (all := ops.toList) (bf := befores ops.toList []) (base := h.nxt) (h0 := h.bump ops.size) (st := ⟨[], s, [], 0, h.bump ops.size, []⟩) (i := 0) rfl (Nat.zero_le _) ⟨rfl, rfl, fun q hq => .inl fun b hb => by
    simp only [List.nil_append, List.mem_singleton] at hq; subst hq; rfl, by simp, .nil, fun a _ _ q hq => (by simp only [List.nil_append, List.mem_singleton] at hq; subst hq; simp), fun j hj => absurd hj (Nat.not_lt_zero _)⟩ w
  exact this.mono fun st ⟨I, q⟩ => ⟨I.chk hP, q⟩
section
variable {P : Nat → Prop} {all l : List Oper} {bf : List Nat} {base i msk : Nat} {s : List AV} {h : Heap} {nb : List (Nat × Blk)} {Q : List AV → Heap → Prop} {d : Option Nat} {op : Op} {ty : TypeId} {pos : String} {after : Array Edge}
theorem UT_pure (hk : dkind T op = .quiet) (hp : pureOp T op = true) : UT T F P all bf base (⟨d, op, ty, pos, after, none⟩ :: l) i s h nb msk Q = @OBk (opA T (evalO s) op h) ⟨fun v _ => @SetK (putA s d v) h ⟨fun s h => UT T F P all bf base l (i + 1) s h nb msk Q⟩⟩ := by
  rw [UT]
  simp only [hk, wantedA, true_imp_iff, Bool.true_eq_false, false_imp_iff, and_true, OBk, OB, SetK]
  refine propext ⟨fun ⟨v, hf, w⟩ => ?_, fun w => ?_⟩
  · have : opA T (evalO s) op h = some (v, h) := hf.elim (fun hf => hf.elim (fun hf => hf h fun _ _ => rfl) fun ⟨a, blk, _, _, _, n4⟩ => pure_any hp (n4 (h.put (base + a) blk) (by rw [Heap.get_put, if_pos rfl])) h) fun hf => pure_any hp hf.2 h
    rw [this]; exact w
  · cases hx : opA T (evalO s) op h with
    | none => rw [hx] at w; exact w.elim
    | some p =>
      rw [hx] at w
      obtain ⟨v, h'⟩ := p
      exact ⟨v, .inl (.inl fun g _ => pure_any hp hx g), w⟩
@[go_sem ↓] theorem UT_move {x} : UT T F P all bf base (⟨d, .move x, ty, pos, after, none⟩ :: l) i s h nb msk Q = @OBk (opA T (evalO s) (.move x) h) ⟨fun v _ => @SetK (putA s d v) h ⟨fun s h => UT T F P all bf base l (i + 1) s h nb msk Q⟩⟩ := UT_pure rfl rfl
@[go_sem ↓] theorem UT_assign {x} : UT T F P all bf base (⟨d, .assign x, ty, pos, after, none⟩ :: l) i s h nb msk Q = @OBk (opA T (evalO s) (.assign x) h) ⟨fun v _ => @SetK (putA s d v) h ⟨fun s h => UT T F P all bf base l (i + 1) s h nb msk Q⟩⟩ := UT_pure rfl rfl
@[go_sem ↓] theorem UT_binOp {op t x y e} : UT T F P all bf base (⟨d, .binOp op t x y e, ty, pos, after, none⟩ :: l) i s h nb msk Q = @OBk (opA T (evalO s) (.binOp op t x y e) h) ⟨fun v _ => @SetK (putA s d v) h ⟨fun s h => UT T F P all bf base l (i + 1) s h nb msk Q⟩⟩ := UT_pure rfl rfl
@[go_sem ↓] theorem UT_unOp {op t x} : UT T F P all bf base (⟨d, .unOp op t x, ty, pos, after, none⟩ :: l) i s h nb msk Q = @OBk (opA T (evalO s) (.unOp op t x) h) ⟨fun v _ => @SetK (putA s d v) h ⟨fun s h => UT T F P all bf base l (i + 1) s h nb msk Q⟩⟩ := UT_pure rfl rfl
@[go_sem ↓] theorem UT_extract {x i} : UT T F P all bf base (⟨d, .extract x i, ty, pos, after, none⟩ :: l) i s h nb msk Q = @OBk (opA T (evalO s) (.extract x i) h) ⟨fun v _ => @SetK (putA s d v) h ⟨fun s h => UT T F P all bf base l (i + 1) s h nb msk Q⟩⟩ := UT_pure rfl rfl
@[go_sem ↓] theorem UT_build {t x} : UT T F P all bf base (⟨d, .build t x, ty, pos, after, none⟩ :: l) i s h nb msk Q = @OBk (opA T (evalO s) (.build t x) h) ⟨fun v _ => @SetK (putA s d v) h ⟨fun s h => UT T F P all bf base l (i + 1) s h nb msk Q⟩⟩ := UT_pure rfl rfl
@[go_sem ↓] theorem UT_nilCheck {x} : UT T F P all bf base (⟨d, .nilCheck x, ty, pos, after, none⟩ :: l) i s h nb msk Q = @OBk (opA T (evalO s) (.nilCheck x) h) ⟨fun v _ => @SetK (putA s d v) h ⟨fun s h => UT T F P all bf base l (i + 1) s h nb msk Q⟩⟩ := UT_pure rfl rfl
@[go_sem ↓] theorem UT_slice {t x a b c} : UT T F P all bf base (⟨d, .slice t x a b c, ty, pos, after, none⟩ :: l) i s h nb msk Q = @OBk (opA T (evalO s) (.slice t x a b c) h) ⟨fun v _ => @SetK (putA s d v) h ⟨fun s h => UT T F P all bf base l (i + 1) s h nb msk Q⟩⟩ := UT_pure rfl rfl
@[go_sem ↓] theorem UT_fieldAddr {t x f} : UT T F P all bf base (⟨d, .fieldAddr t x f, ty, pos, after, none⟩ :: l) i s h nb msk Q = @OBk (opA T (evalO s) (.fieldAddr t x f) h) ⟨fun v _ => @SetK (putA s d v) h ⟨fun s h => UT T F P all bf base l (i + 1) s h nb msk Q⟩⟩ := UT_pure rfl rfl
@[go_sem ↓] theorem UT_field {t x f} : UT T F P all bf base (⟨d, .field t x f, ty, pos, after, none⟩ :: l) i s h nb msk Q = @OBk (opA T (evalO s) (.field t x f) h) ⟨fun v _ => @SetK (putA s d v) h ⟨fun s h => UT T F P all bf base l (i + 1) s h nb msk Q⟩⟩ := UT_pure rfl rfl
@[go_sem ↓] theorem UT_indexAddr {t x f} : UT T F P all bf base (⟨d, .indexAddr t x f, ty, pos, after, none⟩ :: l) i s h nb msk Q = @OBk (opA T (evalO s) (.indexAddr t x f) h) ⟨fun v _ => @SetK (putA s d v) h ⟨fun s h => UT T F P all bf base l (i + 1) s h nb msk Q⟩⟩ := UT_pure rfl rfl
@[go_sem ↓] theorem UT_index {t x f} : UT T F P all bf base (⟨d, .index t x f, ty, pos, after, none⟩ :: l) i s h nb msk Q = @OBk (opA T (evalO s) (.index t x f) h) ⟨fun v _ => @SetK (putA s d v) h ⟨fun s h => UT T F P all bf base l (i + 1) s h nb msk Q⟩⟩ := UT_pure rfl rfl
@[go_sem ↓] theorem UT_pick {c x y} : UT T F P all bf base (⟨d, .pick c x y, ty, pos, after, none⟩ :: l) i s h nb msk Q = @OBk (opA T (evalO s) (.pick c x y) h) ⟨fun v _ => @SetK (putA s d v) h ⟨fun s h => UT T F P all bf base l (i + 1) s h nb msk Q⟩⟩ := UT_pure rfl rfl
@[go_sem ↓] theorem UT_makeFunc {c x y} : UT T F P all bf base (⟨d, .makeFunc c x y, ty, pos, after, none⟩ :: l) i s h nb msk Q = @OBk (opA T (evalO s) (.makeFunc c x y) h) ⟨fun v _ => @SetK (putA s d v) h ⟨fun s h => UT T F P all bf base l (i + 1) s h nb msk Q⟩⟩ := UT_pure rfl rfl
@[go_sem ↓] theorem UT_makeInterface {t x} : UT T F P all bf base (⟨d, .makeInterface t x, ty, pos, after, none⟩ :: l) i s h nb msk Q = @OBk (opA T (evalO s) (.makeInterface t x) h) ⟨fun v _ => @SetK (putA s d v) h ⟨fun s h => UT T F P all bf base l (i + 1) s h nb msk Q⟩⟩ := UT_pure rfl rfl
@[go_sem ↓] theorem UT_min {args ts} : UT T F P all bf base (⟨d, .call { callee := .builtin .min, args, argTypes := ts }, ty, pos, after, none⟩ :: l) i s h nb msk Q = @OBk (opA T (evalO s) (.call { callee := .builtin .min, args, argTypes := ts }) h) ⟨fun v _ => @SetK (putA s d v) h ⟨fun s h => UT T F P all bf base l (i + 1) s h nb msk Q⟩⟩ := UT_pure rfl rfl
@[go_sem ↓] theorem UT_max {args ts} : UT T F P all bf base (⟨d, .call { callee := .builtin .max, args, argTypes := ts }, ty, pos, after, none⟩ :: l) i s h nb msk Q = @OBk (opA T (evalO s) (.call { callee := .builtin .max, args, argTypes := ts }) h) ⟨fun v _ => @SetK (putA s d v) h ⟨fun s h => UT T F P all bf base l (i + 1) s h nb msk Q⟩⟩ := UT_pure rfl rfl
@[go_sem ↓] theorem UT_len {args t} : UT T F P all bf base (⟨d, .call { callee := .builtin .len, args, argTypes := ⟨[t]⟩ }, ty, pos, after, none⟩ :: l) i s h nb msk Q = @condK (some (.bool (lenPure T t)))
    ⟨@OBk (opA T (evalO s) (.call { callee := .builtin .len, args, argTypes := ⟨[t]⟩ }) h) ⟨fun v _ => @SetK (putA s d v) h ⟨fun s h => UT T F P all bf base l (i + 1) s h nb msk Q⟩⟩, UT T F P all bf base (⟨d, .call { callee := .builtin .len, args, argTypes := ⟨[t]⟩ }, ty, pos, after, none⟩ :: l) i s h nb msk Q⟩ := by
  cases hp : lenPure T t with
  | true =>
    rw [condK_true]
    exact UT_pure (op := .call { callee := .builtin .len, args, argTypes := ⟨[t]⟩ }) rfl hp
  | false => rw [condK_false]; exact rfl
@[go_sem ↓] theorem UT_load' {t x} : UT T F P all bf base (⟨d, .load t x, ty, pos, after, none⟩ :: l) i s h nb msk Q = @LoadK ⟨UT T F P all bf base (⟨d, .load t x, ty, pos, after, none⟩ :: l) i s h nb msk Q⟩ := propext Iff.rfl
theorem LoadK_ofT {t x b o} (hx : evalO s x = some (.ptr (some (b, o)))) (hb : P b) (w : @OBk (opA T (evalO s) (.load t x) h) ⟨fun v _ => @SetK (putA s d v) h ⟨fun s h => UT T F P all bf base l (i + 1) s h nb msk Q⟩⟩) :
    @LoadK ⟨UT T F P all bf base (⟨d, .load t x, ty, pos, after, none⟩ :: l) i s h nb msk Q⟩ := by
  show UT T F P all bf base (⟨d, .load t x, ty, pos, after, none⟩ :: l) i s h nb msk Q
  rw [UT]
  simp only [dkind, wantedA, true_imp_iff, Bool.true_eq_false, false_imp_iff, and_true]
  simp only [opA, hx, OBk, OB, SetK] at w
  cases hl : loadVar T h t b o with
  | none => rw [hl] at w; exact w.elim
  | some v =>
    rw [hl] at w
    refine ⟨v, .inl (.inl fun g hg => ?_), w⟩
    simp only [opA, hx]
    rw [load_any (hg b hb), hl]
theorem UT_eff (hk : dkind T op = .eff) : UT T F P all bf base (⟨d, op, ty, pos, after, none⟩ :: l) i s h nb msk Q = UK T F op s (heapFor base nb (bf.getD i 0) msk h) fun v h' => ((∀ b, P b → h'.get b = h.get b) ∨ lastT T all bf i = true) ∧ @SetK (putA s d v) h' ⟨fun s h' => UT T F P all bf base l (i + 1) s h' nb (msk ||| bf.getD i 0) Q⟩ := by
  rw [UT]
  simp only [hk, UL_op, UL_nil, SetK]
@[go_sem ↓] theorem UT_call {f args ts} : UT T F P all bf base (⟨d, .call { callee := .value f, args, argTypes := ts }, ty, pos, after, none⟩ :: l) i s h nb msk Q = UK T F (.call { callee := .value f, args, argTypes := ts }) s (heapFor base nb (bf.getD i 0) msk h) fun v h' => ((∀ b, P b → h'.get b = h.get b) ∨ lastT T all bf i = true) ∧ @SetK (putA s d v) h' ⟨fun s h' => UT T F P all bf base l (i + 1) s h' nb (msk ||| bf.getD i 0) Q⟩ := UT_eff rfl
@[go_sem ↓] theorem UT_append {args ts} : UT T F P all bf base (⟨d, .call { callee := .builtin .append, args, argTypes := ts }, ty, pos, after, none⟩ :: l) i s h nb msk Q = UK T F (.call { callee := .builtin .append, args, argTypes := ts }) s (heapFor base nb (bf.getD i 0) msk h) fun v h' => ((∀ b, P b → h'.get b = h.get b) ∨ lastT T all bf i = true) ∧ @SetK (putA s d v) h' ⟨fun s h' => UT T F P all bf base l (i + 1) s h' nb (msk ||| bf.getD i 0) Q⟩ := UT_eff rfl
@[go_sem ↓] theorem UT_store {t x y} : UT T F P all bf base (⟨d, .store t x y, ty, pos, after, none⟩ :: l) i s h nb msk Q = UK T F (.store t x y) s (heapFor base nb (bf.getD i 0) msk h) fun v h' => ((∀ b, P b → h'.get b = h.get b) ∨ lastT T all bf i = true) ∧ @SetK (putA s d v) h' ⟨fun s h' => UT T F P all bf base l (i + 1) s h' nb (msk ||| bf.getD i 0) Q⟩ := UT_eff rfl
@[go_sem ↓] theorem UT_nil : UT T F P all bf base [] i s h nb msk Q = @SetK s (putsF base nb msk h) ⟨Q⟩ := propext Iff.rfl
theorem UT_new (hk : dkind T op = .new) : UT T F P all bf base (⟨d, op, ty, pos, after, none⟩ :: l) i s h nb msk Q = @AllocK (allocA T (evalO s) op (base + i)) ⟨fun v b => @SetK (putA s d v) h ⟨fun s h => UT T F P all bf base l (i + 1) s h (nb ++ [(i, b)]) msk Q⟩⟩ := by
  rw [UT]
  simp only [hk, wantedA, true_imp_iff, Bool.true_eq_false, false_imp_iff, and_true, AllocK, SetK]
  rfl
@[go_sem ↓] theorem UT_buildSlice {t n x} : UT T F P all bf base (⟨d, .buildSlice t n x, ty, pos, after, none⟩ :: l) i s h nb msk Q = @AllocK (allocA T (evalO s) (.buildSlice t n x) (base + i)) ⟨fun v b => @SetK (putA s d v) h ⟨fun s h => UT T F P all bf base l (i + 1) s h (nb ++ [(i, b)]) msk Q⟩⟩ := UT_new rfl
@[go_sem ↓] theorem UT_alloc {t} : UT T F P all bf base (⟨d, .alloc t, ty, pos, after, none⟩ :: l) i s h nb msk Q = @AllocK (allocA T (evalO s) (.alloc t) (base + i)) ⟨fun v b => @SetK (putA s d v) h ⟨fun s h => UT T F P all bf base l (i + 1) s h (nb ++ [(i, b)]) msk Q⟩⟩ := UT_new rfl
@[go_sem ↓] theorem UT_box {t x} : UT T F P all bf base (⟨d, .box t x, ty, pos, after, none⟩ :: l) i s h nb msk Q = @AllocK (allocA T (evalO s) (.box t x) (base + i)) ⟨fun v b => @SetK (putA s d v) h ⟨fun s h => UT T F P all bf base l (i + 1) s h (nb ++ [(i, b)]) msk Q⟩⟩ := UT_new rfl
@[go_sem ↓] theorem UT_makeSlice {t x y} : UT T F P all bf base (⟨d, .makeSlice t x y, ty, pos, after, none⟩ :: l) i s h nb msk Q = @AllocK (allocA T (evalO s) (.makeSlice t x y) (base + i)) ⟨fun v b => @SetK (putA s d v) h ⟨fun s h => UT T F P all bf base l (i + 1) s h (nb ++ [(i, b)]) msk Q⟩⟩ := UT_new rfl
end
/-- A region whose order is drawn: the rows of what stands ahead are given. -/
theorem DrawT_of' (P : Nat → Prop) (bf : List Nat) {l : List Oper} {fn : Nat} {ro : Option Nat} {i : Nat} {s : List AV} {ms : List Nat} {h : Heap} {Q : AE → Frm → Prop} (hd : drawOk T ⟨l⟩ = true) (hbf : befores l [] = bf) (hP : ∀ b, P b → b < h.nxt)
    (w : UT T F P l bf h.nxt l 0 s (h.bump l.length) [] 0 fun s h => Q .normal ⟨s, ms, h⟩) : @DrawU T F ⟨s, ms, h⟩ ⟨fn, ro, .region i ⟨l⟩ true, Q⟩ := by
  subst hbf
  exact DrawT_of P hd hP w

end Go.Am
