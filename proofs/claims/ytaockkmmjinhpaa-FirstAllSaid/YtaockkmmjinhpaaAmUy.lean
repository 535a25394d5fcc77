/-
  Weakest conditions on heaps of which less is known: laws, loops, regions, slices. Printed by genu.py out of those of AmY, AmZ, AmWd, AmSl.
-/
import Derived.Test.YtaockkmmjinhpaaAmUx
import Derived.Test.YtaockkmmjinhpaaAmSl
namespace Go.Am
variable {T : TT} {F : Nat → Option Func}
/-! ### AmY -/
section
variable {T : TT} {F : Nat → Option Func}
/-- A loop that is reached. -/
def LoopU (T : TT) (F : Nat → Option Func) (f : Frm) [K : KF] : Prop := UC T F K.fn K.ro K.c f K.k
variable {fn : Nat} {ro : Option Nat}
@[go_sem ↓] theorem UP_skip {f : Frm} {Q : AE → Frm → Prop} : UP T F fn ro .skip f Q = Q .normal f := propext Iff.rfl
@[go_sem ↓] theorem UP_label {l} {f : Frm} {Q : AE → Frm → Prop} : UP T F fn ro (.label l) f Q = Q .normal f := propext Iff.rfl
@[go_sem ↓] theorem UP_seq {a b} {f : Frm} {Q : AE → Frm → Prop} : UP T F fn ro (.seq a b) f Q = UP T F fn ro a f (seqK (fun f1 => UP T F fn ro b f1 Q) Q) := propext Iff.rfl
@[go_sem ↓] theorem UP_cond {c a b} {s : List AV} {ms} {h : Heap} {Q : AE → Frm → Prop} : UP T F fn ro (.cond c a b) ⟨s, ms, h⟩ Q = @condK (evalO s c) ⟨UP T F fn ro a ⟨s, ms, h⟩ Q, UP T F fn ro b ⟨s, ms, h⟩ Q⟩ := propext Iff.rfl
@[go_sem ↓] theorem UP_block {id c} {f : Frm} {Q : AE → Frm → Prop} : UP T F fn ro (.block id c) f Q = UP T F fn ro c f (blockK id Q) := propext Iff.rfl
@[go_sem ↓] theorem UP_scope {c} {f : Frm} {Q : AE → Frm → Prop} : UP T F fn ro (.scope c) f Q = UP T F fn ro c f Q := propext Iff.rfl
@[go_sem ↓] theorem UP_exit {id} {f : Frm} {Q : AE → Frm → Prop} : UP T F fn ro (.exit id) f Q = Q (.exit id) f := propext Iff.rfl
@[go_sem ↓] theorem UP_ret {f : Frm} {Q : AE → Frm → Prop} : UP T F fn ro .ret f Q = Q .ret f := propext Iff.rfl
@[go_sem ↓] theorem UP_loop {c} {f : Frm} {Q : AE → Frm → Prop} : UP T F fn ro (.loop c) f Q = @LoopU T F f ⟨fn, ro, .loop c, Q⟩ := propext Iff.rfl
@[go_sem ↓] theorem UP_rangeFunc {g ps a b} {f : Frm} {Q : AE → Frm → Prop} : UP T F fn ro (.rangeFunc g ps a b) f Q = @LoopU T F f ⟨fn, ro, .rangeFunc g ps a b, Q⟩ := propext Iff.rfl
@[go_sem ↓] theorem UP_region {i ops} {s : List AV} {ms} {h : Heap} {Q : AE → Frm → Prop} : UP T F fn ro (.region i ⟨ops⟩ false) ⟨s, ms, h⟩ Q = UL T F ops ops s h fun s h => Q .normal ⟨s, ms, h⟩ := by simp only [UP, Bool.false_eq_true, if_false]
theorem UP_drawn {i ops} {f : Frm} {Q : AE → Frm → Prop} : UP T F fn ro (.region i ops true) f Q = (drawOk T ops = true ∧ UD T F ops.toList (befores ops.toList []) f.h.nxt ops.toList 0 ⟨[], f.s, [], 0, ⟨f.h.nxt + ops.size, f.h.l⟩, []⟩ fun st =>
      drawChk T ops.toList f.h.nxt st = true ∧ Q .normal ⟨st.s, f.ms, putsA f.h.nxt (st.nb.filter fun p => !st.msk.testBit p.1) st.h⟩) := by simp only [UP, if_true]
/-- A region whose order is drawn, reached. -/
def DrawU (T : TT) (F : Nat → Option Func) (f : Frm) [K : KF] : Prop := UP T F K.fn K.ro K.c f K.k
@[go_sem ↓] theorem UP_draw {i ops} {f : Frm} {Q : AE → Frm → Prop} : UP T F fn ro (.region i ops true) f Q = @DrawU T F f ⟨fn, ro, .region i ops true, Q⟩ := propext Iff.rfl
@[go_sem ↓] theorem UL_nil {all} {s : List AV} {h : Heap} {Q : List AV → Heap → Prop} : UL T F all [] s h Q = Q s h := propext Iff.rfl
@[go_sem ↓] theorem UL_op {all l d op ty pos after} {s : List AV} {h : Heap} {Q : List AV → Heap → Prop} : UL T F all (⟨d, op, ty, pos, after, none⟩ :: l) s h Q = UK T F op s h fun v h' => @SetK (putA s d v) h' ⟨fun s h => UL T F all l s h Q⟩ := by
  simp [UL, wantedA, SetK]
variable {s : List AV} {h : Heap} {k : AV → Heap → Prop}
@[go_sem ↓] theorem UK_move {x} : UK T F (.move x) s h k = @OBk (opA T (evalO s) (.move x) h) ⟨k⟩ := propext Iff.rfl
@[go_sem ↓] theorem UK_assign {x} : UK T F (.assign x) s h k = @OBk (opA T (evalO s) (.assign x) h) ⟨k⟩ := propext Iff.rfl
@[go_sem ↓] theorem UK_binOp {op t x y e} : UK T F (.binOp op t x y e) s h k = @OBk (opA T (evalO s) (.binOp op t x y e) h) ⟨k⟩ := propext Iff.rfl
@[go_sem ↓] theorem UK_unOp {op t x} : UK T F (.unOp op t x) s h k = @OBk (opA T (evalO s) (.unOp op t x) h) ⟨k⟩ := propext Iff.rfl
@[go_sem ↓] theorem UK_convert {a b x} : UK T F (.convert a b x) s h k = @OBk (opA T (evalO s) (.convert a b x) h) ⟨k⟩ := propext Iff.rfl
@[go_sem ↓] theorem UK_extract {x i} : UK T F (.extract x i) s h k = @OBk (opA T (evalO s) (.extract x i) h) ⟨k⟩ := propext Iff.rfl
@[go_sem ↓] theorem UK_alloc {t} : UK T F (.alloc t) s h k = @OBk (opA T (evalO s) (.alloc t) h) ⟨k⟩ := propext Iff.rfl
@[go_sem ↓] theorem UK_box {t x} : UK T F (.box t x) s h k = @OBk (opA T (evalO s) (.box t x) h) ⟨k⟩ := propext Iff.rfl
@[go_sem ↓] theorem UK_build {t x} : UK T F (.build t x) s h k = @OBk (opA T (evalO s) (.build t x) h) ⟨k⟩ := propext Iff.rfl
@[go_sem ↓] theorem UK_buildSlice {t n x} : UK T F (.buildSlice t n x) s h k = @OBk (opA T (evalO s) (.buildSlice t n x) h) ⟨k⟩ := propext Iff.rfl
@[go_sem ↓] theorem UK_load {t x} : UK T F (.load t x) s h k = @OBk (opA T (evalO s) (.load t x) h) ⟨k⟩ := propext Iff.rfl
@[go_sem ↓] theorem UK_store {t x y} : UK T F (.store t x y) s h k = @OBk (opA T (evalO s) (.store t x y) h) ⟨k⟩ := propext Iff.rfl
@[go_sem ↓] theorem UK_nilCheck {x} : UK T F (.nilCheck x) s h k = @OBk (opA T (evalO s) (.nilCheck x) h) ⟨k⟩ := propext Iff.rfl
@[go_sem ↓] theorem UK_makeSlice {t x y} : UK T F (.makeSlice t x y) s h k = @OBk (opA T (evalO s) (.makeSlice t x y) h) ⟨k⟩ := propext Iff.rfl
@[go_sem ↓] theorem UK_slice {t x a b c} : UK T F (.slice t x a b c) s h k = @OBk (opA T (evalO s) (.slice t x a b c) h) ⟨k⟩ := propext Iff.rfl
@[go_sem ↓] theorem UK_fieldAddr {t x f} : UK T F (.fieldAddr t x f) s h k = @OBk (opA T (evalO s) (.fieldAddr t x f) h) ⟨k⟩ := propext Iff.rfl
@[go_sem ↓] theorem UK_field {t x f} : UK T F (.field t x f) s h k = @OBk (opA T (evalO s) (.field t x f) h) ⟨k⟩ := propext Iff.rfl
@[go_sem ↓] theorem UK_indexAddr {t x f} : UK T F (.indexAddr t x f) s h k = @OBk (opA T (evalO s) (.indexAddr t x f) h) ⟨k⟩ := propext Iff.rfl
@[go_sem ↓] theorem UK_index {t x f} : UK T F (.index t x f) s h k = @OBk (opA T (evalO s) (.index t x f) h) ⟨k⟩ := propext Iff.rfl
@[go_sem ↓] theorem UK_pick {c x y} : UK T F (.pick c x y) s h k = @OBk (opA T (evalO s) (.pick c x y) h) ⟨k⟩ := propext Iff.rfl
@[go_sem ↓] theorem UK_makeFunc {c x y} : UK T F (.makeFunc c x y) s h k = @OBk (opA T (evalO s) (.makeFunc c x y) h) ⟨k⟩ := propext Iff.rfl
@[go_sem ↓] theorem UK_makeInterface {t x} : UK T F (.makeInterface t x) s h k = @OBk (opA T (evalO s) (.makeInterface t x) h) ⟨k⟩ := propext Iff.rfl
@[go_sem ↓] theorem UK_builtin {b args ts} : UK T F (.call { callee := .builtin b, args, argTypes := ts }) s h k = @OBk (opA T (evalO s) (.call { callee := .builtin b, args, argTypes := ts }) h) ⟨k⟩ := propext Iff.rfl
def callVU (T : TT) (F : Nat → Option Func) (f : Nat) (r : Option (List AV)) (h : Heap) [K : KH] : Prop := match r with
  | some l => (match externO F f l with | some v => K.k v h | none => UF T F f l h K.k)
  | none => False
@[go_sem ↓] theorem UK_callv {f args ts} : UK T F (.call { callee := .value (.func f), args, argTypes := ts }) s h k = @callVU T F f (evalAll (evalO s) args.toList) h ⟨k⟩ := by
  simp only [UK, evalO, callVU]
  cases evalAll (evalO s) args.toList with
  | none => rfl
  | some l => simp only [List.append_nil]; rfl
/-- A call of a function that has a body. -/
theorem callV_ofU {f : Nat} {l : List AV} {K : KH} {fn : Func} (hF : F f = some fn) (hb : fn.body.isNone = false) (w : UF T F f l h K.k) : @callVU T F f (some l) h K := by
  simp only [callVU, externO, hF, externA, hb, Bool.false_and, Bool.false_eq_true, if_false]; exact w
end
/-! ### AmZ -/
section
variable {T : TT} {F : Nat → Option Func}
theorem UC.while {fn : Nat} {ro : Option Nat} {c : Code} {Q : AE → Frm → Prop} (I : Nat → Frm → Prop)
    (step : ∀ m f, I m f → UP T F fn ro c f (seqK (fun f1 => ∃ m', m' < m ∧ I m' f1) Q)) : ∀ m f, I m f → UC T F fn ro (.loop c) f Q := by
  intro m
  induction m using Nat.strongRecOn with
  | _ m ih =>
    intro f hf
    refine UC.loop ((step m f hf).run.mono fun e f1 q => ?_)
    cases e with
    | normal => obtain ⟨m', hm, hi⟩ := q; exact ih m' hm f1 hi
    | exit i => exact q
    | ret => exact q
theorem UP.mono {fn : Nat} {ro : Option Nat} {c : Code} {f : Frm} {Q Q' : AE → Frm → Prop} (w : UP T F fn ro c f Q) (q : ∀ e f1, Q e f1 → Q' e f1) : UC T F fn ro c f Q' := w.run.mono q
theorem UD_of_UL {all : List Oper} {bf : List Nat} {base : Nat} {Q : List AV → Heap → Prop} : ∀ {l : List Oper} {i : Nat} {ss : List (List AV)} {s : List AV} {h : Heap}
    (_ : l.all (fun o => dkind T o.op == .quiet) = true) (_ : UL T F all l s h Q), UD T F all bf base l i ⟨ss, s, [], 0, h, []⟩ fun st => st.hs = [] ∧ st.msk = 0 ∧ st.h = h ∧ st.nb = [] ∧ Q st.s h
  | [], i, ss, s, h, hq, w => ⟨rfl, rfl, rfl, rfl, w⟩
  | o :: l, i, ss, s, h, hq, w => by
    simp only [List.all_cons, Bool.and_eq_true, beq_iff_eq] at hq
    simp only [UD, hq.1]
    simp only [UL] at w
    refine ⟨fun hw => ?_, fun hw => UD_of_UL (by simpa using hq.2) (w.2 hw)⟩
    have w1 := w.1 hw
    have hop : ∀ f args ts, o.op ≠ .call { callee := .value f, args, argTypes := ts } := by
      intro f args ts e
      have := hq.1
      rw [e] at this
      simp [dkind] at this
    have hk : UK T F o.op s h (fun v h' => UL T F all l (putA s o.dst v) h' Q) = OB (opA T (evalO s) o.op h) (fun v h' => UL T F all l (putA s o.dst v) h' Q) := by
      unfold UK
      split
      · rename_i f args ts e; exact absurd e (hop _ _ _)
      · rfl
    rw [hk] at w1
    simp only [heapFor, List.filter_nil, putsA]
    cases hx : opA T (evalO s) o.op h with
    | none => rw [hx] at w1; exact w1.elim
    | some p =>
      obtain ⟨v, h'⟩ := p
      have := quiet_same hq.1 hx
      subst this
      rw [hx] at w1
      exact UD_of_UL (by simpa using hq.2) w1
theorem UK.mono {op : Op} {s : List AV} {h : Heap} {k k' : AV → Heap → Prop} (w : UK T F op s h k) (q : ∀ v h, k v h → k' v h) : UK T F op s h k' := by
  unfold UK at w ⊢
  split at w
  · split at w
    · split at w
      · exact q _ _ w
      · exact w.mono q
    · exact w.mono q
    · exact w
  · exact w.mono q
theorem UL.mono {all : List Oper} : ∀ {l : List Oper} {s : List AV} {h : Heap} {Q Q' : List AV → Heap → Prop} (_ : UL T F all l s h Q) (_ : ∀ s h, Q s h → Q' s h), UL T F all l s h Q'
  | [], _, _, _, _, w, q => q _ _ w
  | o :: l, s, h, Q, Q', w, q => by
    simp only [UL] at w ⊢
    exact ⟨fun hw => (w.1 hw).mono fun v h' k => k.mono q, fun hw => (w.2 hw).mono q⟩
theorem UD.mono {all : List Oper} {bf : List Nat} {base : Nat} : ∀ {l : List Oper} {i : Nat} {st : DSt} {Q Q' : DSt → Prop} (_ : UD T F all bf base l i st Q) (_ : ∀ st, Q st → Q' st), UD T F all bf base l i st Q'
  | [], _, _, _, _, w, q => q _ w
  | o :: l, i, st, Q, Q', w, q => by
    unfold UD at w ⊢
    split at w
    · exact w.mono fun _ _ k => k.mono q
    · refine ⟨fun hw => ?_, fun hw => (w.2 hw).mono q⟩
      have w1 := w.1 hw
      split at w1
      · exact w1.mono q
      · exact w1
    · refine ⟨fun hw => ?_, fun hw => (w.2 hw).mono q⟩
      have w1 := w.1 hw
      split at w1
      · exact w1.mono q
      · exact w1
    · exact w
theorem UP_quiet {fn : Nat} {ro : Option Nat} {i : Nat} {ops : Array Oper} {f : Frm} {Q : AE → Frm → Prop} (hq : quietOk T ops = true)
    (w : UL T F ops.toList ops.toList f.s (f.h.bump ops.size) fun s h => Q .normal ⟨s, f.ms, h⟩) : UP T F fn ro (.region i ops true) f Q := by
  simp only [quietOk, Bool.and_eq_true] at hq
  rw [UP_drawn]
  refine ⟨hq.1, ?_⟩
  have := UD_of_UL (bf := befores ops.toList []) (base := f.h.nxt) (i := 0) (ss := []) hq.2 w
  refine this.mono fun st ⟨h1, h2, h3, h4, h5⟩ => ?_
  rw [h4, h3]
  constructor
  · have he : ((List.range ops.toList.length).filter fun i => (match ops.toList[i]? with | some o => dkind T o.op == .eff | none => false)) = [] := by
      rw [List.filter_eq_nil_iff]
      intro j hj
      cases ho : ops.toList[j]? with
      | none => simp
      | some o =>
        have hm := List.mem_of_getElem? ho
        have := List.all_eq_true.1 hq.2 o hm
        simp only [beq_iff_eq] at this
        simp [this]
    unfold drawChk
    exact Bool.or_eq_true_iff.2 (.inl (List.isEmpty_iff.2 he))
  · simpa [putsA] using h5
end
/-! ### AmWd -/
section
variable {T : TT} {F : Nat → Option Func}
/-- Such a region. -/
def UE (T : TT) (F : Nat → Option Func) (P : Nat → Prop) (all : List Oper) (bf : List Nat) (base : Nat) : List Oper → Nat → List AV → Heap → List (Nat × Blk) → Nat → (List AV → Heap → Prop) → Prop
  | [], _, s, h, nb, msk, Q => Q s (putsA base (nb.filter fun p => !msk.testBit p.1) h)
  | o :: l, i, s, h, nb, msk, Q =>
    match dkind T o.op with
    | .eff => UL T F all [o] s (heapFor base nb (bf.getD i 0) msk h) fun s' h' => (∀ b, P b → h'.get b = h.get b) ∧ UE T F P all bf base l (i + 1) s' h' nb (msk ||| bf.getD i 0) Q
    | .new =>
      (wantedA o all s = true → match allocA T (evalO s) o.op (base + i) with
        | some (v, b) => UE T F P all bf base l (i + 1) (putA s o.dst v) h (nb ++ [(i, b)]) msk Q
        | none => False) ∧
      (wantedA o all s = false → UE T F P all bf base l (i + 1) (putA s o.dst undefA) h nb msk Q)
    | .quiet =>
      (wantedA o all s = true → ∃ v, (FirmN T (evalO s) o.op P h v base nb (bf.getD i 0) all bf i ∨ safeB T all bf i = true ∧ opA T (evalO s) o.op (heapFor base nb (bf.getD i 0) msk h) = some (v, heapFor base nb (bf.getD i 0) msk h)) ∧ UE T F P all bf base l (i + 1) (putA s o.dst v) h nb msk Q) ∧
      (wantedA o all s = false → UE T F P all bf base l (i + 1) (putA s o.dst undefA) h nb msk Q)
    | .no => False
theorem UD_of_UE {P : Nat → Prop} {all : List Oper} {bf : List Nat} {base : Nat} {h0 : Heap} {Q : List AV → Heap → Prop} (hP : ∀ b, P b → b < base) : ∀ {l : List Oper} {i : Nat} {st : DSt} (_ : all.drop i = l) (_ : i ≤ all.length) (_ : WInv T P all bf base h0 i st) (_ : UE T F P all bf base l i st.s st.h st.nb st.msk Q),
    UD T F all bf base l i st fun st' => WInv T P all bf base h0 all.length st' ∧ Q st'.s (putsA base (st'.nb.filter fun p => !st'.msk.testBit p.1) st'.h)
  | [], i, st, hd, hle, I, w => by
    have hi : all.length ≤ i := by
      have := congrArg List.length hd
      simp at this; omega
    have : i = all.length := by omega
    exact ⟨this ▸ I, w⟩
  | o :: l, i, st, hd, hle, I, w => by
    have hk : all[i]? = some o := by
      have := congrArg (fun x => x[0]?) hd
      simpa using this
    have hd' : all.drop (i + 1) = l := by
      have := congrArg (List.drop 1) hd
      simpa [List.drop_drop, Nat.add_comm] using this
    have hlt : i + 1 ≤ all.length := (List.getElem?_eq_some_iff.1 hk).1
    have hold : ∀ b, P b → st.h.get b = h0.get b := fun b hb => (I.old (st.msk, st.h) (by simp)).resolve_right (fun x => by omega) b hb
    have hat : effAt T all i = (dkind T o.op == .eff) := by simp only [effAt, hk]
    unfold UE at w
    unfold UD
    split at w
    · rename_i hkd
      simp only [hkd]
      refine w.mono fun s' h' ⟨q1, q2⟩ => ?_
      exact UD_of_UE hP hd' hlt (I.eff hlt (by rw [hat, hkd]; rfl) (.inl fun b hb => (q1 b hb).trans (hold b hb))) q2
    · rename_i hkd
      simp only [hkd]
      have hne : effAt T all i = false := by rw [hat, hkd]; rfl
      refine ⟨fun hw => ?_, fun hw => ?_⟩
      · have w1 := w.1 hw
        split at w1
        · rename_i v b hv
          rw [hv]
          refine UD_of_UE hP hd' hlt (I.next hlt rfl hne rfl rfl rfl (.inr ⟨b, rfl⟩) fun o' ho' hq' => ?_) w1
          rw [hk] at ho'; simp only [Option.some.injEq] at ho'; subst ho'
          rw [hkd] at hq'; simp at hq'
        · exact w1.elim
      · refine UD_of_UE hP hd' hlt (I.next hlt rfl hne rfl rfl rfl (.inl rfl) fun o' ho' hq' => ?_) (w.2 hw)
        rw [hk] at ho'; simp only [Option.some.injEq] at ho'; subst ho'
        rw [hkd] at hq'; simp at hq'
    · rename_i hkd
      simp only [hkd]
      have hne : effAt T all i = false := by rw [hat, hkd]; rfl
      refine ⟨fun hw => ?_, fun hw => ?_⟩
      · obtain ⟨v, hf, w1⟩ := w.1 hw
        have hv : opA T (evalO st.s) o.op (heapFor base st.nb (bf.getD i 0) st.msk st.h) = some (v, heapFor base st.nb (bf.getD i 0) st.msk st.h) := hf.elim (fun hf => hf.elim (fun hf => hf _ fun b hb => heapFor_get (hP b hb)) fun ⟨a, blk, n1, n2, n3, n4⟩ => n4 _ (heapFor_new I.unq n2 n3 ((I.msk0 a i n1 (st.msk, st.h) (by simp)).2 (Nat.le_refl _)))) fun hf => hf.2
        rw [hv]
        refine UD_of_UE hP hd' hlt (I.next hlt rfl hne rfl rfl rfl (.inl rfl) fun o' ho' _ _ => ?_) w1
        rw [hk] at ho'; simp only [Option.some.injEq] at ho'; subst ho'
        exact ⟨rfl, v, hf.imp (fun hf => hf.imp (fun hf g hg => hf g fun b hb => (hg b hb).trans (hold b hb).symm) id) fun hf => ⟨hf.1, _, hf.2⟩, rfl⟩
      · refine UD_of_UE hP hd' hlt (I.next hlt rfl hne rfl rfl rfl (.inl rfl) fun o' ho' _ hw' => ?_) (w.2 hw)
        rw [hk] at ho'; simp only [Option.some.injEq] at ho'; subst ho'
        rw [hw] at hw'; simp at hw'
    · exact w.elim
theorem DrawU_of (P : Nat → Prop) {ops : Array Oper} {fn : Nat} {ro : Option Nat} {i : Nat} {s : List AV} {ms : List Nat} {h : Heap} {Q : AE → Frm → Prop} (hd : drawOk T ops = true) (hP : ∀ b, P b → b < h.nxt)
    (w : UE T F P ops.toList (befores ops.toList []) h.nxt ops.toList 0 s (h.bump ops.size) [] 0 fun s h => Q .normal ⟨s, ms, h⟩) : @DrawU T F ⟨s, ms, h⟩ ⟨fn, ro, .region i ops true, Q⟩ := by
  show UP T F fn ro (.region i ops true) ⟨s, ms, h⟩ Q
  rw [UP_drawn]
  refine ⟨hd, ?_⟩
  have := UD_of_UE hP (all := ops.toList) (bf := befores ops.toList []) (base := h.nxt) (h0 := h.bump ops.size) (st := ⟨[], s, [], 0, h.bump ops.size, []⟩) (i := 0) rfl (Nat.zero_le _) ⟨rfl, rfl, fun q hq => .inl fun b hb => by
    simp only [List.nil_append, List.mem_singleton] at hq; subst hq; rfl, by simp, .nil, fun a _ _ q hq => (by simp only [List.nil_append, List.mem_singleton] at hq; subst hq; simp), fun j hj => absurd hj (Nat.not_lt_zero _)⟩ w
  exact this.mono fun st ⟨I, q⟩ => ⟨I.chk hP, q⟩
theorem DrawU_quiet {ops : Array Oper} {fn : Nat} {ro : Option Nat} {i : Nat} {s : List AV} {ms : List Nat} {h : Heap} {Q : AE → Frm → Prop} (hq : quietOk T ops = true)
    (w : UL T F ops.toList ops.toList s (h.bump ops.size) fun s h => Q .normal ⟨s, ms, h⟩) : @DrawU T F ⟨s, ms, h⟩ ⟨fn, ro, .region i ops true, Q⟩ := UP_quiet (i := i) hq w
section
variable {P : Nat → Prop} {all l : List Oper} {bf : List Nat} {base i msk : Nat} {s : List AV} {h : Heap} {nb : List (Nat × Blk)} {Q : List AV → Heap → Prop} {d : Option Nat} {op : Op} {ty : TypeId} {pos : String} {after : Array Edge}
theorem UE_pure (hk : dkind T op = .quiet) (hp : pureOp T op = true) : UE T F P all bf base (⟨d, op, ty, pos, after, none⟩ :: l) i s h nb msk Q = @OBk (opA T (evalO s) op h) ⟨fun v _ => @SetK (putA s d v) h ⟨fun s h => UE T F P all bf base l (i + 1) s h nb msk Q⟩⟩ := by
  rw [UE]
  simp only [hk, wantedA, true_imp_iff, Bool.true_eq_false, false_imp_iff, and_true, OBk, OB, SetK]
  refine propext ⟨fun ⟨v, hf, w⟩ => ?_, fun w => ?_⟩
  · have : opA T (evalO s) op h = some (v, h) := hf.elim (fun hf => hf.elim (fun hf => hf h fun _ _ => rfl) fun ⟨a, blk, _, _, _, n4⟩ => pure_any hp (n4 (h.put (base + a) blk) (by rw [Heap.get_put, if_pos rfl])) h) fun hf => pure_any hp hf.2 h
    rw [this]; exact w
  · cases hx : opA T (evalO s) op h with
    | none => rw [hx] at w; exact w.elim
    | some p =>
      rw [hx] at w
      obtain ⟨v, h'⟩ := p
      exact ⟨v, .inl (.inl fun g _ => pure_any hp hx g), w⟩
@[go_sem ↓] theorem UE_move {x} : UE T F P all bf base (⟨d, .move x, ty, pos, after, none⟩ :: l) i s h nb msk Q = @OBk (opA T (evalO s) (.move x) h) ⟨fun v _ => @SetK (putA s d v) h ⟨fun s h => UE T F P all bf base l (i + 1) s h nb msk Q⟩⟩ := UE_pure rfl rfl
@[go_sem ↓] theorem UE_assign {x} : UE T F P all bf base (⟨d, .assign x, ty, pos, after, none⟩ :: l) i s h nb msk Q = @OBk (opA T (evalO s) (.assign x) h) ⟨fun v _ => @SetK (putA s d v) h ⟨fun s h => UE T F P all bf base l (i + 1) s h nb msk Q⟩⟩ := UE_pure rfl rfl
@[go_sem ↓] theorem UE_binOp {op t x y e} : UE T F P all bf base (⟨d, .binOp op t x y e, ty, pos, after, none⟩ :: l) i s h nb msk Q = @OBk (opA T (evalO s) (.binOp op t x y e) h) ⟨fun v _ => @SetK (putA s d v) h ⟨fun s h => UE T F P all bf base l (i + 1) s h nb msk Q⟩⟩ := UE_pure rfl rfl
@[go_sem ↓] theorem UE_unOp {op t x} : UE T F P all bf base (⟨d, .unOp op t x, ty, pos, after, none⟩ :: l) i s h nb msk Q = @OBk (opA T (evalO s) (.unOp op t x) h) ⟨fun v _ => @SetK (putA s d v) h ⟨fun s h => UE T F P all bf base l (i + 1) s h nb msk Q⟩⟩ := UE_pure rfl rfl
@[go_sem ↓] theorem UE_extract {x i} : UE T F P all bf base (⟨d, .extract x i, ty, pos, after, none⟩ :: l) i s h nb msk Q = @OBk (opA T (evalO s) (.extract x i) h) ⟨fun v _ => @SetK (putA s d v) h ⟨fun s h => UE T F P all bf base l (i + 1) s h nb msk Q⟩⟩ := UE_pure rfl rfl
@[go_sem ↓] theorem UE_build {t x} : UE T F P all bf base (⟨d, .build t x, ty, pos, after, none⟩ :: l) i s h nb msk Q = @OBk (opA T (evalO s) (.build t x) h) ⟨fun v _ => @SetK (putA s d v) h ⟨fun s h => UE T F P all bf base l (i + 1) s h nb msk Q⟩⟩ := UE_pure rfl rfl
@[go_sem ↓] theorem UE_nilCheck {x} : UE T F P all bf base (⟨d, .nilCheck x, ty, pos, after, none⟩ :: l) i s h nb msk Q = @OBk (opA T (evalO s) (.nilCheck x) h) ⟨fun v _ => @SetK (putA s d v) h ⟨fun s h => UE T F P all bf base l (i + 1) s h nb msk Q⟩⟩ := UE_pure rfl rfl
@[go_sem ↓] theorem UE_slice {t x a b c} : UE T F P all bf base (⟨d, .slice t x a b c, ty, pos, after, none⟩ :: l) i s h nb msk Q = @OBk (opA T (evalO s) (.slice t x a b c) h) ⟨fun v _ => @SetK (putA s d v) h ⟨fun s h => UE T F P all bf base l (i + 1) s h nb msk Q⟩⟩ := UE_pure rfl rfl
@[go_sem ↓] theorem UE_fieldAddr {t x f} : UE T F P all bf base (⟨d, .fieldAddr t x f, ty, pos, after, none⟩ :: l) i s h nb msk Q = @OBk (opA T (evalO s) (.fieldAddr t x f) h) ⟨fun v _ => @SetK (putA s d v) h ⟨fun s h => UE T F P all bf base l (i + 1) s h nb msk Q⟩⟩ := UE_pure rfl rfl
@[go_sem ↓] theorem UE_field {t x f} : UE T F P all bf base (⟨d, .field t x f, ty, pos, after, none⟩ :: l) i s h nb msk Q = @OBk (opA T (evalO s) (.field t x f) h) ⟨fun v _ => @SetK (putA s d v) h ⟨fun s h => UE T F P all bf base l (i + 1) s h nb msk Q⟩⟩ := UE_pure rfl rfl
@[go_sem ↓] theorem UE_indexAddr {t x f} : UE T F P all bf base (⟨d, .indexAddr t x f, ty, pos, after, none⟩ :: l) i s h nb msk Q = @OBk (opA T (evalO s) (.indexAddr t x f) h) ⟨fun v _ => @SetK (putA s d v) h ⟨fun s h => UE T F P all bf base l (i + 1) s h nb msk Q⟩⟩ := UE_pure rfl rfl
@[go_sem ↓] theorem UE_index {t x f} : UE T F P all bf base (⟨d, .index t x f, ty, pos, after, none⟩ :: l) i s h nb msk Q = @OBk (opA T (evalO s) (.index t x f) h) ⟨fun v _ => @SetK (putA s d v) h ⟨fun s h => UE T F P all bf base l (i + 1) s h nb msk Q⟩⟩ := UE_pure rfl rfl
@[go_sem ↓] theorem UE_pick {c x y} : UE T F P all bf base (⟨d, .pick c x y, ty, pos, after, none⟩ :: l) i s h nb msk Q = @OBk (opA T (evalO s) (.pick c x y) h) ⟨fun v _ => @SetK (putA s d v) h ⟨fun s h => UE T F P all bf base l (i + 1) s h nb msk Q⟩⟩ := UE_pure rfl rfl
@[go_sem ↓] theorem UE_makeFunc {c x y} : UE T F P all bf base (⟨d, .makeFunc c x y, ty, pos, after, none⟩ :: l) i s h nb msk Q = @OBk (opA T (evalO s) (.makeFunc c x y) h) ⟨fun v _ => @SetK (putA s d v) h ⟨fun s h => UE T F P all bf base l (i + 1) s h nb msk Q⟩⟩ := UE_pure rfl rfl
@[go_sem ↓] theorem UE_makeInterface {t x} : UE T F P all bf base (⟨d, .makeInterface t x, ty, pos, after, none⟩ :: l) i s h nb msk Q = @OBk (opA T (evalO s) (.makeInterface t x) h) ⟨fun v _ => @SetK (putA s d v) h ⟨fun s h => UE T F P all bf base l (i + 1) s h nb msk Q⟩⟩ := UE_pure rfl rfl
@[go_sem ↓] theorem UE_min {args ts} : UE T F P all bf base (⟨d, .call { callee := .builtin .min, args, argTypes := ts }, ty, pos, after, none⟩ :: l) i s h nb msk Q = @OBk (opA T (evalO s) (.call { callee := .builtin .min, args, argTypes := ts }) h) ⟨fun v _ => @SetK (putA s d v) h ⟨fun s h => UE T F P all bf base l (i + 1) s h nb msk Q⟩⟩ := UE_pure rfl rfl
@[go_sem ↓] theorem UE_max {args ts} : UE T F P all bf base (⟨d, .call { callee := .builtin .max, args, argTypes := ts }, ty, pos, after, none⟩ :: l) i s h nb msk Q = @OBk (opA T (evalO s) (.call { callee := .builtin .max, args, argTypes := ts }) h) ⟨fun v _ => @SetK (putA s d v) h ⟨fun s h => UE T F P all bf base l (i + 1) s h nb msk Q⟩⟩ := UE_pure rfl rfl
@[go_sem ↓] theorem UE_len {args t} : UE T F P all bf base (⟨d, .call { callee := .builtin .len, args, argTypes := ⟨[t]⟩ }, ty, pos, after, none⟩ :: l) i s h nb msk Q = @condK (some (.bool (lenPure T t)))
    ⟨@OBk (opA T (evalO s) (.call { callee := .builtin .len, args, argTypes := ⟨[t]⟩ }) h) ⟨fun v _ => @SetK (putA s d v) h ⟨fun s h => UE T F P all bf base l (i + 1) s h nb msk Q⟩⟩, UE T F P all bf base (⟨d, .call { callee := .builtin .len, args, argTypes := ⟨[t]⟩ }, ty, pos, after, none⟩ :: l) i s h nb msk Q⟩ := by
  cases hp : lenPure T t with
  | true =>
    rw [condK_true]
    exact UE_pure (op := .call { callee := .builtin .len, args, argTypes := ⟨[t]⟩ }) rfl hp
  | false => rw [condK_false]; exact rfl
@[go_sem ↓] theorem UE_load' {t x} : UE T F P all bf base (⟨d, .load t x, ty, pos, after, none⟩ :: l) i s h nb msk Q = @LoadK ⟨UE T F P all bf base (⟨d, .load t x, ty, pos, after, none⟩ :: l) i s h nb msk Q⟩ := propext Iff.rfl
theorem LoadK_ofU {t x b o} (hx : evalO s x = some (.ptr (some (b, o)))) (hb : P b) (w : @OBk (opA T (evalO s) (.load t x) h) ⟨fun v _ => @SetK (putA s d v) h ⟨fun s h => UE T F P all bf base l (i + 1) s h nb msk Q⟩⟩) :
    @LoadK ⟨UE T F P all bf base (⟨d, .load t x, ty, pos, after, none⟩ :: l) i s h nb msk Q⟩ := by
  show UE T F P all bf base (⟨d, .load t x, ty, pos, after, none⟩ :: l) i s h nb msk Q
  rw [UE]
  simp only [dkind, wantedA, true_imp_iff, Bool.true_eq_false, false_imp_iff, and_true]
  simp only [opA, hx, OBk, OB, SetK] at w
  cases hl : loadVar T h t b o with
  | none => rw [hl] at w; exact w.elim
  | some v =>
    rw [hl] at w
    refine ⟨v, .inl (.inl fun g hg => ?_), w⟩
    simp only [opA, hx]
    rw [load_any (hg b hb), hl]
theorem UE_eff (hk : dkind T op = .eff) : UE T F P all bf base (⟨d, op, ty, pos, after, none⟩ :: l) i s h nb msk Q = UK T F op s (heapFor base nb (bf.getD i 0) msk h) fun v h' => (∀ b, P b → h'.get b = h.get b) ∧ @SetK (putA s d v) h' ⟨fun s h' => UE T F P all bf base l (i + 1) s h' nb (msk ||| bf.getD i 0) Q⟩ := by
  rw [UE]
  simp only [hk, UL_op, UL_nil, SetK]
@[go_sem ↓] theorem UE_call {f args ts} : UE T F P all bf base (⟨d, .call { callee := .value f, args, argTypes := ts }, ty, pos, after, none⟩ :: l) i s h nb msk Q = UK T F (.call { callee := .value f, args, argTypes := ts }) s (heapFor base nb (bf.getD i 0) msk h) fun v h' => (∀ b, P b → h'.get b = h.get b) ∧ @SetK (putA s d v) h' ⟨fun s h' => UE T F P all bf base l (i + 1) s h' nb (msk ||| bf.getD i 0) Q⟩ := UE_eff rfl
@[go_sem ↓] theorem UE_append {args ts} : UE T F P all bf base (⟨d, .call { callee := .builtin .append, args, argTypes := ts }, ty, pos, after, none⟩ :: l) i s h nb msk Q = UK T F (.call { callee := .builtin .append, args, argTypes := ts }) s (heapFor base nb (bf.getD i 0) msk h) fun v h' => (∀ b, P b → h'.get b = h.get b) ∧ @SetK (putA s d v) h' ⟨fun s h' => UE T F P all bf base l (i + 1) s h' nb (msk ||| bf.getD i 0) Q⟩ := UE_eff rfl
@[go_sem ↓] theorem UE_store {t x y} : UE T F P all bf base (⟨d, .store t x y, ty, pos, after, none⟩ :: l) i s h nb msk Q = UK T F (.store t x y) s (heapFor base nb (bf.getD i 0) msk h) fun v h' => (∀ b, P b → h'.get b = h.get b) ∧ @SetK (putA s d v) h' ⟨fun s h' => UE T F P all bf base l (i + 1) s h' nb (msk ||| bf.getD i 0) Q⟩ := UE_eff rfl
@[go_sem ↓] theorem UE_nil : UE T F P all bf base [] i s h nb msk Q = @SetK s (putsF base nb msk h) ⟨Q⟩ := propext Iff.rfl
theorem UE_new (hk : dkind T op = .new) : UE T F P all bf base (⟨d, op, ty, pos, after, none⟩ :: l) i s h nb msk Q = @AllocK (allocA T (evalO s) op (base + i)) ⟨fun v b => @SetK (putA s d v) h ⟨fun s h => UE T F P all bf base l (i + 1) s h (nb ++ [(i, b)]) msk Q⟩⟩ := by
  rw [UE]
  simp only [hk, wantedA, true_imp_iff, Bool.true_eq_false, false_imp_iff, and_true, AllocK, SetK]
  rfl
@[go_sem ↓] theorem UE_buildSlice {t n x} : UE T F P all bf base (⟨d, .buildSlice t n x, ty, pos, after, none⟩ :: l) i s h nb msk Q = @AllocK (allocA T (evalO s) (.buildSlice t n x) (base + i)) ⟨fun v b => @SetK (putA s d v) h ⟨fun s h => UE T F P all bf base l (i + 1) s h (nb ++ [(i, b)]) msk Q⟩⟩ := UE_new rfl
@[go_sem ↓] theorem UE_alloc {t} : UE T F P all bf base (⟨d, .alloc t, ty, pos, after, none⟩ :: l) i s h nb msk Q = @AllocK (allocA T (evalO s) (.alloc t) (base + i)) ⟨fun v b => @SetK (putA s d v) h ⟨fun s h => UE T F P all bf base l (i + 1) s h (nb ++ [(i, b)]) msk Q⟩⟩ := UE_new rfl
@[go_sem ↓] theorem UE_box {t x} : UE T F P all bf base (⟨d, .box t x, ty, pos, after, none⟩ :: l) i s h nb msk Q = @AllocK (allocA T (evalO s) (.box t x) (base + i)) ⟨fun v b => @SetK (putA s d v) h ⟨fun s h => UE T F P all bf base l (i + 1) s h (nb ++ [(i, b)]) msk Q⟩⟩ := UE_new rfl
@[go_sem ↓] theorem UE_makeSlice {t x y} : UE T F P all bf base (⟨d, .makeSlice t x y, ty, pos, after, none⟩ :: l) i s h nb msk Q = @AllocK (allocA T (evalO s) (.makeSlice t x y) (base + i)) ⟨fun v b => @SetK (putA s d v) h ⟨fun s h => UE T F P all bf base l (i + 1) s h (nb ++ [(i, b)]) msk Q⟩⟩ := UE_new rfl
end
/-- A region whose order is drawn: the rows of what stands ahead are given. -/
theorem DrawU_of' (P : Nat → Prop) (bf : List Nat) {l : List Oper} {fn : Nat} {ro : Option Nat} {i : Nat} {s : List AV} {ms : List Nat} {h : Heap} {Q : AE → Frm → Prop} (hd : drawOk T ⟨l⟩ = true) (hbf : befores l [] = bf) (hP : ∀ b, P b → b < h.nxt)
    (w : UE T F P l bf h.nxt l 0 s (h.bump l.length) [] 0 fun s h => Q .normal ⟨s, ms, h⟩) : @DrawU T F ⟨s, ms, h⟩ ⟨fn, ro, .region i ⟨l⟩ true, Q⟩ := by
  subst hbf
  exact DrawU_of P hd hP w
end
/-! ### AmSl -/
section
variable {T : TT} {F : Nat → Option Func}
section
variable {K : KH} {m : Nat} {h : Heap} {v : AV} {sz t e : Nat} {ti te : TI} {ls : List (List AV)} {kd kd' : IntKind} {i j : Int}
end
theorem LoopU_while {fn : Nat} {ro : Option Nat} {c : Code} {s : List AV} {h : Heap} {Q : AE → Frm → Prop} (I : Nat → List AV → Heap → Prop) (m : Nat) (h0 : I m s h)
    (step : ∀ m s h, I m s h → UP T F fn ro c ⟨s, [], h⟩ (seqK (fun f1 => @AgainK f1 ⟨m, I⟩) Q)) : @LoopU T F ⟨s, [], h⟩ ⟨fn, ro, .loop c, Q⟩ := by
  refine UC.while (fun m f => f.ms = [] ∧ I m f.s f.h) (fun m f ⟨h1, h2⟩ => ?_) m _ ⟨rfl, h0⟩
  obtain ⟨s, ms, h⟩ := f
  simp only at h1
  subst h1
  have := step m s h h2
  have e : (fun f1 => @AgainK f1 ⟨m, I⟩) = fun f1 => ∃ m', m' < m ∧ f1.ms = [] ∧ I m' f1.s f1.h := by
    funext f1
    exact propext ⟨fun ⟨a, m', b, c⟩ => ⟨m', b, a, c⟩, fun ⟨m', b, a, c⟩ => ⟨a, m', b, c⟩⟩
  rw [e] at this
  exact this
@[go_sem ↓] theorem UL_g {all l d op ty pos after j w} {s : List AV} {h : Heap} {Q : List AV → Heap → Prop} : UL T F all (⟨d, op, ty, pos, after, some (j, w)⟩ :: l) s h Q =
    @condK (gval (gslot all j) s w) ⟨UK T F op s h fun v h' => @SetK (putA s d v) h' ⟨fun s h => UL T F all l s h Q⟩, @SetK (putA s d undefA) h ⟨fun s h => UL T F all l s h Q⟩⟩ := by
  rw [← wanted_g (op := op) (d := d) (ty := ty) (pos := pos) (after := after)]
  simp [UL, condK, SetK]
theorem UF.gen {f : Nat} {args : List AV} {h : Heap} {P : AV → Heap → Prop} (w : ∀ Q : AV → Heap → Prop, (∀ v h', P v h' → Q v h') → UF T F f args h Q) : UF T F f args h P := w P fun _ _ p => p
end
end Go.Am
