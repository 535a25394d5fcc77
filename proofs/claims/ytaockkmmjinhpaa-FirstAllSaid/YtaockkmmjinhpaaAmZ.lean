/-
  Weakest conditions over the abstract machine: loops, heaps that grow, slices.
-/
import Derived.Test.YtaockkmmjinhpaaAmY
namespace Go.Am
variable {T : TT} {F : Nat → Option Func}

theorem WC.while {fn : Nat} {ro : Option Nat} {c : Code} {Q : AE → Frm → Prop} (I : Nat → Frm → Prop)
    (step : ∀ m f, I m f → WP T F fn ro c f (seqK (fun f1 => ∃ m', m' < m ∧ I m' f1) Q)) : ∀ m f, I m f → WC T F fn ro (.loop c) f Q := by
  intro m
  induction m using Nat.strongRecOn with
  | _ m ih =>
    intro f hf
    refine WC.loop ((step m f hf).run.mono fun e f1 q => ?_)
    cases e with
    | normal => obtain ⟨m', hm, hi⟩ := q; exact ih m' hm f1 hi
    | exit i => exact q
    | ret => exact q

theorem WP.mono {fn : Nat} {ro : Option Nat} {c : Code} {f : Frm} {Q Q' : AE → Frm → Prop} (w : WP T F fn ro c f Q) (q : ∀ e f1, Q e f1 → Q' e f1) : WC T F fn ro c f Q' := w.run.mono q

attribute [go_sem] AV.cells AV.leaf List.all_cons List.all_nil Bool.and_true Bool.and_self List.length_cons List.length_nil Option.isSome_some Option.isSome_none Bool.false_and Bool.and_false Bool.true_and
attribute [go_sem] loadVar storeVar loadCells storeCells TK.isAgg setCells List.append_nil List.nil_append List.cons_append List.take_succ_cons List.take_zero List.drop_succ_cons List.drop_zero List.getElem?_cons_succ List.getElem?_cons_zero
attribute [go_sem] Nat.add_zero Nat.zero_add Option.map_some Option.map_none List.take_nil List.drop_nil reduceIte if_pos if_neg and_self and_true true_and
attribute [go_sem] part builtinA lenA minA maxA unOpA eq_self Bool.false_eq_true Bool.not_true Bool.not_false

@[go_sem] theorem binOpA_add {t k x y} : binOpA T .add t (.int k x) (.int k y) = some (.int k (k.wrap (x + y))) := by simp [binOpA, intOp]
@[go_sem] theorem binOpA_sub {t k x y} : binOpA T .sub t (.int k x) (.int k y) = some (.int k (k.wrap (x - y))) := by simp [binOpA, intOp]
@[go_sem] theorem binOpA_mul {t k x y} : binOpA T .mul t (.int k x) (.int k y) = some (.int k (k.wrap (x * y))) := by simp [binOpA, intOp]
@[go_sem] theorem binOpA_eql {t k x y} : binOpA T .eql t (.int k x) (.int k y) = some (.bool (decide (x = y))) := by simp only [binOpA, intOp]; simp; rfl
@[go_sem] theorem binOpA_neq {t k x y} : binOpA T .neq t (.int k x) (.int k y) = some (.bool (!decide (x = y))) := by simp only [binOpA, intOp]; simp; rfl
@[go_sem] theorem binOpA_lss {t k x y} : binOpA T .lss t (.int k x) (.int k y) = some (.bool (decide (x < y))) := by simp [binOpA, intOp]
@[go_sem] theorem binOpA_leq {t k x y} : binOpA T .leq t (.int k x) (.int k y) = some (.bool (decide (x ≤ y))) := by simp [binOpA, intOp]
@[go_sem] theorem binOpA_gtr {t k x y} : binOpA T .gtr t (.int k x) (.int k y) = some (.bool (decide (x > y))) := by simp [binOpA, intOp]
@[go_sem] theorem binOpA_geq {t k x y} : binOpA T .geq t (.int k x) (.int k y) = some (.bool (decide (x ≥ y))) := by simp [binOpA, intOp]
@[go_sem] theorem binOpA_rem {t k x y} (hy : ¬ y = 0) : binOpA T .rem t (.int k x) (.int k y) = some (.int k (x.tmod y)) := by simp [binOpA, intOp, hy]
@[go_sem] theorem binOpA_quo {t k x y} (hy : ¬ y = 0) : binOpA T .quo t (.int k x) (.int k y) = some (.int k (k.wrap (x.tdiv y))) := by simp [binOpA, intOp, hy]
@[go_sem] theorem wrap_i64 {x : Int} (h1 : -9223372036854775808 ≤ x) (h2 : x ≤ 9223372036854775807) : IntKind.i64.wrap x = x := by
  unfold IntKind.wrap
  simp [IntKind.bits, IntKind.signed]
  omega

/-! slots -/
def slotsFrom (s : List AV) : Nat → Nat → List AV
  | _, 0 => []
  | k, n + 1 => s.getD k undefA :: slotsFrom s (k + 1) n

theorem slotsFrom_eq (s : List AV) : ∀ (n k : Nat), s.length = k + n → slotsFrom s k n = s.drop k
  | 0, k, h => by simp [slotsFrom]; omega
  | n + 1, k, h => by
    rw [slotsFrom, slotsFrom_eq s n (k + 1) (by omega)]
    rw [List.getD_eq_getElem?_getD, List.getElem?_eq_getElem (by omega), List.drop_eq_getElem_cons (by omega : k < s.length)]
    rfl

theorem slots_eq {s : List AV} {n : Nat} (h : s.length = n) : s = slotsFrom s 0 n := by
  rw [slotsFrom_eq s n 0 (by omega)]; rfl

def Has (s : List AV) : List (Nat × AV) → Prop
  | [] => True
  | p :: l => s.getD p.1 undefA = p.2 ∧ Has s l

/-! heaps that grow -/
structure Ext (h h' : Heap) : Prop where
  nxt : h.nxt ≤ h'.nxt
  get : ∀ b, b < h.nxt → h'.get b = h.get b
theorem Ext.refl (h : Heap) : Ext h h := ⟨Nat.le_refl _, fun _ _ => rfl⟩
theorem Ext.trans {a b c : Heap} (x : Ext a b) (y : Ext b c) : Ext a c := ⟨Nat.le_trans x.nxt y.nxt, fun k hk => (y.get k (Nat.lt_of_lt_of_le hk x.nxt)).trans (x.get k hk)⟩
theorem Ext.add (h : Heap) (x : Blk) : Ext h (h.add x) := ⟨Nat.le_succ _, fun b hb => by rw [Heap.get_add, if_neg (by omega)]⟩

def Heap.bump (h : Heap) (n : Nat) : Heap := ⟨h.nxt + n, h.l⟩
@[simp, go_sem] theorem bump_nxt (h : Heap) (n : Nat) : (h.bump n).nxt = h.nxt + n := rfl
@[simp, go_sem] theorem bump_get (h : Heap) (n b : Nat) : (h.bump n).get b = h.get b := rfl
theorem Ext.bump (h : Heap) (n : Nat) : Ext h (h.bump n) := ⟨Nat.le_add_right _ _, fun _ _ => rfl⟩
@[go_sem] theorem add_get_ne {h : Heap} {x : Blk} {b : Nat} (hb : b ≠ h.nxt) : (h.add x).get b = h.get b := by rw [Heap.get_add, if_neg (fun e => hb e.symm)]
@[go_sem] theorem add_get_eq {h : Heap} {x : Blk} {b : Nat} (hb : b = h.nxt) : (h.add x).get b = some x := by rw [Heap.get_add, if_pos hb.symm]
@[go_sem] theorem put_get_ne {h : Heap} {x : Blk} {b c : Nat} (hb : c ≠ b) : (h.put b x).get c = h.get c := by rw [Heap.get_put, if_neg (fun e => hb e.symm)]
@[go_sem] theorem put_get_eq {h : Heap} {x : Blk} {b c : Nat} (hb : c = b) : (h.put b x).get c = some x := by rw [Heap.get_put, if_pos hb.symm]
@[go_sem] theorem del_get_ne {h : Heap} {b c : Nat} (hb : c ≠ b) : (h.del b).get c = h.get c := by rw [Heap.get_del, if_neg (fun e => hb e.symm)]
attribute [go_sem] Heap.put_nxt Heap.del_nxt Heap.add_nxt

/-! quiet regions -/
def quietOk (T : TT) (ops : Array Oper) : Bool := drawOk T ops && ops.toList.all fun o => dkind T o.op == .quiet

theorem WD_of_WL {all : List Oper} {bf : List Nat} {base : Nat} {Q : List AV → Heap → Prop} : ∀ {l : List Oper} {i : Nat} {ss : List (List AV)} {s : List AV} {h : Heap}
    (_ : l.all (fun o => dkind T o.op == .quiet) = true) (_ : WL T F all l s h Q), WD T F all bf base l i ⟨ss, s, [], 0, h, []⟩ fun st => st.hs = [] ∧ st.msk = 0 ∧ st.h = h ∧ st.nb = [] ∧ Q st.s h
  | [], i, ss, s, h, hq, w => ⟨rfl, rfl, rfl, rfl, w⟩
  | o :: l, i, ss, s, h, hq, w => by
    simp only [List.all_cons, Bool.and_eq_true, beq_iff_eq] at hq
    simp only [WD, hq.1]
    simp only [WL] at w
    refine ⟨fun hw => ?_, fun hw => WD_of_WL (by simpa using hq.2) (w.2 hw)⟩
    have w1 := w.1 hw
    have hop : ∀ f args ts, o.op ≠ .call { callee := .value f, args, argTypes := ts } := by
      intro f args ts e
      have := hq.1
      rw [e] at this
      simp [dkind] at this
    have hk : WK T F o.op s h (fun v h' => WL T F all l (putA s o.dst v) h' Q) = OB (opA T (evalO s) o.op h) (fun v h' => WL T F all l (putA s o.dst v) h' Q) := by
      unfold WK
      split
      · rename_i f args ts e; exact absurd e (hop _ _ _)
      · rfl
    rw [hk] at w1
    simp only [heapFor, List.filter_nil, putsA]
    cases hx : opA T (evalO s) o.op h with
    | none => rw [hx] at w1; exact w1.elim
    | some p =>
      obtain ⟨v, h'⟩ := p
      have := quiet_same hq.1 hx
      subst this
      rw [hx] at w1
      exact WD_of_WL (by simpa using hq.2) w1

theorem WK.mono {op : Op} {s : List AV} {h : Heap} {k k' : AV → Heap → Prop} (w : WK T F op s h k) (q : ∀ v h, k v h → k' v h) : WK T F op s h k' := by
  unfold WK at w ⊢
  split at w
  · split at w
    · split at w
      · exact q _ _ w
      · exact w.mono q
    · exact w.mono q
    · exact w
  · exact w.mono q

theorem WL.mono {all : List Oper} : ∀ {l : List Oper} {s : List AV} {h : Heap} {Q Q' : List AV → Heap → Prop} (_ : WL T F all l s h Q) (_ : ∀ s h, Q s h → Q' s h), WL T F all l s h Q'
  | [], _, _, _, _, w, q => q _ _ w
  | o :: l, s, h, Q, Q', w, q => by
    simp only [WL] at w ⊢
    exact ⟨fun hw => (w.1 hw).mono fun v h' k => k.mono q, fun hw => (w.2 hw).mono q⟩

theorem WD.mono {all : List Oper} {bf : List Nat} {base : Nat} : ∀ {l : List Oper} {i : Nat} {st : DSt} {Q Q' : DSt → Prop} (_ : WD T F all bf base l i st Q) (_ : ∀ st, Q st → Q' st), WD T F all bf base l i st Q'
  | [], _, _, _, _, w, q => q _ w
  | o :: l, i, st, Q, Q', w, q => by
    unfold WD at w ⊢
    split at w
    · exact w.mono fun _ _ k => k.mono q
    · refine ⟨fun hw => ?_, fun hw => (w.2 hw).mono q⟩
      have w1 := w.1 hw
      split at w1
      · exact w1.mono q
      · exact w1
    · refine ⟨fun hw => ?_, fun hw => (w.2 hw).mono q⟩
      have w1 := w.1 hw
      split at w1
      · exact w1.mono q
      · exact w1
    · exact w

theorem WP_quiet {fn : Nat} {ro : Option Nat} {i : Nat} {ops : Array Oper} {f : Frm} {Q : AE → Frm → Prop} (hq : quietOk T ops = true)
    (w : WL T F ops.toList ops.toList f.s (f.h.bump ops.size) fun s h => Q .normal ⟨s, f.ms, h⟩) : WP T F fn ro (.region i ops true) f Q := by
  simp only [quietOk, Bool.and_eq_true] at hq
  rw [WP_drawn]
  refine ⟨hq.1, ?_⟩
  have := WD_of_WL (bf := befores ops.toList []) (base := f.h.nxt) (i := 0) (ss := []) hq.2 w
  refine this.mono fun st ⟨h1, h2, h3, h4, h5⟩ => ?_
  rw [h4, h3]
  constructor
  · have he : ((List.range ops.toList.length).filter fun i => (match ops.toList[i]? with | some o => dkind T o.op == .eff | none => false)) = [] := by
      rw [List.filter_eq_nil_iff]
      intro j hj
      cases ho : ops.toList[j]? with
      | none => simp
      | some o =>
        have hm := List.mem_of_getElem? ho
        have := List.all_eq_true.1 hq.2 o hm
        simp only [beq_iff_eq] at this
        simp [this]
    unfold drawChk
    exact Bool.or_eq_true_iff.2 (.inl (List.isEmpty_iff.2 he))
  · simpa [putsA] using h5

end Go.Am
