/-
  Weakest conditions over the abstract machine: laws that the simplifier takes. (What comes next is kept as an instance: the simplifier leaves it alone.)
-/
import Derived.Test.YtaockkmmjinhpaaAmX
import Derived.Attr
namespace Go.Am
variable {T : TT} {F : Nat → Option Func}

class KH where
  k : AV → Heap → Prop
class KS where
  k : List AV → Heap → Prop
class KP where
  a : Prop
  b : Prop
class KF where
  fn : Nat
  ro : Option Nat
  c : Code
  k : AE → Frm → Prop

def OBk (r : Option (AV × Heap)) [K : KH] : Prop := OB r K.k
def SetK (s : List AV) (h : Heap) [K : KS] : Prop := K.k s h
@[go_sem] theorem SetK_eq {s : List AV} {h : Heap} {K : KS} : @SetK s h K = K.k s h := propext Iff.rfl
@[go_sem] theorem OBk_some {v : AV} {h : Heap} {K : KH} : @OBk (some (v, h)) K = K.k v h := propext Iff.rfl
theorem OBk_of {r : Option (AV × Heap)} {K : KH} {v : AV} {h : Heap} (e : r = some (v, h)) (k : K.k v h) : @OBk r K := by subst e; exact k
/-- A loop that is reached. -/
def LoopK (T : TT) (F : Nat → Option Func) (f : Frm) [K : KF] : Prop := WC T F K.fn K.ro K.c f K.k

def condK (r : Option AV) [K : KP] : Prop := match r with
  | some (.bool x) => (x = true → K.a) ∧ (x = false → K.b)
  | _ => False
@[go_sem] theorem condK_true {K : KP} : @condK (some (.bool true)) K = K.a := by simp [condK]
@[go_sem] theorem condK_false {K : KP} : @condK (some (.bool false)) K = K.b := by simp [condK]
variable {fn : Nat} {ro : Option Nat}
@[go_sem ↓] theorem WP_skip {f : Frm} {Q : AE → Frm → Prop} : WP T F fn ro .skip f Q = Q .normal f := propext Iff.rfl
@[go_sem ↓] theorem WP_label {l} {f : Frm} {Q : AE → Frm → Prop} : WP T F fn ro (.label l) f Q = Q .normal f := propext Iff.rfl
@[go_sem ↓] theorem WP_seq {a b} {f : Frm} {Q : AE → Frm → Prop} : WP T F fn ro (.seq a b) f Q = WP T F fn ro a f (seqK (fun f1 => WP T F fn ro b f1 Q) Q) := propext Iff.rfl
@[go_sem ↓] theorem WP_cond {c a b} {s : List AV} {ms} {h : Heap} {Q : AE → Frm → Prop} : WP T F fn ro (.cond c a b) ⟨s, ms, h⟩ Q = @condK (evalO s c) ⟨WP T F fn ro a ⟨s, ms, h⟩ Q, WP T F fn ro b ⟨s, ms, h⟩ Q⟩ := propext Iff.rfl
@[go_sem ↓] theorem WP_block {id c} {f : Frm} {Q : AE → Frm → Prop} : WP T F fn ro (.block id c) f Q = WP T F fn ro c f (blockK id Q) := propext Iff.rfl
@[go_sem ↓] theorem WP_scope {c} {f : Frm} {Q : AE → Frm → Prop} : WP T F fn ro (.scope c) f Q = WP T F fn ro c f Q := propext Iff.rfl
@[go_sem ↓] theorem WP_exit {id} {f : Frm} {Q : AE → Frm → Prop} : WP T F fn ro (.exit id) f Q = Q (.exit id) f := propext Iff.rfl
@[go_sem ↓] theorem WP_ret {f : Frm} {Q : AE → Frm → Prop} : WP T F fn ro .ret f Q = Q .ret f := propext Iff.rfl
@[go_sem ↓] theorem WP_loop {c} {f : Frm} {Q : AE → Frm → Prop} : WP T F fn ro (.loop c) f Q = @LoopK T F f ⟨fn, ro, .loop c, Q⟩ := propext Iff.rfl
@[go_sem ↓] theorem WP_rangeFunc {g ps a b} {f : Frm} {Q : AE → Frm → Prop} : WP T F fn ro (.rangeFunc g ps a b) f Q = @LoopK T F f ⟨fn, ro, .rangeFunc g ps a b, Q⟩ := propext Iff.rfl
@[go_sem ↓] theorem WP_region {i ops} {s : List AV} {ms} {h : Heap} {Q : AE → Frm → Prop} : WP T F fn ro (.region i ⟨ops⟩ false) ⟨s, ms, h⟩ Q = WL T F ops ops s h fun s h => Q .normal ⟨s, ms, h⟩ := by simp only [WP, Bool.false_eq_true, if_false]
theorem WP_drawn {i ops} {f : Frm} {Q : AE → Frm → Prop} : WP T F fn ro (.region i ops true) f Q = (drawOk T ops = true ∧ WD T F ops.toList (befores ops.toList []) f.h.nxt ops.toList 0 ⟨[], f.s, [], 0, ⟨f.h.nxt + ops.size, f.h.l⟩, []⟩ fun st =>
      drawChk T ops.toList f.h.nxt st = true ∧ Q .normal ⟨st.s, f.ms, putsA f.h.nxt (st.nb.filter fun p => !st.msk.testBit p.1) st.h⟩) := by simp only [WP, if_true]
/-- A region whose order is drawn, reached. -/
def DrawK (T : TT) (F : Nat → Option Func) (f : Frm) [K : KF] : Prop := WP T F K.fn K.ro K.c f K.k
@[go_sem ↓] theorem WP_draw {i ops} {f : Frm} {Q : AE → Frm → Prop} : WP T F fn ro (.region i ops true) f Q = @DrawK T F f ⟨fn, ro, .region i ops true, Q⟩ := propext Iff.rfl

@[go_sem ↓] theorem seqK_normal {k : Frm → Prop} {Q : AE → Frm → Prop} {f : Frm} : seqK k Q .normal f = k f := propext Iff.rfl
@[go_sem ↓] theorem seqK_exit {k : Frm → Prop} {Q : AE → Frm → Prop} {f : Frm} {i} : seqK k Q (.exit i) f = Q (.exit i) f := propext Iff.rfl
@[go_sem ↓] theorem seqK_ret {k : Frm → Prop} {Q : AE → Frm → Prop} {f : Frm} : seqK k Q .ret f = Q .ret f := propext Iff.rfl
@[go_sem ↓] theorem blockK_normal {id} {Q : AE → Frm → Prop} {f : Frm} : blockK id Q .normal f = Q .normal f := propext Iff.rfl
@[go_sem ↓] theorem blockK_exit {id i} {Q : AE → Frm → Prop} {f : Frm} : blockK id Q (.exit i) f = @condK (some (.bool (decide (i = id)))) ⟨Q .normal f, Q (.exit i) f⟩ := by
  simp only [blockK, condK]; by_cases h : i = id <;> simp [h]
@[go_sem ↓] theorem blockK_ret {id} {Q : AE → Frm → Prop} {f : Frm} : blockK id Q .ret f = Q .ret f := propext Iff.rfl

def retK (r : Option (List AV)) (h : Heap) [K : KH] : Prop := match r with
  | some [v] => K.k v h
  | some l => K.k (.tup l) h
  | none => False
@[go_sem] theorem retK_one {v : AV} {h : Heap} {K : KH} : @retK (some [v]) h K = K.k v h := propext Iff.rfl
@[go_sem] theorem retK_nil {h : Heap} {K : KH} : @retK (some []) h K = K.k (.tup []) h := propext Iff.rfl
@[go_sem] theorem retK_many {v w : AV} {l} {h : Heap} {K : KH} : @retK (some (v :: w :: l)) h K = K.k (.tup (v :: w :: l)) h := propext Iff.rfl
@[go_sem ↓] theorem callK_ret {res : List ResultVar} {Q : AV → Heap → Prop} {s : List AV} {h : Heap} : callK T res Q .ret ⟨s, [], h⟩ = @retK (resultsA T h s res) h ⟨Q⟩ := by
  simp only [callK, takeMarks, retK]; rfl
@[go_sem ↓] theorem callK_normal {res : List ResultVar} {Q : AV → Heap → Prop} {s : List AV} {h : Heap} : callK T res Q .normal ⟨s, [], h⟩ = @retK (resultsA T h s res) h ⟨Q⟩ := by
  simp only [callK, takeMarks, retK]; rfl
attribute [go_sem] resultsA

@[go_sem ↓] theorem WL_nil {all} {s : List AV} {h : Heap} {Q : List AV → Heap → Prop} : WL T F all [] s h Q = Q s h := propext Iff.rfl
@[go_sem ↓] theorem WL_op {all l d op ty pos after} {s : List AV} {h : Heap} {Q : List AV → Heap → Prop} : WL T F all (⟨d, op, ty, pos, after, none⟩ :: l) s h Q = WK T F op s h fun v h' => @SetK (putA s d v) h' ⟨fun s h => WL T F all l s h Q⟩ := by
  simp [WL, wantedA, SetK]
@[go_sem] theorem putA_some {s : List AV} {d : Nat} {v : AV} : putA s (some d) v = s.set d v := rfl
@[go_sem] theorem putA_none {s : List AV} {v : AV} : putA s none v = s := rfl

/-! operations -/
def bindV (r : Option AV) (k : AV → Option (AV × Heap)) : Option (AV × Heap) := match r with | some v => k v | none => none
@[go_sem] theorem bindV_some {v : AV} {k : AV → Option (AV × Heap)} : bindV (some v) k = k v := rfl
def pureV (r : Option AV) (h : Heap) : Option (AV × Heap) := match r with | some v => some (v, h) | none => none
@[go_sem] theorem pureV_some {v : AV} {h : Heap} : pureV (some v) h = some (v, h) := rfl

variable {s : List AV} {h : Heap} {k : AV → Heap → Prop}
@[go_sem] theorem evalO_tmp {t : Nat} : evalO s (.tmp t) = some (s.getD t undefA) := rfl
@[go_sem] theorem evalO_func {f : Nat} : evalO s (.func f) = some (.func (.func f) []) := rfl
@[go_sem] theorem evalO_int {kd n} : evalO s (.const (.int kd n)) = some (.int kd n) := rfl
@[go_sem] theorem evalO_bool {b} : evalO s (.const (.bool b)) = some (.bool b) := rfl
@[go_sem] theorem evalO_str {b} : evalO s (.const (.string b)) = some (.str b.data.toList) := rfl
@[go_sem] theorem evalO_ptr : evalO s (.const (.pointer none)) = some (.ptr none) := rfl
@[go_sem] theorem evalO_slc : evalO s (.const (.slice none 0 0)) = some (.slc none 0 (some 0) 0) := rfl
@[go_sem] theorem evalO_map : evalO s (.const (.map none)) = some (.map none) := rfl
@[go_sem] theorem evalO_nilFn : evalO s (.const .nilFunc) = some .nilFn := rfl
@[go_sem] theorem evalO_nilIface : evalO s (.const .nilIface) = some .nilIface := rfl
attribute [go_sem] List.getD_cons_succ List.getD_cons_zero List.set_cons_succ List.set_cons_zero

@[go_sem] theorem getD_8 {a b c d e f g i : AV} {l : List AV} {n : Nat} {x : AV} : (a :: b :: c :: d :: e :: f :: g :: i :: l).getD (n + 8) x = l.getD n x := rfl
@[go_sem] theorem set_8 {a b c d e f g i : AV} {l : List AV} {n : Nat} {x : AV} : (a :: b :: c :: d :: e :: f :: g :: i :: l).set (n + 8) x = a :: b :: c :: d :: e :: f :: g :: i :: l.set n x := rfl

@[go_sem ↓] theorem WK_move {x} : WK T F (.move x) s h k = @OBk (opA T (evalO s) (.move x) h) ⟨k⟩ := propext Iff.rfl
@[go_sem ↓] theorem WK_assign {x} : WK T F (.assign x) s h k = @OBk (opA T (evalO s) (.assign x) h) ⟨k⟩ := propext Iff.rfl
@[go_sem ↓] theorem WK_binOp {op t x y e} : WK T F (.binOp op t x y e) s h k = @OBk (opA T (evalO s) (.binOp op t x y e) h) ⟨k⟩ := propext Iff.rfl
@[go_sem ↓] theorem WK_unOp {op t x} : WK T F (.unOp op t x) s h k = @OBk (opA T (evalO s) (.unOp op t x) h) ⟨k⟩ := propext Iff.rfl
@[go_sem ↓] theorem WK_convert {a b x} : WK T F (.convert a b x) s h k = @OBk (opA T (evalO s) (.convert a b x) h) ⟨k⟩ := propext Iff.rfl
@[go_sem ↓] theorem WK_extract {x i} : WK T F (.extract x i) s h k = @OBk (opA T (evalO s) (.extract x i) h) ⟨k⟩ := propext Iff.rfl
@[go_sem ↓] theorem WK_alloc {t} : WK T F (.alloc t) s h k = @OBk (opA T (evalO s) (.alloc t) h) ⟨k⟩ := propext Iff.rfl
@[go_sem ↓] theorem WK_box {t x} : WK T F (.box t x) s h k = @OBk (opA T (evalO s) (.box t x) h) ⟨k⟩ := propext Iff.rfl
@[go_sem ↓] theorem WK_build {t x} : WK T F (.build t x) s h k = @OBk (opA T (evalO s) (.build t x) h) ⟨k⟩ := propext Iff.rfl
@[go_sem ↓] theorem WK_buildSlice {t n x} : WK T F (.buildSlice t n x) s h k = @OBk (opA T (evalO s) (.buildSlice t n x) h) ⟨k⟩ := propext Iff.rfl
@[go_sem ↓] theorem WK_load {t x} : WK T F (.load t x) s h k = @OBk (opA T (evalO s) (.load t x) h) ⟨k⟩ := propext Iff.rfl
@[go_sem ↓] theorem WK_store {t x y} : WK T F (.store t x y) s h k = @OBk (opA T (evalO s) (.store t x y) h) ⟨k⟩ := propext Iff.rfl
@[go_sem ↓] theorem WK_nilCheck {x} : WK T F (.nilCheck x) s h k = @OBk (opA T (evalO s) (.nilCheck x) h) ⟨k⟩ := propext Iff.rfl
@[go_sem ↓] theorem WK_makeSlice {t x y} : WK T F (.makeSlice t x y) s h k = @OBk (opA T (evalO s) (.makeSlice t x y) h) ⟨k⟩ := propext Iff.rfl
@[go_sem ↓] theorem WK_slice {t x a b c} : WK T F (.slice t x a b c) s h k = @OBk (opA T (evalO s) (.slice t x a b c) h) ⟨k⟩ := propext Iff.rfl
@[go_sem ↓] theorem WK_fieldAddr {t x f} : WK T F (.fieldAddr t x f) s h k = @OBk (opA T (evalO s) (.fieldAddr t x f) h) ⟨k⟩ := propext Iff.rfl
@[go_sem ↓] theorem WK_field {t x f} : WK T F (.field t x f) s h k = @OBk (opA T (evalO s) (.field t x f) h) ⟨k⟩ := propext Iff.rfl
@[go_sem ↓] theorem WK_indexAddr {t x f} : WK T F (.indexAddr t x f) s h k = @OBk (opA T (evalO s) (.indexAddr t x f) h) ⟨k⟩ := propext Iff.rfl
@[go_sem ↓] theorem WK_index {t x f} : WK T F (.index t x f) s h k = @OBk (opA T (evalO s) (.index t x f) h) ⟨k⟩ := propext Iff.rfl
@[go_sem ↓] theorem WK_pick {c x y} : WK T F (.pick c x y) s h k = @OBk (opA T (evalO s) (.pick c x y) h) ⟨k⟩ := propext Iff.rfl
@[go_sem ↓] theorem WK_makeFunc {c x y} : WK T F (.makeFunc c x y) s h k = @OBk (opA T (evalO s) (.makeFunc c x y) h) ⟨k⟩ := propext Iff.rfl
@[go_sem ↓] theorem WK_makeInterface {t x} : WK T F (.makeInterface t x) s h k = @OBk (opA T (evalO s) (.makeInterface t x) h) ⟨k⟩ := propext Iff.rfl
@[go_sem ↓] theorem WK_builtin {b args ts} : WK T F (.call { callee := .builtin b, args, argTypes := ts }) s h k = @OBk (opA T (evalO s) (.call { callee := .builtin b, args, argTypes := ts }) h) ⟨k⟩ := propext Iff.rfl
def callV (T : TT) (F : Nat → Option Func) (f : Nat) (r : Option (List AV)) (h : Heap) [K : KH] : Prop := match r with
  | some l => (match externO F f l with | some v => K.k v h | none => WF T F f l h K.k)
  | none => False
@[go_sem ↓] theorem WK_callv {f args ts} : WK T F (.call { callee := .value (.func f), args, argTypes := ts }) s h k = @callV T F f (evalAll (evalO s) args.toList) h ⟨k⟩ := by
  simp only [WK, evalO, callV]
  cases evalAll (evalO s) args.toList with
  | none => rfl
  | some l => simp only [List.append_nil]; rfl
attribute [go_sem] opA evalAll evalParts evalOpt

end Go.Am
