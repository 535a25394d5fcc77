import GoSem.Core.Region
import GoSem.Step
import Derived.AtR
import Derived.Laws.Sem
/-
  The abstract machine: the orders in which a region may be carried out.
-/
namespace Go.Am

/-- The edges that bind in any order. -/
def edges (o : Oper) : List Edge := o.after.toList.filter (Region.binds .any)

/-- An order that keeps to a region's edges. -/
def Keeps (ops : Array Oper) (l : List Nat) : Prop :=
  ∀ pre x post, l = pre ++ x :: post → x < ops.size ∧ x ∉ pre ∧ ∀ o, ops[x]? = some o → ∀ e ∈ edges o, e.on ∈ pre

theorem Keeps.nil (ops : Array Oper) : Keeps ops [] := by intro pre x post h; simp at h

theorem Keeps.snoc {ops : Array Oper} {l : List Nat} {y : Nat} (h : Keeps ops l) (h1 : y < ops.size) (h2 : y ∉ l) (h3 : ∀ o, ops[y]? = some o → ∀ e ∈ edges o, e.on ∈ l) : Keeps ops (l ++ [y]) := by
  intro pre x post e
  rcases List.eq_nil_or_concat post with hp | ⟨q, z, hp⟩
  · subst hp
    have := List.append_inj' e rfl
    obtain ⟨rfl, hx⟩ := this
    simp at hx; subst hx
    exact ⟨h1, h2, h3⟩
  · subst hp
    rw [List.concat_eq_append, ← List.cons_append, ← List.append_assoc] at e
    have := List.append_inj' e rfl
    obtain ⟨rfl, hx⟩ := this
    exact h pre x q rfl

def unlisted (n : Nat) (listed : Array Bool) : Nat := (List.range n).countP fun i => !listed.getD i true

theorem countP_lt {n i : Nat} {p q : Nat → Bool} (hi : i < n) (hp : p i = true) (hq : q i = false) (hle : ∀ j, q j = true → p j = true) : (List.range n).countP q < (List.range n).countP p := by
  induction n with
  | zero => omega
  | succ n ih =>
    rw [List.range_succ, List.countP_append, List.countP_append]
    by_cases hin : i = n
    · subst hin
      have h1 : (List.range i).countP q ≤ (List.range i).countP p := List.countP_mono_left (fun j _ => hle j)
      simp [hp, hq]; omega
    · have := ih (by omega)
      have h2 : List.countP q [n] ≤ List.countP p [n] := List.countP_mono_left (fun j _ => hle j)
      omega

theorem lin_go {ops : Array Oper} (hb : ∀ (x : Nat) o, ops[x]? = some o → ∀ e ∈ edges o, e.on < x) : ∀ (fuel t : Nat) (listed : Array Bool) (acc : List Nat), listed.size = ops.size →
    (∀ i, i < ops.size → (listed.getD i true = true ↔ i ∈ acc)) → Keeps ops acc.reverse → (∀ i ∈ acc, i < ops.size) → unlisted ops.size listed ≤ fuel →
    Keeps ops (Region.linearise.go .any ops fuel t listed acc) ∧ ∀ i, i < ops.size → i ∈ Region.linearise.go .any ops fuel t listed acc
  | 0, t, listed, acc, hs, hl, hk, ha, hf => by
    unfold Region.linearise.go
    refine ⟨hk, fun i hi => ?_⟩
    rw [List.mem_reverse, ← hl i hi]
    have h0 : (List.range ops.size).countP (fun i => !listed.getD i true) = 0 := by unfold unlisted at hf; omega
    rw [List.countP_eq_zero] at h0
    have := h0 i (List.mem_range.2 hi)
    simpa using this
  | fuel + 1, t, listed, acc, hs, hl, hk, ha, hf => by
    unfold Region.linearise.go
    simp only
    split
    · rename_i i hri
      have hmem : i ∈ (List.range ops.size).filter fun i => !listed.getD i true && ((ops[i]?).map (·.after.all fun e => !Region.binds .any e || listed.getD e.on false)).getD false := List.mem_of_getElem? hri
      rw [List.mem_filter, List.mem_range] at hmem
      obtain ⟨hi, hcond⟩ := hmem
      simp only [Bool.and_eq_true, Bool.not_eq_true'] at hcond
      obtain ⟨hnl, hpre⟩ := hcond
      have hni : i ∉ acc := fun h => by rw [(hl i hi).2 h] at hnl; cases hnl
      obtain ⟨o, ho⟩ : ∃ o, ops[i]? = some o := ⟨ops[i], Array.getElem?_eq_getElem hi⟩
      rw [ho] at hpre
      simp only [Option.map_some, Option.getD_some] at hpre
      have hedges : ∀ e ∈ edges o, e.on ∈ acc := by
        intro e he
        obtain ⟨he1, h2⟩ := List.mem_filter.1 he
        rw [Array.all_eq_true'] at hpre
        have h1 := hpre e (by simpa using he1)
        have hlt : e.on < ops.size := by have := hb i o ho _ he; omega
        rw [h2] at h1
        simp only [Bool.not_true, Bool.false_or] at h1
        rw [← hl _ hlt]
        rw [Array.getD_eq_getD_getElem?] at h1 ⊢
        cases hq : listed[e.on]? with
        | none => rw [hq] at h1; simp at h1
        | some b => rw [hq] at h1; simpa using h1
      refine lin_go hb fuel _ _ (i :: acc) (by simpa using hs) ?_ ?_ ?_ ?_
      · intro k hk'
        rw [Array.getD_eq_getD_getElem?, Array.getElem?_setIfInBounds]
        by_cases hik : i = k
        · subst hik; simp [hs, hk']
        · rw [if_neg hik, ← Array.getD_eq_getD_getElem?, hl k hk']
          simp
          intro h; exact absurd h.symm hik
      · rw [List.reverse_cons]
        refine hk.snoc hi (by simpa using hni) fun o' ho' e he => ?_
        rw [ho] at ho'; simp at ho'; subst ho'
        simpa using hedges e he
      · intro k hk'
        simp at hk'
        rcases hk' with rfl | hk'
        · exact hi
        · exact ha k hk'
      · have : unlisted ops.size (listed.setIfInBounds i true) < unlisted ops.size listed := by
          unfold unlisted
          refine countP_lt hi (by simp [hnl]) ?_ ?_
          · rw [Array.getD_eq_getD_getElem?, Array.getElem?_setIfInBounds]; simp [hs, hi]
          · intro j hj
            rw [Array.getD_eq_getD_getElem?, Array.getElem?_setIfInBounds] at hj
            rw [Array.getD_eq_getD_getElem?]
            split at hj
            · rename_i hij; subst hij; simp [hs, hi] at hj
            · exact hj
        omega
    · rename_i hrs
      refine ⟨hk, fun i hi => ?_⟩
      rw [List.mem_reverse, ← hl i hi]
      -- none is ready: all are listed, by the least one that is not
      have hnil : ((List.range ops.size).filter fun i => !listed.getD i true && ((ops[i]?).map (·.after.all fun e => !Region.binds .any e || listed.getD e.on false)).getD false) = [] := by
        generalize ((List.range ops.size).filter fun i => !listed.getD i true && ((ops[i]?).map (·.after.all fun e => !Region.binds .any e || listed.getD e.on false)).getD false) = rs at hrs
        cases rs with
        | nil => rfl
        | cons x rs =>
          rw [List.getElem?_eq_none_iff] at hrs
          have := Nat.mod_lt t (show 0 < (x :: rs).length by simp)
          omega
      have hall : ∀ m i, i ≤ m → i < ops.size → listed.getD i true = true := by
        intro m
        induction m with
        | zero =>
          intro i hi0 hi
          refine Decidable.byContradiction fun hn => ?_
          have hmem : i ∈ ((List.range ops.size).filter fun i => !listed.getD i true && ((ops[i]?).map (·.after.all fun e => !Region.binds .any e || listed.getD e.on false)).getD false) := by
            rw [List.mem_filter, List.mem_range]
            refine ⟨hi, ?_⟩
            have ho : ops[i]? = some ops[i] := Array.getElem?_eq_getElem hi
            simp only [Bool.and_eq_true, Bool.not_eq_true', ho, Option.map_some, Option.getD_some]
            refine ⟨by simpa using hn, ?_⟩
            rw [Array.all_eq_true']
            intro e he
            cases hbd : Region.binds .any e with
            | false => simp
            | true =>
              have := hb i _ ho e (List.mem_filter.2 ⟨by simpa using he, hbd⟩)
              omega
          rw [hnil] at hmem; cases hmem
        | succ m ih =>
          intro i hi0 hi
          refine Decidable.byContradiction fun hn => ?_
          have hmem : i ∈ ((List.range ops.size).filter fun i => !listed.getD i true && ((ops[i]?).map (·.after.all fun e => !Region.binds .any e || listed.getD e.on false)).getD false) := by
            rw [List.mem_filter, List.mem_range]
            refine ⟨hi, ?_⟩
            have ho : ops[i]? = some ops[i] := Array.getElem?_eq_getElem hi
            simp only [Bool.and_eq_true, Bool.not_eq_true', ho, Option.map_some, Option.getD_some]
            refine ⟨by simpa using hn, ?_⟩
            rw [Array.all_eq_true']
            intro e he
            cases hbd : Region.binds .any e with
            | false => simp
            | true =>
              have hlt := hb i _ ho e (List.mem_filter.2 ⟨by simpa using he, hbd⟩)
              have := ih e.on (by omega) (by omega)
              rw [Array.getD_eq_getD_getElem?] at this ⊢
              have hsz : e.on < listed.size := by omega
              rw [Array.getElem?_eq_getElem hsz] at this ⊢
              simp only [Option.getD_some] at this ⊢
              rw [this]; simp
          rw [hnil] at hmem; cases hmem
      exact hall i i (Nat.le_refl _) hi

/-- What the machine draws keeps to the edges, and leaves nothing out. -/
theorem schedule_keeps {ops : Array Oper} (hb : ∀ (x : Nat) o, ops[x]? = some o → ∀ e ∈ edges o, e.on < x) (t : Nat) :
    Keeps ops (Region.schedule true ops t) ∧ ∀ i, i < ops.size → i ∈ Region.schedule true ops t := by
  have : Region.schedule true ops t = Region.linearise .any ops t := by
    unfold Region.schedule; simp
  rw [this]
  unfold Region.linearise
  refine lin_go hb _ _ _ _ (by simp) (fun i hi => ?_) (Keeps.nil ops) (by simp) ?_
  · simp [Array.getD_eq_getD_getElem?, hi]
  · unfold unlisted
    have := List.countP_le_length (p := fun i => !(Array.replicate ops.size false).getD i true) (l := List.range ops.size)
    simpa using this

end Go.Am

/-
  The abstract machine: values, heap, operations, evaluator. No program in sight.
-/
namespace Go.Am

/-- Abstract values. A block's address is an abstract number; a slice's capacity is known or not. -/
inductive AV where
  | int (k : IntKind) (n : Int)
  | bool (b : Bool)
  | str (s : List UInt8)
  | ptr (a : Option (Nat × Nat))
  | slc (a : Option (Nat × Nat)) (len : Nat) (cap : Option Nat) (sz : Nat)
  | map (r : Option Nat)
  | func (fn : Fn) (caps : List AV)
  | nilFn
  | iface (t : TypeId) (v : AV)
  | nilIface
  | agg (cs : List AV)
  | tup (vs : List AV)
  deriving Inhabited

def undefA : AV := .tup []

def AV.cells : AV → List AV
  | .agg cs => cs
  | v => [v]

/-- A constant of one cell, as an abstract value. -/
def ofLeaf : Value → Option AV
  | .int k n => some (.int k n)
  | .bool b => some (.bool b)
  | .string s => some (.str s.data.toList)
  | .pointer none => some (.ptr none)
  | .slice none 0 0 => some (.slc none 0 (some 0) 0)
  | .map none => some (.map none)
  | .nilFunc => some .nilFn
  | .nilIface => some .nilIface
  | _ => none

def ofLeafs : List Value → Option (List AV)
  | [] => some []
  | v :: l => match ofLeaf v, ofLeafs l with
    | some a, some m => some (a :: m)
    | _, _ => none

def ofValue : Value → Option AV
  | .agg cs => match ofLeafs cs.toList with
    | some l => some (.agg l)
    | none => none
  | v => ofLeaf v

/-- Kinds of types, as far as they matter. -/
inductive TK where
  | int (k : IntKind) | bool | str | ptr (e : Nat) | slc (e : Nat) | arr (n e : Nat) | map (k e : Nat)
  | strct (fs : List (Bool × Nat × Nat))  -- is it blank, type, offset
  | func | iface | tup | other
  deriving Inhabited, DecidableEq

structure TI where
  kind : TK
  size : Nat
  bytes : Nat
  zero : List AV
  eqOk : Bool := false
  deriving Inhabited

def TK.isAgg : TK → Bool
  | .strct _ | .arr _ _ => true
  | _ => false

/-- A table of types. -/
abbrev TT := Nat → Option TI

structure LoopR where
  state : LoopState
  pending : Option Code
  fn : Nat
  tmps : List AV
  params : List Nat
  assign : Code
  body : Code
  defers : Nat

inductive Blk where
  | cells (cs : List AV) (wr : Bool)
  | map (es : List (AV × AV × Nat)) (clock : Nat)
  | loop (r : LoopR)
  | defers (taken : Bool)

/-- A tree of blocks, by their numbers. -/
inductive HT where
  | nil
  | node (v : Option Blk) (l r : HT)

def HT.get : HT → Nat → Option Blk
  | .nil, _ => none
  | .node v l r, n => if n = 0 then v else if n % 2 = 1 then l.get (n / 2) else r.get (n / 2 - 1)

def HT.put : Nat → HT → Nat → Option Blk → HT
  | 0, t, _, _ => t
  | f + 1, .nil, n, x => if n = 0 then .node x .nil .nil else if n % 2 = 1 then .node none (HT.put f .nil (n / 2) x) .nil else .node none .nil (HT.put f .nil (n / 2 - 1) x)
  | f + 1, .node v l r, n, x => if n = 0 then .node x l r else if n % 2 = 1 then .node v (HT.put f l (n / 2) x) r else .node v l (HT.put f r (n / 2 - 1) x)

theorem HT.get_put : ∀ (f : Nat) (t : HT) (n m : Nat) (x : Option Blk), n < f → (HT.put f t n x).get m = if n = m then x else t.get m
  | 0, t, n, m, x, h => by omega
  | f + 1, t, n, m, x, h => by
    have ih := fun t k => HT.get_put f t k
    cases t with
    | nil =>
      simp only [HT.put]
      split
      · rename_i h0; subst h0
        simp only [HT.get]
        by_cases hm : m = 0
        · subst hm; simp
        · have h0 : ¬ 0 = m := fun e => hm e.symm
          simp [hm, h0]

      · split
        · simp only [HT.get]
          by_cases hm : m = 0
          · subst hm; rename_i h0 _; simp [h0]
          · rw [if_neg hm]
            split
            · rw [ih _ _ _ _ (by omega)]
              by_cases he : n / 2 = m / 2
              · rw [if_pos he, if_pos (by omega)]
              · rw [if_neg he, if_neg (by omega)]; rfl
            · rw [if_neg (by omega)]
        · simp only [HT.get]
          by_cases hm : m = 0
          · subst hm; rename_i h0 _; simp [h0]
          · rw [if_neg hm]
            split
            · rw [if_neg (by omega)]
            · rw [ih _ _ _ _ (by omega)]
              by_cases he : n / 2 - 1 = m / 2 - 1
              · rw [if_pos he, if_pos (by omega)]
              · rw [if_neg he, if_neg (by omega)]; rfl
    | node v l r =>
      simp only [HT.put]
      split
      · rename_i h0; subst h0
        simp only [HT.get]
        by_cases hm : m = 0
        · subst hm; simp
        · have h0 : ¬ 0 = m := fun e => hm e.symm
          simp [hm, h0]

      · split
        · simp only [HT.get]
          by_cases hm : m = 0
          · subst hm; rename_i h0 _; simp [h0]
          · rw [if_neg hm, if_neg hm]
            split
            · rw [ih _ _ _ _ (by omega)]
              by_cases he : n / 2 = m / 2
              · rw [if_pos he, if_pos (by omega)]
              · rw [if_neg he, if_neg (by omega)]
            · rw [if_neg (by omega)]
        · simp only [HT.get]
          by_cases hm : m = 0
          · subst hm; rename_i h0 _; simp [h0]
          · rw [if_neg hm, if_neg hm]
            split
            · rw [if_neg (by omega)]
            · rw [ih _ _ _ _ (by omega)]
              by_cases he : n / 2 - 1 = m / 2 - 1
              · rw [if_pos he, if_pos (by omega)]
              · rw [if_neg he, if_neg (by omega)]

structure Heap where
  nxt : Nat
  l : HT

def Heap.get (h : Heap) (b : Nat) : Option Blk := h.l.get b
def Heap.put (h : Heap) (b : Nat) (x : Blk) : Heap := ⟨h.nxt, HT.put (b + 1) h.l b (some x)⟩
def Heap.del (h : Heap) (b : Nat) : Heap := ⟨h.nxt, HT.put (b + 1) h.l b none⟩
def Heap.add (h : Heap) (x : Blk) : Heap := ⟨h.nxt + 1, HT.put (h.nxt + 1) h.l h.nxt (some x)⟩

@[simp] theorem Heap.put_nxt (h : Heap) (b x) : (h.put b x).nxt = h.nxt := rfl
@[simp] theorem Heap.del_nxt (h : Heap) (b) : (h.del b).nxt = h.nxt := rfl
@[simp] theorem Heap.add_nxt (h : Heap) (x) : (h.add x).nxt = h.nxt + 1 := rfl
theorem Heap.get_put (h : Heap) (b c x) : (h.put b x).get c = if b = c then some x else h.get c := HT.get_put _ _ _ _ _ (Nat.lt_succ_self b)
theorem Heap.get_del (h : Heap) (b c) : (h.del b).get c = if b = c then none else h.get c := HT.get_put _ _ _ _ _ (Nat.lt_succ_self b)
theorem Heap.get_add (h : Heap) (c x) : (h.add x).get c = if h.nxt = c then some x else h.get c := HT.get_put _ _ _ _ _ (Nat.lt_succ_self _)

def setCells : List AV → Nat → List AV → List AV
  | cs, _, [] => cs
  | cs, o, v :: vs => setCells (cs.set o v) (o + 1) vs

def AV.leaf : AV → Bool
  | .agg _ | .tup _ => false
  | _ => true

def loadCells (h : Heap) (b o n : Nat) : Option (List AV) :=
  match h.get b with
  | some (.cells cs _) => if o + n ≤ cs.length then some ((cs.drop o).take n) else none
  | _ => none

def loadVar (T : TT) (h : Heap) (t : Nat) (b o : Nat) : Option AV :=
  match T t with
  | some ti =>
    if ti.kind.isAgg then (match loadCells h b o ti.size with | some l => some (.agg l) | none => none)
    else match h.get b with
      | some (.cells cs _) => cs[o]?
      | _ => none
  | none => none

def storeCells (h : Heap) (b o : Nat) (vs : List AV) : Option Heap :=
  match h.get b with
  | some (.cells cs true) => if o + vs.length ≤ cs.length ∧ vs.all AV.leaf = true then some (h.put b (.cells (setCells cs o vs) true)) else none
  | _ => none

/-- No cells: nothing is stored, wherever it be. -/
def storeVar (T : TT) (h : Heap) (t : Nat) (b o : Nat) (v : AV) : Option Heap :=
  match T t with
  | some ti => if v.cells.length = ti.size then storeCells h b o v.cells else none
  | none => none

def part (T : TT) (t : Nat) (cs : List AV) (off : Nat) : Option AV :=
  match T t with
  | some ti =>
    if ti.kind.isAgg then (if off + ti.size ≤ cs.length then some (.agg ((cs.drop off).take ti.size)) else none)
    else cs[off]?
  | none => none

/-! ### operations on numbers, strings, .. -/
def intOp (op : BinOp) (k : IntKind) (x y : Int) : Option AV :=
  match op with
  | .add => some (.int k (k.wrap (x + y)))
  | .sub => some (.int k (k.wrap (x - y)))
  | .mul => some (.int k (k.wrap (x * y)))
  | .quo => if y = 0 then none else some (.int k (k.wrap (x.tdiv y)))
  | .rem => if y = 0 then none else some (.int k (x.tmod y))
  | .and => some (.int k (k.wrap (BitVec.ofInt k.bits x &&& BitVec.ofInt k.bits y).toNat))
  | .or => some (.int k (k.wrap (BitVec.ofInt k.bits x ||| BitVec.ofInt k.bits y).toNat))
  | .xor => some (.int k (k.wrap (BitVec.ofInt k.bits x ^^^ BitVec.ofInt k.bits y).toNat))
  | .andNot => some (.int k (k.wrap (BitVec.ofInt k.bits x &&& ~~~(BitVec.ofInt k.bits y)).toNat))
  | .eql => some (.bool (x == y))
  | .neq => some (.bool (x != y))
  | .lss => some (.bool (x < y))
  | .leq => some (.bool (x ≤ y))
  | .gtr => some (.bool (x > y))
  | .geq => some (.bool (x ≥ y))
  | _ => none

def shiftOp (op : BinOp) (k : IntKind) (x y : Int) : Option AV :=
  if y < 0 then none else
    match op with
    | .shl => some (.int k (k.wrap (x * 2 ^ (min y.toNat k.bits))))
    | .shr => some (.int k (x.fdiv (2 ^ (min y.toNat k.bits))))
    | _ => none

def strOp (op : BinOp) (x y : List UInt8) : Option AV :=
  match op with
  | .add => if ((x.length + y.length : Nat) : Int) > 9223372036854775807 then none else some (.str (x ++ y))
  | .eql => some (.bool (x == y))
  | .neq => some (.bool !(x == y))
  | .lss => some (.bool (Op.bytesLess x y))
  | .leq => some (.bool (Op.bytesLess x y || x == y))
  | .gtr => some (.bool !(Op.bytesLess x y || x == y))
  | .geq => some (.bool !(Op.bytesLess x y))
  | _ => none

/-- Are the fields alike, one by one? -/
def eqFs (T : TT) (eq : Nat → AV → AV → Option Bool) (xs ys : List AV) : List (Bool × Nat × Nat) → Option Bool
  | [] => some true
  | (blank, ft, off) :: fs =>
    if blank then eqFs T eq xs ys fs else
    match part T ft xs off, part T ft ys off with
    | some a, some b => (match eq ft a b with
      | some true => eqFs T eq xs ys fs
      | some false => some false
      | none => none)
    | _, _ => none

/-- Are two values of a type alike? (none: this machine does not say.) n: how deep. -/
def eqv (T : TT) : Nat → Nat → AV → AV → Option Bool
  | 0, _, _, _ => none
  | d + 1, t, x, y =>
    match T t with
    | none => none
    | some ti =>
      match ti.kind, x, y with
      | .bool, .bool a, .bool b => some (a == b)
      | .int _, .int k a, .int k' b => if k = k' then some (a == b) else none
      | .str, .str a, .str b => some (a == b)
      | .ptr _, .ptr none, .ptr b => some b.isNone
      | .ptr _, .ptr (some _), .ptr none => some false
      | .slc _, .slc none _ _ _, .slc b _ _ _ => some b.isNone
      | .slc _, .slc (some _) _ _ _, .slc none _ _ _ => some false
      | .map _ _, .map none, .map b => some b.isNone
      | .map _ _, .map (some _), .map none => some false
      | .func, .nilFn, .nilFn => some true
      | .func, .nilFn, .func _ _ => some false
      | .func, .func _ _, .nilFn => some false
      | .strct fs, .agg xs, .agg ys =>
        if ti.eqOk then eqFs T (fun t a b => eqv T d t a b) xs ys fs else none
      | _, _, _ => none

def eqDepth : Nat := 20

def binOpA (T : TT) (op : BinOp) (t : Nat) (x y : AV) : Option AV :=
  match x, y with
  | .int k a, .int k' b =>
    if op = .shl ∨ op = .shr then shiftOp op k a b
    else if k = k' then intOp op k a b else none
  | .str a, .str b => strOp op a b
  | x, y =>
    match op with
    | .eql => (match eqv T eqDepth t x y with | some b => some (.bool b) | none => none)
    | .neq => (match eqv T eqDepth t x y with | some b => some (.bool !b) | none => none)
    | _ => none

def unOpA (op : UnOp) (x : AV) : Option AV :=
  match op, x with
  | .neg, .int k n => some (.int k (k.wrap (0 - n)))
  | .not, .bool b => some (.bool !b)
  | _, _ => none

def sbound (x : AV) (y : Nat) : Option Nat :=
  match x with
  | .int _ i => if 0 ≤ i ∧ i ≤ y then some i.toNat else none
  | _ => none

/-- low, high of a slicing; what is beyond the length is not known. -/
def sbounds (len : Nat) (lo hi : Option AV) : Option (Nat × Nat) :=
  match (match hi with | some v => sbound v len | none => some len) with
  | none => none
  | some h => match (match lo with | some v => sbound v h | none => some 0) with
    | none => none
    | some l => some (l, h)

def sliceA (T : TT) (t : Nat) (x : AV) (lo hi mx : Option AV) : Option AV :=
  match T t with
  | none => none
  | some ti =>
    match ti.kind, x with
    | .str, .str s =>
      (match mx with
      | some _ => none
      | none => match sbounds s.length lo hi with
        | some (l, h) => some (.str ((s.drop l).take (h - l)))
        | none => none)
    | .slc e, .slc a len cap sz =>
      (match T e with
      | none => none
      | some te =>
        if a.isSome && sz != te.size then none else
        match mx with
        | none =>
          (match sbounds (match cap with | some c => (if hi.isSome then c else len) | none => len) lo hi with
          | none => none
          | some (l, h) =>
            match cap with
            | some c => if l ≤ c ∧ h ≤ c then some (.slc (if c = l then a else a.map fun p => (p.1, p.2 + l * te.size)) (h - l) (some (c - l)) sz) else none
            | none => some (.slc (a.map fun p => (p.1, p.2 + l * te.size)) (h - l) none sz))
        | some m =>
          match sbound m len with
          | none => none
          | some m => match sbounds m lo hi with
            | none => none
            | some (l, h) => if hi.isSome then some (.slc (if m = l then a else a.map fun p => (p.1, p.2 + l * te.size)) (h - l) (some (m - l)) sz) else none)
    | _, _ => none

/-- Parts of a whole that is built: place by place. -/
def fillA (place : Nat → Option (Nat × Nat)) : List AV → List (Nat × AV) → Option (List AV)
  | cs, [] => some cs
  | cs, (i, v) :: rest =>
    match place i with
    | none => none
    | some (off, size) =>
      if v.cells.length = size ∧ off + size ≤ cs.length then fillA place (setCells cs off v.cells) rest else none

def zeroRow (zero : List AV) (n : Nat) : List AV := (List.range n).map fun i => zero.getD (i % zero.length) undefA

def buildA (T : TT) (t : Nat) (parts : List (Nat × AV)) : Option AV :=
  match T t with
  | none => none
  | some ti =>
    match ti.kind with
    | .strct fs =>
      (match fillA (fun i => match fs[i]? with
          | some (_, ft, off) => (match T ft with | some fi => some (off, fi.size) | none => none)
          | none => none) ti.zero parts with
      | some cs => some (.agg cs)
      | none => none)
    | .arr _ e =>
      (match T e with
      | none => none
      | some te => match fillA (fun i => some (i * te.size, te.size)) ti.zero parts with
        | some cs => some (.agg cs)
        | none => none)
    | _ => none

def buildSliceA (T : TT) (t : Nat) (len : Nat) (parts : List (Nat × AV)) (h : Heap) : Option (AV × Heap) :=
  match T t with
  | none => none
  | some ti =>
    match ti.kind with
    | .slc e =>
      (match T e with
      | none => none
      | some te =>
        if len * te.size > 16777216 then none else
        match fillA (fun i => some (i * te.size, te.size)) (zeroRow te.zero (len * te.size)) parts with
        | some cs => some (.slc (some (h.nxt, 0)) len (some len) te.size, h.add (.cells cs true))
        | none => none)
    | _ => none

def makeSliceA (T : TT) (t : Nat) (l c : AV) (h : Heap) : Option (AV × Heap) :=
  match T t, l, c with
  | some ti, .int _ l, .int _ c =>
    (match ti.kind with
    | .slc e =>
      (match T e with
      | none => none
      | some te =>
        if 0 ≤ l ∧ l ≤ c ∧ c ≤ 1073741824 ∧ te.bytes * c ≤ 140737488355328 then
          some (.slc (some (h.nxt, 0)) l.toNat (some c.toNat) te.size, h.add (.cells (zeroRow te.zero (c.toNat * te.size)) true))
        else none)
    | _ => none)
  | _, _, _ => none

/-- What is appended: how many elements, and their cells. -/
def comes (size : Nat) (x : AV) (h : Heap) : Option (Nat × List AV) :=
  match x with
  | .slc (some (b, o)) n _ sz => if sz ≠ size then none else if n = 0 then some (0, []) else (match loadCells h b o (n * size) with | some l => if l.all AV.leaf then some (n, l) else none | none => none)
  | .slc none n _ _ => if n = 0 then some (0, []) else none
  | .str s => if size = 1 then some (s.length, s.map fun b => .int .u8 b.toNat) else none
  | _ => none

def roomA : Nat := 35184372088832  -- 2^45

def appendA (T : TT) (t : Nat) (s x : AV) (h : Heap) : Option (AV × Heap) :=
  match T t, s with
  | some ti, .slc base n cap sz =>
    (match ti.kind with
    | .slc e =>
      (match T e with
      | none => none
      | some te =>
        if base.isSome && sz != te.size then none else
        match comes te.size x h with
        | none => none
        | some (k, new) =>
          if n + k > roomA ∨ te.bytes = 0 ∨ te.bytes > 1048576 ∨ (n + k) * te.bytes > roomA then none else
          match cap with
          | some c =>
            if n + k ≤ c then
              (match base with
              | none => if new = [] then some (.slc base (n + k) (some c) sz, h) else none
              | some (b, o) =>
                match new with
                | [] => some (.slc base (n + k) (some c) sz, h)
                | _ :: _ => match storeCells h b (o + n * te.size) new with
                  | some h' => some (.slc base (n + k) (some c) sz, h')
                  | none => none)
            else
              (match base with
              | none => if n = 0 then some (.slc (some (h.nxt, 0)) k none te.size, h.add (.cells new true)) else none
              | some (b, o) =>
                if n = 0 then some (.slc (some (h.nxt, 0)) k none te.size, h.add (.cells new true)) else
                match loadCells h b o (n * te.size) with
                | some old => some (.slc (some (h.nxt, 0)) (n + k) none te.size, h.add (.cells (old ++ new) true))
                | none => none)
          | none =>
            if k = 0 then some (.slc base n none sz, h) else
            match base with
            | none => none
            | some (b, o) =>
              match h.get b with
              | some (.cells cs true) =>
                if o + n * te.size ≤ cs.length then some (.slc (some (h.nxt, 0)) (n + k) none te.size, (h.del b).add (.cells ((cs.drop o).take (n * te.size) ++ new) true)) else none
              | _ => none)
    | _ => none)
  | _, _ => none

/-- Zeros, appended to nothing. -/
def appendZ (T : TT) (t : Nat) (s x : AV) (h : Heap) : Option (AV × Heap) :=
  match T t, s, x with
  | some ti, .slc base 0 (some 0) sz, .int _ m =>
    (match ti.kind with
    | .slc e =>
      (match T e with
      | none => none
      | some te =>
        if base.isSome && sz != te.size then none else
        if m = 0 then some (.slc base 0 (some 0) sz, h) else
        if 0 < m ∧ m ≤ 16777216 ∧ te.bytes ≠ 0 ∧ te.bytes ≤ 1048576 ∧ 0 < te.size then
          some (.slc (some (h.nxt, 0)) m.toNat none te.size, h.add (.cells (zeroRow te.zero (m.toNat * te.size)) true))
        else none)
    | _ => none)
  | _, _, _ => none

def copyA (T : TT) (t : Nat) (d x : AV) (h : Heap) : Option (AV × Heap) :=
  match T t, d with
  | some ti, .slc base n _ sz =>
    (match ti.kind with
    | .slc e =>
      (match T e with
      | none => none
      | some te =>
        match comes te.size x h with
        | none => none
        | some (k, new) =>
          if base.isSome && sz != te.size then none else
          let m := min k n
          match base, new.take (m * te.size) with
          | _, [] => some (.int .i64 m, h)
          | some (b, o), l => (match storeCells h b o l with
            | some h' => some (.int .i64 m, h')
            | none => none)
          | none, _ => none)
    | _ => none)
  | _, _ => none

def lenA (T : TT) (t : Nat) (x : AV) (h : Heap) : Option AV :=
  match T t with
  | none => none
  | some ti =>
    match ti.kind, x with
    | .str, .str s => some (.int .i64 s.length)
    | .arr n _, _ => some (.int .i64 n)
    | .slc _, .slc _ n _ _ => some (.int .i64 n)
    | .map _ _, .map none => some (.int .i64 0)
    | .map _ _, .map (some r) => (match h.get r with | some (.map es _) => some (.int .i64 es.length) | _ => none)
    | _, _ => none

def minA : AV → List AV → Option AV
  | x, [] => some x
  | .int k x, .int _ y :: l => minA (.int k (if y < x then y else x)) l
  | _, _ => none

def maxA : AV → List AV → Option AV
  | x, [] => some x
  | .int k x, .int _ y :: l => maxA (.int k (if y > x then y else x)) l
  | _, _ => none

/-! maps: keys are numbers, strings, bools -/
def keyEq : TK → AV → AV → Option Bool
  | .int _, .int k a, .int k' b => if k = k' then some (a == b) else none
  | .str, .str a, .str b => some (a == b)
  | .bool, .bool a, .bool b => some (a == b)
  | _, _, _ => none

def findA (ki : TK) (k : AV) : List (AV × AV × Nat) → Nat → Option (Option (Nat × AV × Nat))
  | [], _ => some none
  | e :: es, i => match keyEq ki k e.1 with
    | some true => some (some (i, e.2))
    | some false => findA ki k es (i + 1)
    | none => none

def zeroOf (T : TT) (t : Nat) : Option AV :=
  match T t with
  | some ti => if ti.kind.isAgg then some (.agg ti.zero) else (match ti.zero with | [v] => some v | _ => none)
  | none => none

def entriesA (x : AV) (h : Heap) : Option (List (AV × AV × Nat)) :=
  match x with
  | .map none => some []
  | .map (some r) => (match h.get r with | some (.map es _) => some es | _ => none)
  | _ => none

/-- The kind of a map type's keys, its elements' type. -/
def mapTypes (T : TT) (t : Nat) : Option (TK × Nat) :=
  match T t with
  | some ti => (match ti.kind with
    | .map kt et => (match T kt with
      | some ki => (match ki.kind with
        | .int k => some (.int k, et)
        | .str => some (.str, et)
        | .bool => some (.bool, et)
        | _ => none)
      | none => none)
    | _ => none)
  | none => none

def lookupA (T : TT) (t : Nat) (x k : AV) (ok : Bool) (h : Heap) : Option AV :=
  match mapTypes T t, entriesA x h with
  | some (ki, et), some es =>
    (match findA ki k es 0 with
    | some (some (_, v, _)) => some (if ok then .tup [v, .bool true] else v)
    | some none => (match zeroOf T et with
      | some z => some (if ok then .tup [z, .bool false] else z)
      | none => none)
    | none => none)
  | _, _ => none

def mapUpdateA (T : TT) (t : Nat) (m k x : AV) (h : Heap) : Option Heap :=
  match mapTypes T t, m with
  | some (ki, _), .map (some r) =>
    (match h.get r with
    | some (.map es clock) =>
      (match findA ki k es 0 with
      | some (some (i, _, b)) => some (h.put r (.map (es.set i (k, x, b)) clock))
      | some none => some (h.put r (.map (es ++ [(k, x, clock)]) (clock + 1)))
      | none => none)
    | _ => none)
  | _, _ => none

/-- The bytes of u8 cells. -/
def bytesOf : List AV → Option (List UInt8)
  | [] => some []
  | .int .u8 n :: l => (match bytesOf l with | some m => some (UInt8.ofNat n.toNat :: m) | none => none)
  | _ => none

def convA (T : TT) (src dst : Nat) (x : AV) (h : Heap) : Option (AV × Heap) :=
  match T src, T dst with
  | some s, some d =>
    (match s.kind, d.kind, x with
    | _, .int k, .int _ n => some (.int k (k.wrap n), h)
    | _, .str, .str l => some (.str l, h)
    | _, .slc e, .str l =>
      (match T e with
      | some te => if te.kind = .int .u8 then some (.slc (some (h.nxt, 0)) l.length none 1, h.add (.cells (l.map fun b => .int .u8 b.toNat) true)) else none
      | none => none)
    | .slc e, .str, .slc a n _ _ =>
      (match T e with
      | some te =>
        if te.kind = .int .u8 then
          (match a with
          | none => some (.str [], h)
          | some (b, o) => if n = 0 then some (.str [], h) else match loadCells h b o n with
            | some l => (match bytesOf l with | some m => some (.str m, h) | none => none)
            | none => none)
        else none
      | none => none)
    | _, _, _ => none)
  | _, _ => none

def builtinA (T : TT) (b : Builtin) (ts : List Nat) (args : List AV) (h : Heap) : Option (AV × Heap) :=
  match b, ts, args with
  | .append, t :: u :: _, [s, x] => (match T u with | some ui => (match ui.kind with | .int _ => appendZ T t s x h | _ => appendA T t s x h) | none => none)
  | .copy, t :: _, [d, x] => copyA T t d x h
  | .cap, t :: _, [.slc _ _ (some c) _] => (match T t with | some ti => (match ti.kind with | .slc _ => some (.int .i64 c, h) | _ => none) | none => none)
  | .len, t :: _, [x] => (match lenA T t x h with | some v => some (v, h) | none => none)
  | .min, _, x :: l => (match minA x l with | some v => some (v, h) | none => none)
  | .max, _, x :: l => (match maxA x l with | some v => some (v, h) | none => none)
  | _, _, _ => none

/-- Functions that the model answers itself. -/
def externA (fn : Func) (args : List AV) : Option AV :=
  if fn.body.isNone && fn.name == "internal/bytealg.IndexByteString" && fn.origin == "" then
    (match args with
    | [.str s, .int .u8 c] => some (.int .i64 (match (List.range s.length).find? fun i => s.getD i 0 == c.toNat.toUInt8 with | some i => (i : Int) | none => -1))
    | _ => none)
  else none

def externO (F : Nat → Option Func) (g : Nat) (args : List AV) : Option AV :=
  match F g with
  | some fn => externA fn args
  | none => none

def evalAll (ρ : Operand → Option AV) : List Operand → Option (List AV)
  | [] => some []
  | x :: l => match ρ x, evalAll ρ l with
    | some v, some m => some (v :: m)
    | _, _ => none

def evalParts (ρ : Operand → Option AV) : List (Nat × Operand) → Option (List (Nat × AV))
  | [] => some []
  | (i, x) :: l => match ρ x, evalParts ρ l with
    | some v, some m => some ((i, v) :: m)
    | _, _ => none

def evalOpt (ρ : Operand → Option AV) : Option Operand → Option (Option AV)
  | none => some none
  | some x => match ρ x with
    | some v => some (some v)
    | none => none

/-- An operation that calls no function. ρ: what operands are worth. -/
def opA (T : TT) (ρ : Operand → Option AV) (op : Op) (h : Heap) : Option (AV × Heap) :=
  match op with
  | .move x | .assign x => (match ρ x with | some v => some (v, h) | none => none)
  | .pick c a b => (match ρ c with
    | some (.bool true) => (match ρ a with | some v => some (v, h) | none => none)
    | some (.bool false) => (match ρ b with | some v => some (v, h) | none => none)
    | _ => none)
  | .alloc t => (match T t with | some ti => some (.ptr (some (h.nxt, 0)), h.add (.cells ti.zero true)) | none => none)
  | .box _ x => (match ρ x with | some v => if v.cells.all AV.leaf then some (.ptr (some (h.nxt, 0)), h.add (.cells v.cells true)) else none | none => none)
  | .build t ps => (match evalParts ρ ps.toList with | some l => (match buildA T t l with | some v => some (v, h) | none => none) | none => none)
  | .buildSlice t n ps => (match evalParts ρ ps.toList with | some l => buildSliceA T t n l h | none => none)
  | .load t a => (match ρ a with | some (.ptr (some (b, o))) => (match loadVar T h t b o with | some v => some (v, h) | none => none) | _ => none)
  | .store t a x => (match ρ a, ρ x with | some (.ptr (some (b, o))), some v => (match storeVar T h t b o v with | some h' => some (undefA, h') | none => none) | _, _ => none)
  | .nilCheck x => (match ρ x with | some (.ptr (some a)) => some (.ptr (some a), h) | some (.func f c) => some (.func f c, h) | _ => none)
  | .binOp op t x y _ => (match ρ x, ρ y with | some a, some b => (match binOpA T op t a b with | some v => some (v, h) | none => none) | _, _ => none)
  | .unOp op _ x => (match ρ x with | some a => (match unOpA op a with | some v => some (v, h) | none => none) | none => none)
  | .convert s d x => (match ρ x with | some a => convA T s d a h | none => none)
  | .makeInterface t x => (match T t, ρ x with | some ti, some v => if ti.kind = .iface then none else some (.iface t v, h) | _, _ => none)
  | .makeFunc fn first cap =>
    (match fn with
    | .func f => if first.size = 0 then (match evalAll ρ cap.toList with | some l => some (.func (.func f) l, h) | none => none) else none
    | _ => none)
  | .makeSlice t l c => (match ρ l, ρ c with | some a, some b => makeSliceA T t a b h | _, _ => none)
  | .slice t x lo hi mx =>
    (match ρ x, evalOpt ρ lo, evalOpt ρ hi, evalOpt ρ mx with
    | some v, some l, some g, some m => (match sliceA T t v l g m with | some r => some (r, h) | none => none)
    | _, _, _, _ => none)
  | .fieldAddr t x f =>
    (match T t, ρ x with
    | some ti, some (.ptr (some (b, o))) =>
      (match ti.kind with
      | .strct fs => (match fs[f]? with
        | some (_, ft, off) => (match T ft with | some fi => if fi.size = 0 then none else some (.ptr (some (b, o + off)), h) | none => none)
        | none => none)
      | _ => none)
    | _, _ => none)
  | .field t x f =>
    (match T t, ρ x with
    | some ti, some (.agg cs) =>
      (match ti.kind with
      | .strct fs => (match fs[f]? with
        | some (_, ft, off) => (match part T ft cs off with | some v => some (v, h) | none => none)
        | none => none)
      | _ => none)
    | _, _ => none)
  | .indexAddr t x ix =>
    (match T t, ρ x, ρ ix with
    | some ti, some v, some (.int _ i) =>
      (match ti.kind, v with
      | .slc e, .slc (some (b, o)) n _ sz => (match T e with | some te => if 0 ≤ i ∧ i < n ∧ sz = te.size then some (.ptr (some (b, o + i.toNat * te.size)), h) else none | none => none)
      | .arr n e, .ptr (some (b, o)) => (match T e with | some te => if 0 ≤ i ∧ i < n then some (.ptr (some (b, o + i.toNat * te.size)), h) else none | none => none)
      | _, _ => none)
    | _, _, _ => none)
  | .index t x ix =>
    (match T t, ρ x, ρ ix with
    | some ti, some v, some (.int _ i) =>
      (match ti.kind, v with
      | .arr n e, .agg cs => (match T e with | some te => if 0 ≤ i ∧ i < n then (match part T e cs (i.toNat * te.size) with | some v => some (v, h) | none => none) else none | none => none)
      | .str, .str s => if 0 ≤ i then (match s[i.toNat]? with | some b => some (.int .u8 b.toNat, h) | none => none) else none
      | _, _ => none)
    | _, _, _ => none)
  | .makeMap t r => (match T t, evalOpt ρ r with
    | some ti, some r => (match ti.kind, r with
      | .map _ _, none => some (.map (some h.nxt), h.add (.map [] 0))
      | .map _ _, some (.int _ _) => some (.map (some h.nxt), h.add (.map [] 0))
      | _, _ => none)
    | _, _ => none)
  | .lookup t x k ok => (match ρ x, ρ k with
    | some a, some b => (match lookupA T t a b ok h with | some v => some (v, h) | none => none)
    | _, _ => none)
  | .mapUpdate t m k x => (match ρ m, ρ k, ρ x with
    | some a, some b, some c => (match mapUpdateA T t a b c h with | some h' => some (undefA, h') | none => none)
    | _, _, _ => none)
  | .extract x i => (match ρ x with | some (.tup vs) => (match vs[i]? with | some v => some (v, h) | none => none) | _ => none)
  | .call c => (match c.callee with
    | .builtin b => (match evalAll ρ c.args.toList with | some l => builtinA T b c.argTypes.toList l h | none => none)
    | _ => none)
  | _ => none

/-! ### Code -/
inductive AE where
  | normal | exit (id : Nat) | ret
  deriving Inhabited

def evalO (s : List AV) : Operand → Option AV
  | .tmp t => some (s.getD t undefA)
  | .const v => ofValue v
  | .global _ => none
  | .func f => some (.func (.func f) [])

def putA (s : List AV) (d : Option Nat) (v : AV) : List AV :=
  match d with
  | some d => s.set d v
  | none => s

/-- Is an operation to be carried out? -/
def wantedA (o : Oper) (ops : List Oper) (s : List AV) : Bool :=
  match o.guard with
  | none => true
  | some (j, want) => match ops[j]? with
    | some g => (match g.dst with
      | some d => (match s[d]? with | some (.bool b) => b == want | _ => false)
      | none => false)
    | none => false

/-! ### Regions whose order is drawn -/
mutual
def AV.eqb : AV → AV → Bool
  | .int k a, .int l b => k == l && a == b
  | .bool a, .bool b => a == b
  | .str a, .str b => a == b
  | .ptr a, .ptr b => a == b
  | .slc a n c s, .slc a' n' c' s' => a == a' && n == n' && c == c' && s == s'
  | .map a, .map b => a == b
  | .func f l, .func g m => f == g && eqbs l m
  | .nilFn, .nilFn => true
  | .iface t x, .iface u y => t == u && AV.eqb x y
  | .nilIface, .nilIface => true
  | .agg l, .agg m => eqbs l m
  | .tup l, .tup m => eqbs l m
  | _, _ => false
def eqbs : List AV → List AV → Bool
  | [], [] => true
  | a :: l, b :: m => AV.eqb a b && eqbs l m
  | _, _ => false
end

/-- Kinds of operations: what changes or calls; what makes something new; what reads and reckons, no more. -/
inductive DK where
  | eff | new | quiet | no
  deriving DecidableEq

def dkind (T : TT) : Op → DK
  | .alloc _ | .box .. | .buildSlice .. | .makeSlice .. => .new
  | .store .. | .makeMap .. | .mapUpdate .. => .eff
  | .call { callee := .value _, .. } => .eff
  | .call { callee := .builtin b, .. } => (match b with | .len | .cap | .min | .max => .quiet | .append | .copy => .eff | _ => .no)
  | .convert _ d _ => (match T d with
    | some b => (match b.kind with
      | .slc _ => .eff
      | _ => .quiet)
    | none => .no)
  | .move _ | .assign _ | .pick .. | .build .. | .load .. | .nilCheck _ | .binOp .. | .unOp .. | .makeInterface .. | .makeFunc .. | .slice .. | .fieldAddr .. | .field ..
  | .indexAddr .. | .index .. | .extract .. | .lookup .. => .quiet
  | _ => .no

def tmpsOf (l : List Operand) : List Nat := l.filterMap fun | .tmp t => some t | _ => none

/-- The temporaries that an operation looks at. -/
def readsOf (ops : List Oper) (o : Oper) : List Nat :=
  (match o.guard with
  | some (j, _) => (match ops[j]? with | some g => g.dst.toList | none => [])
  | none => []) ++ tmpsOf o.op.operands.toList

def clash (T : TT) (ops : List Oper) (a b : Oper) : Bool :=
  (match a.dst with | some d => (readsOf ops b).contains d || b.dst == some d | none => false) ||
  (match b.dst with | some d => (readsOf ops a).contains d | none => false) ||
  (dkind T a.op == .eff && dkind T b.op == .eff)

/-- Which operations are always ahead of which: bits. -/
def befores : List Oper → List Nat → List Nat
  | [], acc => acc
  | o :: l, acc => befores l (acc ++ [(edges o).foldl (fun s e => s ||| 2 ^ e.on ||| acc.getD e.on 0) 0])

/-- May a region that draws be carried out in the text's order? -/
def drawOk (T : TT) (ops : Array Oper) : Bool :=
  (ops.toList.zipIdx.all fun (o, i) => (edges o).all (fun e => decide (e.on < i)) && dkind T o.op != .no) &&
  (let bf := befores ops.toList []
   ops.toList.zipIdx.all fun (b, j) => ops.toList.zipIdx.all fun (a, i) => !decide (i < j) || (bf.getD j 0).testBit i || !clash T ops.toList a b)

/-- What is newly made: its value, its block; id: its number. -/
def allocA (T : TT) (ρ : Operand → Option AV) (op : Op) (id : Nat) : Option (AV × Blk) :=
  match opA T ρ op ⟨id, .nil⟩ with
  | some (v, h) => (match h.get id with | some b => some (v, b) | none => none)
  | none => none

def putsA (base : Nat) : List (Nat × Blk) → Heap → Heap
  | [], h => h
  | (i, b) :: l, h => putsA base l (h.put (base + i) b)

/-- A heap with what was newly made and is needed (b), where it is not yet put in (msk). -/
def heapFor (base : Nat) (nb : List (Nat × Blk)) (b msk : Nat) (h : Heap) : Heap :=
  putsA base (nb.filter fun p => b.testBit p.1 && !msk.testBit p.1) h

/-- Such a region, in the text's order: slots ahead of each operation; heaps behind each that changes something, each with what was put in; what is newly made. -/
structure DSt where
  ss : List (List AV)
  s : List AV
  hs : List (Nat × Heap)
  msk : Nat
  h : Heap
  nb : List (Nat × Blk)

def sameV (r : Option (AV × Heap)) (dst : Option Nat) (s' : List AV) : Bool :=
  match r with
  | some (v, _) => (match dst with
    | none => true
    | some d => (match s'[d]? with | some v' => AV.eqb v v' | none => true))
  | none => false

/-- What only reads tells the same, wherever it may come. -/
def drawChk (T : TT) (ops : List Oper) (base : Nat) (st : DSt) : Bool :=
  let bf := befores ops []
  let es := (List.range ops.length).filter fun i => (match ops[i]? with | some o => dkind T o.op == .eff | none => false)
  let all := st.hs ++ [(st.msk, st.h)]
  let ss := st.ss ++ [st.s]
  es.isEmpty || ops.zipIdx.all fun (o, i) => dkind T o.op != .quiet || !wantedA o ops (ss.getD i []) ||
    all.zipIdx.all fun (q, k) => q.1.testBit i || (match es[k]? with | some e => (bf.getD i 0).testBit e | none => false) ||
      sameV (opA T (evalO (ss.getD i [])) o.op (heapFor base st.nb (bf.getD i 0) q.1 q.2)) o.dst (ss.getD (i + 1) [])

def setAll : List AV → List Nat → List AV → List AV
  | s, t :: ts, v :: vs => setAll (s.set t v) ts vs
  | s, _, _ => s

def resultsA (T : TT) (h : Heap) (s : List AV) : List ResultVar → Option (List AV)
  | [] => some []
  | .tmp t :: l => (match resultsA T h s l with | some m => some (s.getD t undefA :: m) | none => none)
  | .cell a t :: l => (match s.getD a undefA with
    | .ptr (some (b, o)) => (match loadVar T h t b o, resultsA T h s l with | some v, some m => some (v :: m) | _, _ => none)
    | _ => none)

/-- The marks of an activation's loops, taken. -/
def takeMarks : List Nat → Heap → Option Heap
  | [], h => some h
  | m :: ms, h => match h.get m with
    | some (.defers false) => takeMarks ms (h.put m (.defers true))
    | _ => none

structure Frm where
  s : List AV
  ms : List Nat     -- the loops' marks
  h : Heap

/-- A loop's marks: those of the loop around it, or new ones. -/
def enterA (ro : Option Nat) (f : Frm) : Option (Nat × List Nat × Heap) :=
  match ro with
  | some l => (match f.h.get l with | some (.loop r) => some (r.defers, f.ms, f.h) | _ => none)
  | none => some (f.h.nxt, f.h.nxt :: f.ms, f.h.add (.defers false))

mutual
def evalC (T : TT) (F : Nat → Option Func) : Nat → Nat → Option Nat → Code → Frm → Option (AE × Frm)
  | 0, _, _, _, _ => none
  | n + 1, fn, ro, c, f =>
    match c with
    | .skip | .label _ => some (.normal, f)
    | .seq a b => (match evalC T F n fn ro a f with
      | some (.normal, f1) => evalC T F n fn ro b f1
      | r => r)
    | .cond c a b => (match evalO f.s c with
      | some (.bool true) => evalC T F n fn ro a f
      | some (.bool false) => evalC T F n fn ro b f
      | _ => none)
    | .block id c => (match evalC T F n fn ro c f with
      | some (.exit i, f1) => if i = id then some (.normal, f1) else some (.exit i, f1)
      | r => r)
    | .loop c => (match evalC T F n fn ro c f with
      | some (.normal, f1) => evalC T F n fn ro (.loop c) f1
      | r => r)
    | .scope c => evalC T F n fn ro c f
    | .exit id => some (.exit id, f)
    | .ret => some (.ret, f)
    | .region _ ops draw =>
      if draw then
        (if drawOk T ops then
          (match evalDs T F n ops.toList (befores ops.toList []) f.h.nxt (List.range ops.size) ⟨[], f.s, [], 0, ⟨f.h.nxt + ops.size, f.h.l⟩, []⟩ with
          | some st => if drawChk T ops.toList f.h.nxt st then some (.normal, { f with s := st.s, h := putsA f.h.nxt (st.nb.filter fun p => !st.msk.testBit p.1) st.h }) else none
          | none => none)
        else none)
      else
      (match evalOs T F n ops.toList (List.range ops.size) f.s f.h with
      | some (s, h) => some (.normal, { f with s := s, h := h })
      | none => none)
    | .rangeFunc g ps assign body =>
      (match evalO f.s g with
      | some (.func (.func k) caps) =>
        (match enterA ro f with
        | none => none
        | some (df, ms, h) =>
          let l := h.nxt
          match callF T F n k (.func (.yield l) [] :: caps) (h.add (.loop { state := .ready, pending := none, fn := fn, tmps := f.s, params := ps.toList, assign, body, defers := df })) with
          | none => none
          | some (_, h2) =>
            match h2.get l with
            | some (.loop r) =>
              if r.state = .busy then none else
              (match r.pending with
              | none => some (.normal, { s := f.s, ms, h := h2.put l (.loop { r with state := .exhausted }) })
              | some .ret => some (.ret, { s := f.s, ms, h := h2.put l (.loop { r with state := .exhausted }) })
              | some (.exit id) => some (.exit id, { s := f.s, ms, h := h2.put l (.loop { r with state := .exhausted }) })
              | some _ => none)
            | _ => none)
      | _ => none)
    | _ => none

/-- Operations, one behind the other. -/
def evalOs (T : TT) (F : Nat → Option Func) : Nat → List Oper → List Nat → List AV → Heap → Option (List AV × Heap)
  | 0, _, _, _, _ => none
  | _ + 1, _, [], s, h => some (s, h)
  | n + 1, ops, i :: is, s, h =>
    match ops[i]? with
    | none => none
    | some o =>
      if wantedA o ops s then
        match (match o.op with
          | .call { callee := .value f, args, .. } =>
            (match evalO s f, evalAll (evalO s) args.toList with
            | some (.func (.func g) caps), some l => (match externO F g (l ++ caps) with | some v => some (v, h) | none => callF T F n g (l ++ caps) h)
            | some (.func (.yield l) _), some as => roundF T F n l as h
            | _, _ => none)
          | op => opA T (evalO s) op h) with
        | some (v, h') => evalOs T F n ops is (putA s o.dst v) h'
        | none => none
      else evalOs T F n ops is (putA s o.dst undefA) h

/-- A region whose order is drawn. -/
def evalDs (T : TT) (F : Nat → Option Func) : Nat → List Oper → List Nat → Nat → List Nat → DSt → Option DSt
  | 0, _, _, _, _, _ => none
  | _ + 1, _, _, _, [], st => some st
  | n + 1, ops, bf, base, i :: is, st =>
    match ops[i]? with
    | none => none
    | some o =>
      match dkind T o.op with
      | .eff =>
        (match evalOs T F n ops [i] st.s (heapFor base st.nb (bf.getD i 0) st.msk st.h) with
        | some (s', h') => evalDs T F n ops bf base is { ss := st.ss ++ [st.s], s := s', hs := st.hs ++ [(st.msk, st.h)], msk := st.msk ||| bf.getD i 0, h := h', nb := st.nb }
        | none => none)
      | .new =>
        if wantedA o ops st.s then
          (match allocA T (evalO st.s) o.op (base + i) with
          | some (v, b) => evalDs T F n ops bf base is { st with ss := st.ss ++ [st.s], s := putA st.s o.dst v, nb := st.nb ++ [(i, b)] }
          | none => none)
        else evalDs T F n ops bf base is { st with ss := st.ss ++ [st.s], s := putA st.s o.dst undefA }
      | .quiet =>
        if wantedA o ops st.s then
          (match opA T (evalO st.s) o.op (heapFor base st.nb (bf.getD i 0) st.msk st.h) with
          | some (v, _) => evalDs T F n ops bf base is { st with ss := st.ss ++ [st.s], s := putA st.s o.dst v }
          | none => none)
        else evalDs T F n ops bf base is { st with ss := st.ss ++ [st.s], s := putA st.s o.dst undefA }
      | .no => none

def callF (T : TT) (F : Nat → Option Func) : Nat → Nat → List AV → Heap → Option (AV × Heap)
  | 0, _, _, _ => none
  | n + 1, f, args, h =>
    match F f with
    | none => none
    | some fn =>
      match fn.body with
      | none => none
      | some c =>
        match evalC T F n f none c { s := args ++ List.replicate (fn.ntmps - args.length) undefA, ms := [], h } with
        | some (.exit _, _) => none
        | none => none
        | some (_, f1) =>
          match takeMarks f1.ms f1.h with
          | none => none
          | some h2 =>
            match resultsA T h2 f1.s fn.results.toList with
            | some [v] => some (v, h2)
            | some l => some (.tup l, h2)
            | none => none

/-- A round of a loop over a function. -/
def roundF (T : TT) (F : Nat → Option Func) : Nat → Nat → List AV → Heap → Option (AV × Heap)
  | 0, _, _, _ => none
  | n + 1, l, args, h =>
    match h.get l with
    | some (.loop r) =>
      if args.length ≠ r.params.length then none else
      (match evalC T F n r.fn (some l) r.assign { s := setAll r.tmps r.params args, ms := [], h } with
      | some (.normal, f1) =>
        (match f1.h.get l with
        | some (.loop r1) =>
          if r1.state ≠ .ready ∨ f1.ms ≠ [] then none else
          (match evalC T F n r.fn (some l) r.body { f1 with h := f1.h.put l (.loop { r1 with state := .busy }) } with
          | some (e, f2) =>
            (match f2.h.get l with
            | some (.loop r2) =>
              if f2.ms ≠ [] then none else
              (match e with
              | .normal => some (.bool true, f2.h.put l (.loop { r2 with state := .ready, pending := none }))
              | .ret => some (.bool false, f2.h.put l (.loop { r2 with state := .done, pending := some .ret }))
              | .exit id => some (.bool false, f2.h.put l (.loop { r2 with state := .done, pending := some (.exit id) })))
            | _ => none)
          | none => none)
        | _ => none)
      | _ => none)
    | _ => none
end

end Go.Am

/-
  The abstract machine: what abstract values and heaps have to do with the model's.
-/
namespace Go.Am

/-- Where an abstract block lies: a block, from which cell on, how many cells that block has. -/
structure Loc where
  blk : Nat
  base : Nat
  room : Nat

abbrev Mu := Nat → Option Loc

mutual
def VR (μ : Mu) : AV → Value → Prop
  | .int k n, v => v = .int k n
  | .bool b, v => v = .bool b
  | .str s, v => v = .string ⟨s.toArray⟩
  | .ptr none, v => v = .pointer none
  | .ptr (some (b, o)), v => ∃ L, μ b = some L ∧ v = .pointer (some ⟨L.blk, L.base + o, none⟩)
  | .slc none n cap _, v => ∃ c, cap = some c ∧ n ≤ c ∧ v = .slice none n c
  | .slc (some (b, o)) n cap sz, v => ∃ L off c, μ b = some L ∧ v = .slice (some ⟨L.blk, off, none⟩) n c ∧ n ≤ c ∧ off + c * sz ≤ L.room ∧ L.base ≤ off ∧
      (∀ c', cap = some c' → c = c') ∧ ((n = 0 ∧ (cap = none ∨ cap = some 0)) ∨ off = L.base + o)
  | .map none, v => v = .map none
  | .map (some r), v => ∃ L, μ r = some L ∧ v = .map (some L.blk)
  | .func (.func f) caps, v => ∃ cs : Array Value, VRs μ caps cs.toList ∧ v = .func (.func f) #[] cs
  | .func (.yield l) caps, v => ∃ L, μ l = some L ∧ caps = [] ∧ v = .func (.yield L.blk) #[] #[]
  | .func _ _, _ => False
  | .nilFn, v => v = .nilFunc
  | .iface t x, v => ∃ y, VR μ x y ∧ v = .iface t y
  | .nilIface, v => v = .nilIface
  | .agg cs, v => ∃ ds : Array Value, VRs μ cs ds.toList ∧ v = .agg ds
  | .tup cs, v => ∃ ds : Array Value, VRs μ cs ds.toList ∧ v = .tuple ds
def VRs (μ : Mu) : List AV → List Value → Prop
  | [], l => l = []
  | a :: as, l => ∃ v vs, VR μ a v ∧ VRs μ as vs ∧ l = v :: vs
end

def Mu.le (μ ν : Mu) : Prop := ∀ b L, μ b = some L → ν b = some L
theorem Mu.le_refl (μ : Mu) : μ.le μ := fun _ _ h => h
theorem Mu.le_trans {μ ν ξ : Mu} (h : μ.le ν) (k : ν.le ξ) : μ.le ξ := fun b L e => k b L (h b L e)

mutual
theorem VR.mono {μ ν : Mu} (h : μ.le ν) : ∀ (a : AV) (v : Value), VR μ a v → VR ν a v
  | .int k n, v, e => by simpa [VR] using e
  | .bool b, v, e => by simpa [VR] using e
  | .str s, v, e => by simpa [VR] using e
  | .ptr none, v, e => by simpa [VR] using e
  | .ptr (some (b, o)), v, e => by
    simp only [VR] at e ⊢
    obtain ⟨L, e1, e2⟩ := e; exact ⟨L, h _ _ e1, e2⟩
  | .slc none n cap _, v, e => by simpa [VR] using e
  | .slc (some (b, o)) n cap _, v, e => by
    simp only [VR] at e ⊢
    obtain ⟨L, off, c, e1, e2⟩ := e; exact ⟨L, off, c, h _ _ e1, e2⟩
  | .map none, v, e => by simpa [VR] using e
  | .map (some r), v, e => by
    simp only [VR] at e ⊢
    obtain ⟨L, e1, e2⟩ := e; exact ⟨L, h _ _ e1, e2⟩
  | .func (.func f) caps, v, e => by
    simp only [VR] at e ⊢
    obtain ⟨cs, e1, e2⟩ := e; exact ⟨cs, VRs.mono h _ _ e1, e2⟩
  | .func (.yield l) caps, v, e => by
    simp only [VR] at e ⊢
    obtain ⟨L, e1, e2⟩ := e; exact ⟨L, h _ _ e1, e2⟩
  | .func (.method _) _, _, e => by simp [VR] at e
  | .func (.methodOf _ _) _, _, e => by simp [VR] at e
  | .func (.via _ _ _ _) _, _, e => by simp [VR] at e
  | .nilFn, v, e => by simpa [VR] using e
  | .iface t x, v, e => by
    simp only [VR] at e ⊢
    obtain ⟨y, e1, e2⟩ := e; exact ⟨y, VR.mono h _ _ e1, e2⟩
  | .nilIface, v, e => by simpa [VR] using e
  | .agg cs, v, e => by
    simp only [VR] at e ⊢
    obtain ⟨ds, e1, e2⟩ := e; exact ⟨ds, VRs.mono h _ _ e1, e2⟩
  | .tup cs, v, e => by
    simp only [VR] at e ⊢
    obtain ⟨ds, e1, e2⟩ := e; exact ⟨ds, VRs.mono h _ _ e1, e2⟩
theorem VRs.mono {μ ν : Mu} (h : μ.le ν) : ∀ (as : List AV) (vs : List Value), VRs μ as vs → VRs ν as vs
  | [], vs, e => by simpa [VRs] using e
  | a :: as, vs, e => by
    simp only [VRs] at e ⊢
    obtain ⟨v, vs', e1, e2, e3⟩ := e; exact ⟨v, vs', VR.mono h _ _ e1, VRs.mono h _ _ e2, e3⟩
end

theorem VRs.len {μ : Mu} : ∀ {as : List AV} {vs : List Value}, VRs μ as vs → vs.length = as.length
  | [], vs, e => by simp [VRs] at e; simp [e]
  | a :: as, vs, e => by
    simp only [VRs] at e
    obtain ⟨v, vs', _, e2, rfl⟩ := e; simp [VRs.len e2]

theorem VRs.get {μ : Mu} : ∀ {as : List AV} {vs : List Value}, VRs μ as vs → ∀ {i : Nat} {a : AV}, as[i]? = some a → ∃ v, vs[i]? = some v ∧ VR μ a v
  | [], vs, e, i, a, h => by simp at h
  | x :: as, vs, e, 0, a, h => by
    simp only [VRs] at e
    obtain ⟨v, vs', e1, e2, rfl⟩ := e
    simp at h; subst h; exact ⟨v, rfl, e1⟩
  | x :: as, vs, e, i + 1, a, h => by
    simp only [VRs] at e
    obtain ⟨v, vs', e1, e2, rfl⟩ := e
    simp at h; simpa using VRs.get e2 h

theorem VRs.of_get {μ : Mu} : ∀ {as : List AV} {vs : List Value}, vs.length = as.length → (∀ (i : Nat) (a : AV), as[i]? = some a → ∃ v, vs[i]? = some v ∧ VR μ a v) → VRs μ as vs
  | [], vs, hl, _ => by simp [VRs]; exact List.length_eq_zero_iff.1 (by simpa using hl)
  | x :: as, [], hl, _ => by simp at hl
  | x :: as, v :: vs, hl, h => by
    simp only [VRs]
    refine ⟨v, vs, ?_, VRs.of_get (by simpa using hl) (fun i a e => by simpa using h (i + 1) a (by simpa using e)), rfl⟩
    obtain ⟨w, e, hv⟩ := h 0 x rfl
    simp at e; subst e; exact hv

theorem VRs.append {μ : Mu} : ∀ {as bs : List AV} {vs ws : List Value}, VRs μ as vs → VRs μ bs ws → VRs μ (as ++ bs) (vs ++ ws)
  | [], bs, vs, ws, e, k => by simp [VRs] at e; subst e; simpa using k
  | a :: as, bs, vs, ws, e, k => by
    simp only [VRs] at e
    obtain ⟨v, vs', e1, e2, rfl⟩ := e
    simp only [List.cons_append, VRs]
    exact ⟨v, vs' ++ ws, e1, VRs.append e2 k, rfl⟩

theorem VRs.drop {μ : Mu} {as : List AV} {vs : List Value} (h : VRs μ as vs) (n : Nat) : VRs μ (as.drop n) (vs.drop n) := by
  refine VRs.of_get (by simp [h.len]) fun i a e => ?_
  rw [List.getElem?_drop] at e ⊢
  exact h.get e

theorem VRs.take {μ : Mu} {as : List AV} {vs : List Value} (h : VRs μ as vs) (n : Nat) : VRs μ (as.take n) (vs.take n) := by
  refine VRs.of_get (by simp [h.len]) fun i a e => ?_
  rw [List.getElem?_take] at e ⊢
  split at e
  · rename_i hi; rw [if_pos hi]; exact h.get e
  · simp at e

theorem VRs.set {μ : Mu} {as : List AV} {vs : List Value} (h : VRs μ as vs) (n : Nat) {a : AV} {v : Value} (hv : VR μ a v) : VRs μ (as.set n a) (vs.set n v) := by
  refine VRs.of_get (by simp [h.len]) fun i x e => ?_
  rw [List.getElem?_set] at e ⊢
  have hl := h.len
  split at e
  · rename_i hi; subst hi
    rw [if_pos rfl]
    split at e
    · rename_i hi; rw [if_pos (by omega)]; simp at e; subst e; exact ⟨v, rfl, hv⟩
    · simp at e
  · rename_i hi; rw [if_neg hi]; exact h.get e

theorem VRs.replicate {μ : Mu} {a : AV} {v : Value} (h : VR μ a v) (n : Nat) : VRs μ (List.replicate n a) (List.replicate n v) := by
  refine VRs.of_get (by simp) fun i x e => ?_
  rw [List.getElem?_replicate] at e ⊢
  split at e
  · rename_i hi; rw [if_pos hi]; simp at e; subst e; exact ⟨v, rfl, h⟩
  · simp at e

theorem VR.undef (μ : Mu) : VR μ undefA undef := by simp only [undefA, VR]; exact ⟨#[], by simp [VRs], rfl⟩

theorem VRs.getD {μ : Mu} {as : List AV} {vs : List Value} (h : VRs μ as vs) (i : Nat) : VR μ (as.getD i undefA) (vs.getD i undef) := by
  rcases Nat.lt_or_ge i as.length with hi | hi
  · obtain ⟨v, e, hv⟩ := h.get (List.getElem?_eq_getElem hi)
    rw [List.getD_eq_getElem?_getD, List.getD_eq_getElem?_getD, List.getElem?_eq_getElem hi, e]; exact hv
  · rw [List.getD_eq_getElem?_getD, List.getD_eq_getElem?_getD, List.getElem?_eq_none hi, List.getElem?_eq_none (by rw [h.len]; exact hi)]; exact VR.undef μ

theorem VR.cells {μ : Mu} {a : AV} {v : Value} (h : VR μ a v) : VRs μ a.cells v.cells.toList := by
  cases a with
  | agg cs => simp only [VR] at h; obtain ⟨ds, h, rfl⟩ := h; exact h
  | tup cs => simp only [VR] at h; obtain ⟨ds, h, rfl⟩ := h; simp only [AV.cells, Value.cells, VRs]; exact ⟨_, [], by simp only [VR]; exact ⟨ds, h, rfl⟩, rfl, rfl⟩
  | int k n => simp only [VR] at h; subst h; simp [AV.cells, Value.cells, VRs, VR]
  | bool b => simp only [VR] at h; subst h; simp [AV.cells, Value.cells, VRs, VR]
  | str s => simp only [VR] at h; subst h; simp [AV.cells, Value.cells, VRs, VR]
  | ptr p =>
    have h' := h
    cases p with
    | none => simp only [VR] at h; subst h; simp [AV.cells, Value.cells, VRs, VR]
    | some p => obtain ⟨b, o⟩ := p; simp only [VR] at h; obtain ⟨L, _, rfl⟩ := h; simp only [AV.cells, Value.cells, VRs]; exact ⟨_, [], h', rfl, rfl⟩
  | slc p n c sz =>
    have h' := h
    cases p with
    | none => simp only [VR] at h; obtain ⟨_, _, _, rfl⟩ := h; simp only [AV.cells, Value.cells, VRs]; exact ⟨_, [], h', rfl, rfl⟩
    | some p => obtain ⟨b, o⟩ := p; simp only [VR] at h; obtain ⟨L, _, _, _, rfl, _⟩ := h; simp only [AV.cells, Value.cells, VRs]; exact ⟨_, [], h', rfl, rfl⟩
  | map r =>
    have h' := h
    cases r with
    | none => simp only [VR] at h; subst h; simp [AV.cells, Value.cells, VRs, VR]
    | some p => simp only [VR] at h; obtain ⟨L, _, rfl⟩ := h; simp only [AV.cells, Value.cells, VRs]; exact ⟨_, [], h', rfl, rfl⟩
  | func f caps =>
    have h' := h
    cases f with
    | func f => simp only [VR] at h; obtain ⟨_, _, rfl⟩ := h; simp only [AV.cells, Value.cells, VRs]; exact ⟨_, [], h', rfl, rfl⟩
    | yield l => simp only [VR] at h; obtain ⟨_, _, _, rfl⟩ := h; simp only [AV.cells, Value.cells, VRs]; exact ⟨_, [], h', rfl, rfl⟩
    | method _ => simp [VR] at h
    | methodOf _ _ => simp [VR] at h
    | via _ _ _ _ => simp [VR] at h
  | nilFn => simp only [VR] at h; subst h; simp [AV.cells, Value.cells, VRs, VR]
  | iface t x =>
    have h' := h
    simp only [VR] at h; obtain ⟨_, _, rfl⟩ := h; simp only [AV.cells, Value.cells, VRs]; exact ⟨_, [], h', rfl, rfl⟩
  | nilIface => simp only [VR] at h; subst h; simp [AV.cells, Value.cells, VRs, VR]

/-- A leaf is the value of one cell. -/
theorem VR.leaf {μ : Mu} {a : AV} {v : Value} (h : VR μ a v) (hl : a.leaf = true) : (∀ x, v ≠ .agg x) ∧ (∀ x, v ≠ .tuple x) := by
  cases a with
  | agg _ => simp [AV.leaf] at hl
  | tup _ => simp [AV.leaf] at hl
  | ptr p => cases p with
    | none => simp only [VR] at h; subst h; simp
    | some p => obtain ⟨b, o⟩ := p; simp only [VR] at h; obtain ⟨L, _, rfl⟩ := h; simp
  | slc p n c sz => cases p with
    | none => simp only [VR] at h; obtain ⟨_, _, _, rfl⟩ := h; simp
    | some p => obtain ⟨b, o⟩ := p; simp only [VR] at h; obtain ⟨L, _, _, _, rfl, _⟩ := h; simp
  | map r => cases r with
    | none => simp only [VR] at h; subst h; simp
    | some p => simp only [VR] at h; obtain ⟨L, _, rfl⟩ := h; simp
  | func f caps => cases f with
    | func f => simp only [VR] at h; obtain ⟨_, _, rfl⟩ := h; simp
    | yield l => simp only [VR] at h; obtain ⟨_, _, _, rfl⟩ := h; simp
    | method _ => simp [VR] at h
    | methodOf _ _ => simp [VR] at h
    | via _ _ _ _ => simp [VR] at h
  | iface t x => simp only [VR] at h; obtain ⟨_, _, rfl⟩ := h; simp
  | int k n => simp only [VR] at h; subst h; simp
  | bool b => simp only [VR] at h; subst h; simp
  | str s => simp only [VR] at h; subst h; simp
  | nilFn => simp only [VR] at h; subst h; simp
  | nilIface => simp only [VR] at h; subst h; simp

theorem VR.ofLeaf {μ : Mu} {v : Value} {a : AV} (h : ofLeaf v = some a) : VR μ a v := by
  unfold Am.ofLeaf at h
  split at h <;> first | (simp at h; done) | (simp only [Option.some.injEq] at h; subst h; simp [VR])

theorem VRs.ofLeafs {μ : Mu} : ∀ {vs : List Value} {as : List AV}, ofLeafs vs = some as → VRs μ as vs
  | [], as, h => by simp [Am.ofLeafs] at h; subst h; simp [VRs]
  | v :: vs, as, h => by
    simp only [Am.ofLeafs] at h
    split at h
    · rename_i a m h1 h2
      simp at h; subst h; simp only [VRs]; exact ⟨v, vs, VR.ofLeaf h1, VRs.ofLeafs h2, rfl⟩
    · simp at h

theorem VR.ofValue {μ : Mu} {v : Value} {a : AV} (h : ofValue v = some a) : VR μ a v := by
  unfold Am.ofValue at h
  split at h
  · rename_i cs
    split at h
    · rename_i l e; simp at h; subst h; simp only [VR]; exact ⟨cs, VRs.ofLeafs e, rfl⟩
    · simp at h
  · exact VR.ofLeaf h

/-! ### Heaps -/
def TK.of : TypeDesc → TK
  | .int k => .int k
  | .bool => .bool
  | .string => .str
  | .pointer e => .ptr e
  | .slice e => .slc e
  | .array n e => .arr n e
  | .map k e => .map k e
  | .struct fs => .strct (fs.toList.map fun f => (f.name == "_", f.type, f.offset))
  | .func .. => .func
  | .interface _ => .iface
  | .tuple _ => .tup
  | _ => .other

/-- What a table says of a type is so. -/
structure TypeOk (P : Program) (t : Nat) (ti : TI) : Prop where
  under : ∃ d, P.underlying t = some d ∧ ti.kind = TK.of d
  info : ∃ i, P.info? t = some i ∧ i.size = ti.size ∧ i.bytes = ti.bytes ∧ ∃ z, i.zero = some z ∧ ofLeafs z.cells.toList = some ti.zero
  zlen : ti.zero.length = ti.size
  fields : ∀ fs, P.underlying t = some (.struct fs) → ∀ f ∈ fs.toList, (P.info? f.type).isSome = true
  eq : ti.eqOk = true → P.eqGuardType P.depth t = false ∧ P.stoodInHeld t = false
  zform : ∀ i z, P.info? t = some i → i.zero = some z → (ti.kind.isAgg = true → ∃ cs, z = .agg cs) ∧ (ti.kind.isAgg = false → ∀ cs, z ≠ .agg cs)

def TypesOk (P : Program) (T : TT) : Prop := ∀ t ti, T t = some ti → TypeOk P t ti

def FuncsOk (P : Program) (F : Nat → Option Func) : Prop := ∀ f fn, F f = some fn → P.funcs[f]? = some fn ∧ (fn.name == "runtime.NumGoroutine") = false

/-- What stays as it is: blocks of the heap; true: nobody's. Numbers that are put by. The rest as in a world. -/
structure Frz where
  w : World
  old : Nat → Option (Obj × Bool)
  res : Nat → Bool

/-- All that a world has. -/
def Frz.all (w : World) : Frz := ⟨w, fun k => (w.heap[k]?).map fun o => (o, false), fun _ => false⟩

/-- How an abstract block lies in the heap. -/
def BlkAt (μ : Mu) (z : Nat → Option (Obj × Bool)) (w : World) (L : Loc) : Blk → Prop
  | .cells cs wr => ∃ arr t fz, w.heap[L.blk]? = some (.cells arr t fz) ∧ arr.size = L.room ∧ L.base + cs.length ≤ L.room ∧
      (∀ i a, cs[i]? = some a → ∃ v, arr[L.base + i]? = some v ∧ VR μ a v) ∧ (wr = true → z L.blk = none ∧ ∀ i, i < L.room → ¬ (fz.1 ≤ i ∧ i < fz.2))
  | .map es clock => z L.blk = none ∧ ∃ es', w.heap[L.blk]? = some (.map es' clock) ∧ es'.size = es.length ∧
      ∀ (i : Nat) k v (b : Nat), es[i]? = some (k, v, b) → ∃ e : MapEntry, es'[i]? = some e ∧ VR μ k e.key ∧ VR μ v e.val ∧ e.born = b
  | .loop r => z L.blk = none ∧ ∃ r', w.heap[L.blk]? = some (.loop r') ∧ r'.state = r.state ∧ r'.pending = r.pending ∧ r'.fn = r.fn ∧ VRs μ r.tmps r'.tmps.toList ∧ r'.params.toList = r.params ∧
      r'.assign = r.assign ∧ r'.body = r.body ∧ ∃ D, μ r.defers = some D ∧ r'.defers = D.blk
  | .defers taken => z L.blk = none ∧ w.heap[L.blk]? = some (.deferred (if taken then none else some []))

def Blk.mine : Blk → Bool
  | .cells _ wr => wr
  | _ => true

/-- What else there is in the world is as it was. -/
structure Side (w w' : World) : Prop where
  os : w'.os = w.os
  tape : w'.tape = w.tape
  output : w'.output = w.output

theorem Side.refl (w : World) : Side w w := ⟨rfl, rfl, rfl⟩
theorem Side.trans {a b c : World} (h : Side a b) (k : Side b c) : Side a c := ⟨k.os.trans h.os, k.tape.trans h.tape, k.output.trans h.output⟩

/-- An abstract heap stands for a world's; w0: as it was at first. -/
structure Sim (w0 : Frz) (μ : Mu) (h : Heap) (w : World) : Prop where
  at_ : ∀ b x, h.get b = some x → ∃ L, μ b = some L ∧ BlkAt μ w0.old w L x
  apart : ∀ b c x y L M, h.get b = some x → h.get c = some y → μ b = some L → μ c = some M → x.mine = true → b ≠ c → L.blk ≠ M.blk
  old : ∀ k o b, w0.old k = some (o, b) → w.heap[k]? = some o
  hid : ∀ b x L o, h.get b = some x → μ b = some L → w0.old L.blk ≠ some (o, true)
  dom : ∀ b L, μ b = some L → b < h.nxt
  live : ∀ b, h.nxt ≤ b → h.get b = none
  rsv : ∀ b, w0.res b = true → μ b = none ∧ b < h.nxt
  side : Side w0.w w

theorem Sim.fresh {w0 : Frz} {w : World} {μ : Mu} {h : Heap} (S : Sim w0 μ h w) : w0.old w.heap.size = none := by
  cases e : w0.old w.heap.size with
  | none => rfl
  | some p =>
    have := S.old _ p.1 p.2 (by rw [e])
    have := (Array.getElem?_eq_some_iff.1 this).1
    omega

theorem Heap.lt_of_get {w0 : Frz} {w : World} {μ : Mu} {h : Heap} (S : Sim w0 μ h w) {b : Nat} {x : Blk} (e : h.get b = some x) : b < h.nxt := by
  rcases Nat.lt_or_ge b h.nxt with k | k
  · exact k
  · rw [S.live b k] at e; cases e

def Mu.upd (μ : Mu) (b : Nat) (L : Loc) : Mu := fun c => if b = c then some L else μ c
theorem Mu.upd_same (μ : Mu) (b : Nat) (L : Loc) : μ.upd b L b = some L := by simp [Mu.upd]
theorem Mu.upd_ne (μ : Mu) {b c : Nat} (L : Loc) (h : b ≠ c) : μ.upd b L c = μ c := by simp [Mu.upd, h]

theorem Mu.le_upd {μ : Mu} {b : Nat} {n : Nat} (h : ∀ c L, μ c = some L → c < n) (hb : n ≤ b) (L : Loc) : μ.le (μ.upd b L) := by
  intro c M e
  have := h c M e
  rw [Mu.upd_ne μ L (by omega)]; exact e

theorem BlkAt.mono {μ ν : Mu} {z : Nat → Option (Obj × Bool)} {w w' : World} {L : Loc} {x : Blk} (hm : μ.le ν) (hw : w'.heap[L.blk]? = w.heap[L.blk]?) (h : BlkAt μ z w L x) : BlkAt ν z w' L x := by
  cases x with
  | cells cs wr =>
    obtain ⟨arr, t, fz, h1, h2, h3, h4, h5⟩ := h
    exact ⟨arr, t, fz, hw.trans h1, h2, h3, fun i a e => let ⟨v, e1, e2⟩ := h4 i a e; ⟨v, e1, VR.mono hm _ _ e2⟩, h5⟩
  | map es clock =>
    obtain ⟨h0, es', h1, h2, h3⟩ := h
    exact ⟨h0, es', hw.trans h1, h2, fun i k v b e => let ⟨e', x1, x2, x3, x4⟩ := h3 i k v b e; ⟨e', x1, VR.mono hm _ _ x2, VR.mono hm _ _ x3, x4⟩⟩
  | loop r =>
    obtain ⟨h0, r', h1, h2, h3, h4, h5, h6, h7, h8, D, h9, h10⟩ := h
    exact ⟨h0, r', hw.trans h1, h2, h3, h4, VRs.mono hm _ _ h5, h6, h7, h8, D, hm _ _ h9, h10⟩
  | defers tk => exact ⟨h.1, hw.trans h.2⟩

theorem BlkAt.lt {μ : Mu} {z : Nat → Option (Obj × Bool)} {w : World} {L : Loc} {x : Blk} (h : BlkAt μ z w L x) : L.blk < w.heap.size := by
  cases x with
  | cells cs wr => obtain ⟨arr, t, fz, h1, _⟩ := h; exact (Array.getElem?_eq_some_iff.1 h1).1
  | map es clock => obtain ⟨h0, es', h1, _⟩ := h; exact (Array.getElem?_eq_some_iff.1 h1).1
  | loop r => obtain ⟨h0, r', h1, _⟩ := h; exact (Array.getElem?_eq_some_iff.1 h1).1
  | defers tk => obtain ⟨_, h2⟩ := h; exact (Array.getElem?_eq_some_iff.1 h2).1

theorem BlkAt.ge {μ : Mu} {z : Nat → Option (Obj × Bool)} {w : World} {L : Loc} {x : Blk} (h : BlkAt μ z w L x) (hx : x.mine = true) : z L.blk = none := by
  cases x with
  | cells cs wr => obtain ⟨arr, t, fz, _, _, _, _, h5⟩ := h; exact (h5 hx).1
  | map es clock => exact h.1
  | loop r => exact h.1
  | defers tk => exact h.1

theorem Sim.heap {w0 : Frz} {w w' : World} {μ : Mu} {h : Heap} (S : Sim w0 μ h w) (e : w'.heap = w.heap) (hs : Side w w') : Sim w0 μ h w' := by
  obtain ⟨a, b, c, d, f, g, r, i⟩ := S
  refine ⟨?_, b, fun k o q hk => by rw [e]; exact c k o q hk, d, f, g, r, i.trans hs⟩
  intro k x hk
  obtain ⟨L, e1, e2⟩ := a k x hk
  exact ⟨L, e1, e2.mono (Mu.le_refl _) (by rw [e])⟩

/-- A new block at the heap's end. -/
theorem Sim.add {w0 : Frz} {w : World} {μ : Mu} {h : Heap} (S : Sim w0 μ h w) (x : Blk) (o : Obj) (room : Nat)
    (hx : ∀ ν w', μ.le ν → w'.heap[w.heap.size]? = some o → BlkAt ν w0.old w' ⟨w.heap.size, 0, room⟩ x) :
    μ.le (μ.upd h.nxt ⟨w.heap.size, 0, room⟩) ∧ Sim w0 (μ.upd h.nxt ⟨w.heap.size, 0, room⟩) (h.add x) { w with heap := w.heap.push o } := by
  have hm := Mu.le_upd S.dom (Nat.le_refl _) ⟨w.heap.size, 0, room⟩
  have hold : ∀ k, k < w.heap.size → (w.heap.push o)[k]? = w.heap[k]? := fun k hk => by rw [Array.getElem?_push, if_neg (by omega)]
  refine ⟨hm, ?_, ?_, ?_, ?_, ?_, ?_, fun b hb => ?_, S.side.trans ⟨rfl, rfl, rfl⟩⟩
  · intro b y e
    rw [Heap.get_add] at e
    split at e
    · rename_i hb; subst hb; simp at e; subst e
      exact ⟨_, Mu.upd_same _ _ _, hx _ _ hm (by simp)⟩
    · rename_i hb
      obtain ⟨L, e1, e2⟩ := S.at_ b y e
      exact ⟨L, by rw [Mu.upd_ne _ _ hb]; exact e1, e2.mono hm (hold _ e2.lt)⟩
  · intro b c y z L M e1 e2 e3 e4 hy hne
    rw [Heap.get_add] at e1 e2
    by_cases hb : h.nxt = b
    · subst hb
      rw [Mu.upd_same] at e3; simp at e3; subst e3
      rw [if_neg hne] at e2
      rw [Mu.upd_ne _ _ hne] at e4
      obtain ⟨M', m1, m2⟩ := S.at_ c z e2
      rw [e4] at m1; simp at m1; subst m1
      have := m2.lt; simp; omega
    · rw [if_neg hb] at e1
      rw [Mu.upd_ne _ _ hb] at e3
      obtain ⟨L', l1, l2⟩ := S.at_ b y e1
      rw [e3] at l1; simp at l1; subst l1
      by_cases hc : h.nxt = c
      · subst hc
        rw [Mu.upd_same] at e4; simp at e4; subst e4
        have := l2.lt; simp; omega
      · rw [if_neg hc] at e2
        rw [Mu.upd_ne _ _ hc] at e4
        exact S.apart b c y z L M e1 e2 e3 e4 hy hne
  · intro k q b hk
    have := S.old k q b hk
    exact (hold k (Array.getElem?_eq_some_iff.1 this).1).trans this
  · intro b y L q e1 e2
    rw [Heap.get_add] at e1
    by_cases hb : h.nxt = b
    · subst hb
      rw [Mu.upd_same] at e2; simp at e2; subst e2
      show w0.old w.heap.size ≠ _
      rw [S.fresh]; simp
    · rw [if_neg hb] at e1
      rw [Mu.upd_ne _ _ hb] at e2
      exact S.hid b y L q e1 e2
  · intro b L e
    by_cases hb : h.nxt = b
    · simp; omega
    · rw [Mu.upd_ne _ _ hb] at e; have := S.dom b L e; simp; omega
  · intro b hb
    rw [Heap.get_add]; simp at hb
    rw [if_neg (by omega)]; exact S.live b (by omega)
  · obtain ⟨r1, r2⟩ := S.rsv b hb
    exact ⟨by rw [Mu.upd_ne _ _ (by omega)]; exact r1, by simp; omega⟩

/-- A block of one's own is turned, where it lies. -/
theorem Sim.turn {w0 : Frz} {w w' : World} {μ : Mu} {h : Heap} (S : Sim w0 μ h w) {b : Nat} {x : Blk} (y : Blk) {L : Loc} (hb : h.get b = some x) (hL : μ b = some L) (hx : x.mine = true)
    (_hs : w'.heap.size = w.heap.size) (ho : ∀ k, k ≠ L.blk → w'.heap[k]? = w.heap[k]?) (hy : BlkAt μ w0.old w' L y) (hsd : Side w w') : Sim w0 μ (h.put b y) w' := by
  obtain ⟨L0, l1, l2⟩ := S.at_ b x hb
  rw [hL] at l1; simp at l1; subst l1
  refine ⟨?_, ?_, ?_, ?_, S.dom, ?_, S.rsv, S.side.trans hsd⟩
  · intro c z e
    rw [Heap.get_put] at e
    split at e
    · rename_i hc; subst hc; simp at e; subst e; exact ⟨L, hL, hy⟩
    · rename_i hc
      obtain ⟨M, m1, m2⟩ := S.at_ c z e
      exact ⟨M, m1, m2.mono (Mu.le_refl _) (ho _ (S.apart b c x z L M hb e hL m1 hx hc).symm)⟩
  · intro c d z u M N e1 e2 e3 e4 hz hne
    rw [Heap.get_put] at e1 e2
    by_cases hc : b = c
    · subst hc
      rw [if_neg hne] at e2
      exact S.apart b d x u M N hb e2 e3 e4 hx hne
    · rw [if_neg hc] at e1
      by_cases hd : b = d
      · subst hd
        exact S.apart c b z x M N e1 hb e3 e4 hz hne
      · rw [if_neg hd] at e2
        exact S.apart c d z u M N e1 e2 e3 e4 hz hne
  · intro k q d hk
    have := l2.ge hx
    rw [ho k (by rintro rfl; rw [this] at hk; cases hk)]; exact S.old k q d hk
  · intro c z M q e1 e2
    rw [Heap.get_put] at e1
    split at e1
    · rename_i hc; subst hc; exact S.hid b x M q hb e2
    · exact S.hid c z M q e1 e2
  · intro c hc
    rw [Heap.get_put, if_neg (by have := Heap.lt_of_get S hb; simp at hc; omega)]
    exact S.live c hc

/-- A block is let go. -/
theorem Sim.del {w0 : Frz} {w : World} {μ : Mu} {h : Heap} (S : Sim w0 μ h w) (b : Nat) : Sim w0 μ (h.del b) w := by
  refine ⟨?_, ?_, S.old, ?_, S.dom, ?_, S.rsv, S.side⟩
  · intro c z e
    rw [Heap.get_del] at e
    split at e
    · cases e
    · exact S.at_ c z e
  · intro c d z u M N e1 e2 e3 e4 hz hne
    rw [Heap.get_del] at e1 e2
    split at e1
    · cases e1
    · split at e2
      · cases e2
      · exact S.apart c d z u M N e1 e2 e3 e4 hz hne
  · intro c z M q e1 e2
    rw [Heap.get_del] at e1
    split at e1
    · cases e1
    · exact S.hid c z M q e1 e2
  · intro c hc
    rw [Heap.get_del]; split
    · rfl
    · exact S.live c hc

end Go.Am
