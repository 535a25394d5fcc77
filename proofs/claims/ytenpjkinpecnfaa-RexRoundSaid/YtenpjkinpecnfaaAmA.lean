/-
  The abstract machine: values, heap, operations, evaluator. No program in sight.
-/
import GoSem.Step
import Derived.AtR
import Derived.Test.YtenpjkinpecnfaaAmLin
namespace Go.Am

/-- Abstract values. A block's address is an abstract number; a slice's capacity is known or not. -/
inductive AV where
  | int (k : IntKind) (n : Int)
  | bool (b : Bool)
  | str (s : List UInt8)
  | ptr (a : Option (Nat × Nat))
  | slc (a : Option (Nat × Nat)) (len : Nat) (cap : Option Nat) (sz : Nat)
  | map (r : Option Nat)
  | func (fn : Fn) (caps : List AV)
  | nilFn
  | iface (t : TypeId) (v : AV)
  | nilIface
  | agg (cs : List AV)
  | tup (vs : List AV)
  deriving Inhabited

def undefA : AV := .tup []

def AV.cells : AV → List AV
  | .agg cs => cs
  | v => [v]

/-- A constant of one cell, as an abstract value. -/
def ofLeaf : Value → Option AV
  | .int k n => some (.int k n)
  | .bool b => some (.bool b)
  | .string s => some (.str s.data.toList)
  | .pointer none => some (.ptr none)
  | .slice none 0 0 => some (.slc none 0 (some 0) 0)
  | .map none => some (.map none)
  | .nilFunc => some .nilFn
  | .nilIface => some .nilIface
  | _ => none

def ofLeafs : List Value → Option (List AV)
  | [] => some []
  | v :: l => match ofLeaf v, ofLeafs l with
    | some a, some m => some (a :: m)
    | _, _ => none

def ofValue : Value → Option AV
  | .agg cs => match ofLeafs cs.toList with
    | some l => some (.agg l)
    | none => none
  | v => ofLeaf v

/-- Kinds of types, as far as they matter. -/
inductive TK where
  | int (k : IntKind) | bool | str | ptr (e : Nat) | slc (e : Nat) | arr (n e : Nat) | map (k e : Nat)
  | strct (fs : List (Bool × Nat × Nat))  -- is it blank, type, offset
  | func | iface | tup | other
  deriving Inhabited, DecidableEq

structure TI where
  kind : TK
  size : Nat
  bytes : Nat
  zero : List AV
  eqOk : Bool := false
  deriving Inhabited

def TK.isAgg : TK → Bool
  | .strct _ | .arr _ _ => true
  | _ => false

/-- A table of types. -/
abbrev TT := Nat → Option TI

structure LoopR where
  state : LoopState
  pending : Option Code
  fn : Nat
  tmps : List AV
  params : List Nat
  assign : Code
  body : Code
  defers : Nat

inductive Blk where
  | cells (cs : List AV) (wr : Bool)
  | map (es : List (AV × AV × Nat)) (clock : Nat)
  | loop (r : LoopR)
  | defers (taken : Bool)

/-- A tree of blocks, by their numbers. -/
inductive HT where
  | nil
  | node (v : Option Blk) (l r : HT)

def HT.get : HT → Nat → Option Blk
  | .nil, _ => none
  | .node v l r, n => if n = 0 then v else if n % 2 = 1 then l.get (n / 2) else r.get (n / 2 - 1)

def HT.put : Nat → HT → Nat → Option Blk → HT
  | 0, t, _, _ => t
  | f + 1, .nil, n, x => if n = 0 then .node x .nil .nil else if n % 2 = 1 then .node none (HT.put f .nil (n / 2) x) .nil else .node none .nil (HT.put f .nil (n / 2 - 1) x)
  | f + 1, .node v l r, n, x => if n = 0 then .node x l r else if n % 2 = 1 then .node v (HT.put f l (n / 2) x) r else .node v l (HT.put f r (n / 2 - 1) x)

theorem HT.get_put : ∀ (f : Nat) (t : HT) (n m : Nat) (x : Option Blk), n < f → (HT.put f t n x).get m = if n = m then x else t.get m
  | 0, t, n, m, x, h => by omega
  | f + 1, t, n, m, x, h => by
    have ih := fun t k => HT.get_put f t k
    cases t with
    | nil =>
      simp only [HT.put]
      split
      · rename_i h0; subst h0
        simp only [HT.get]
        by_cases hm : m = 0
        · subst hm; simp
        · have h0 : ¬ 0 = m := fun e => hm e.symm
          simp [hm, h0]

      · split
        · simp only [HT.get]
          by_cases hm : m = 0
          · subst hm; rename_i h0 _; simp [h0]
          · rw [if_neg hm]
            split
            · rw [ih _ _ _ _ (by omega)]
              by_cases he : n / 2 = m / 2
              · rw [if_pos he, if_pos (by omega)]
              · rw [if_neg he, if_neg (by omega)]; rfl
            · rw [if_neg (by omega)]
        · simp only [HT.get]
          by_cases hm : m = 0
          · subst hm; rename_i h0 _; simp [h0]
          · rw [if_neg hm]
            split
            · rw [if_neg (by omega)]
            · rw [ih _ _ _ _ (by omega)]
              by_cases he : n / 2 - 1 = m / 2 - 1
              · rw [if_pos he, if_pos (by omega)]
              · rw [if_neg he, if_neg (by omega)]; rfl
    | node v l r =>
      simp only [HT.put]
      split
      · rename_i h0; subst h0
        simp only [HT.get]
        by_cases hm : m = 0
        · subst hm; simp
        · have h0 : ¬ 0 = m := fun e => hm e.symm
          simp [hm, h0]

      · split
        · simp only [HT.get]
          by_cases hm : m = 0
          · subst hm; rename_i h0 _; simp [h0]
          · rw [if_neg hm, if_neg hm]
            split
            · rw [ih _ _ _ _ (by omega)]
              by_cases he : n / 2 = m / 2
              · rw [if_pos he, if_pos (by omega)]
              · rw [if_neg he, if_neg (by omega)]
            · rw [if_neg (by omega)]
        · simp only [HT.get]
          by_cases hm : m = 0
          · subst hm; rename_i h0 _; simp [h0]
          · rw [if_neg hm, if_neg hm]
            split
            · rw [if_neg (by omega)]
            · rw [ih _ _ _ _ (by omega)]
              by_cases he : n / 2 - 1 = m / 2 - 1
              · rw [if_pos he, if_pos (by omega)]
              · rw [if_neg he, if_neg (by omega)]

structure Heap where
  nxt : Nat
  l : HT

def Heap.get (h : Heap) (b : Nat) : Option Blk := h.l.get b
def Heap.put (h : Heap) (b : Nat) (x : Blk) : Heap := ⟨h.nxt, HT.put (b + 1) h.l b (some x)⟩
def Heap.del (h : Heap) (b : Nat) : Heap := ⟨h.nxt, HT.put (b + 1) h.l b none⟩
def Heap.add (h : Heap) (x : Blk) : Heap := ⟨h.nxt + 1, HT.put (h.nxt + 1) h.l h.nxt (some x)⟩

@[simp] theorem Heap.put_nxt (h : Heap) (b x) : (h.put b x).nxt = h.nxt := rfl
@[simp] theorem Heap.del_nxt (h : Heap) (b) : (h.del b).nxt = h.nxt := rfl
@[simp] theorem Heap.add_nxt (h : Heap) (x) : (h.add x).nxt = h.nxt + 1 := rfl
theorem Heap.get_put (h : Heap) (b c x) : (h.put b x).get c = if b = c then some x else h.get c := HT.get_put _ _ _ _ _ (Nat.lt_succ_self b)
theorem Heap.get_del (h : Heap) (b c) : (h.del b).get c = if b = c then none else h.get c := HT.get_put _ _ _ _ _ (Nat.lt_succ_self b)
theorem Heap.get_add (h : Heap) (c x) : (h.add x).get c = if h.nxt = c then some x else h.get c := HT.get_put _ _ _ _ _ (Nat.lt_succ_self _)

def setCells : List AV → Nat → List AV → List AV
  | cs, _, [] => cs
  | cs, o, v :: vs => setCells (cs.set o v) (o + 1) vs

def AV.leaf : AV → Bool
  | .agg _ | .tup _ => false
  | _ => true

def loadCells (h : Heap) (b o n : Nat) : Option (List AV) :=
  match h.get b with
  | some (.cells cs _) => if o + n ≤ cs.length then some ((cs.drop o).take n) else none
  | _ => none

def loadVar (T : TT) (h : Heap) (t : Nat) (b o : Nat) : Option AV :=
  match T t with
  | some ti =>
    if ti.kind.isAgg then (match loadCells h b o ti.size with | some l => some (.agg l) | none => none)
    else match h.get b with
      | some (.cells cs _) => cs[o]?
      | _ => none
  | none => none

def storeCells (h : Heap) (b o : Nat) (vs : List AV) : Option Heap :=
  match h.get b with
  | some (.cells cs true) => if o + vs.length ≤ cs.length ∧ vs.all AV.leaf = true then some (h.put b (.cells (setCells cs o vs) true)) else none
  | _ => none

/-- No cells: nothing is stored, wherever it be. -/
def storeVar (T : TT) (h : Heap) (t : Nat) (b o : Nat) (v : AV) : Option Heap :=
  match T t with
  | some ti => if v.cells.length = ti.size then storeCells h b o v.cells else none
  | none => none

def part (T : TT) (t : Nat) (cs : List AV) (off : Nat) : Option AV :=
  match T t with
  | some ti =>
    if ti.kind.isAgg then (if off + ti.size ≤ cs.length then some (.agg ((cs.drop off).take ti.size)) else none)
    else cs[off]?
  | none => none

/-! ### operations on numbers, strings, .. -/
def intOp (op : BinOp) (k : IntKind) (x y : Int) : Option AV :=
  match op with
  | .add => some (.int k (k.wrap (x + y)))
  | .sub => some (.int k (k.wrap (x - y)))
  | .mul => some (.int k (k.wrap (x * y)))
  | .quo => if y = 0 then none else some (.int k (k.wrap (x.tdiv y)))
  | .rem => if y = 0 then none else some (.int k (x.tmod y))
  | .and => some (.int k (k.wrap (BitVec.ofInt k.bits x &&& BitVec.ofInt k.bits y).toNat))
  | .or => some (.int k (k.wrap (BitVec.ofInt k.bits x ||| BitVec.ofInt k.bits y).toNat))
  | .xor => some (.int k (k.wrap (BitVec.ofInt k.bits x ^^^ BitVec.ofInt k.bits y).toNat))
  | .andNot => some (.int k (k.wrap (BitVec.ofInt k.bits x &&& ~~~(BitVec.ofInt k.bits y)).toNat))
  | .eql => some (.bool (x == y))
  | .neq => some (.bool (x != y))
  | .lss => some (.bool (x < y))
  | .leq => some (.bool (x ≤ y))
  | .gtr => some (.bool (x > y))
  | .geq => some (.bool (x ≥ y))
  | _ => none

def shiftOp (op : BinOp) (k : IntKind) (x y : Int) : Option AV :=
  if y < 0 then none else
    match op with
    | .shl => some (.int k (k.wrap (x * 2 ^ (min y.toNat k.bits))))
    | .shr => some (.int k (x.fdiv (2 ^ (min y.toNat k.bits))))
    | _ => none

def strOp (op : BinOp) (x y : List UInt8) : Option AV :=
  match op with
  | .add => if ((x.length + y.length : Nat) : Int) > 9223372036854775807 then none else some (.str (x ++ y))
  | .eql => some (.bool (x == y))
  | .neq => some (.bool !(x == y))
  | .lss => some (.bool (Op.bytesLess x y))
  | .leq => some (.bool (Op.bytesLess x y || x == y))
  | .gtr => some (.bool !(Op.bytesLess x y || x == y))
  | .geq => some (.bool !(Op.bytesLess x y))
  | _ => none

/-- Are the fields alike, one by one? -/
def eqFs (T : TT) (eq : Nat → AV → AV → Option Bool) (xs ys : List AV) : List (Bool × Nat × Nat) → Option Bool
  | [] => some true
  | (blank, ft, off) :: fs =>
    if blank then eqFs T eq xs ys fs else
    match part T ft xs off, part T ft ys off with
    | some a, some b => (match eq ft a b with
      | some true => eqFs T eq xs ys fs
      | some false => some false
      | none => none)
    | _, _ => none

/-- Are two values of a type alike? (none: this machine does not say.) n: how deep. -/
def eqv (T : TT) : Nat → Nat → AV → AV → Option Bool
  | 0, _, _, _ => none
  | d + 1, t, x, y =>
    match T t with
    | none => none
    | some ti =>
      match ti.kind, x, y with
      | .bool, .bool a, .bool b => some (a == b)
      | .int _, .int k a, .int k' b => if k = k' then some (a == b) else none
      | .str, .str a, .str b => some (a == b)
      | .ptr _, .ptr none, .ptr b => some b.isNone
      | .ptr _, .ptr (some _), .ptr none => some false
      | .slc _, .slc none _ _ _, .slc b _ _ _ => some b.isNone
      | .slc _, .slc (some _) _ _ _, .slc none _ _ _ => some false
      | .map _ _, .map none, .map b => some b.isNone
      | .map _ _, .map (some _), .map none => some false
      | .func, .nilFn, .nilFn => some true
      | .func, .nilFn, .func _ _ => some false
      | .func, .func _ _, .nilFn => some false
      | .strct fs, .agg xs, .agg ys =>
        if ti.eqOk then eqFs T (fun t a b => eqv T d t a b) xs ys fs else none
      | _, _, _ => none

def eqDepth : Nat := 20

def binOpA (T : TT) (op : BinOp) (t : Nat) (x y : AV) : Option AV :=
  match x, y with
  | .int k a, .int k' b =>
    if op = .shl ∨ op = .shr then shiftOp op k a b
    else if k = k' then intOp op k a b else none
  | .str a, .str b => strOp op a b
  | x, y =>
    match op with
    | .eql => (match eqv T eqDepth t x y with | some b => some (.bool b) | none => none)
    | .neq => (match eqv T eqDepth t x y with | some b => some (.bool !b) | none => none)
    | _ => none

def unOpA (op : UnOp) (x : AV) : Option AV :=
  match op, x with
  | .neg, .int k n => some (.int k (k.wrap (0 - n)))
  | .not, .bool b => some (.bool !b)
  | _, _ => none

def sbound (x : AV) (y : Nat) : Option Nat :=
  match x with
  | .int _ i => if 0 ≤ i ∧ i ≤ y then some i.toNat else none
  | _ => none

/-- low, high of a slicing; what is beyond the length is not known. -/
def sbounds (len : Nat) (lo hi : Option AV) : Option (Nat × Nat) :=
  match (match hi with | some v => sbound v len | none => some len) with
  | none => none
  | some h => match (match lo with | some v => sbound v h | none => some 0) with
    | none => none
    | some l => some (l, h)

def sliceA (T : TT) (t : Nat) (x : AV) (lo hi mx : Option AV) : Option AV :=
  match T t with
  | none => none
  | some ti =>
    match ti.kind, x with
    | .str, .str s =>
      (match mx with
      | some _ => none
      | none => match sbounds s.length lo hi with
        | some (l, h) => some (.str ((s.drop l).take (h - l)))
        | none => none)
    | .slc e, .slc a len cap sz =>
      (match T e with
      | none => none
      | some te =>
        if a.isSome && sz != te.size then none else
        match mx with
        | none =>
          (match sbounds (match cap with | some c => (if hi.isSome then c else len) | none => len) lo hi with
          | none => none
          | some (l, h) =>
            match cap with
            | some c => if l ≤ c ∧ h ≤ c then some (.slc (if c = l then a else a.map fun p => (p.1, p.2 + l * te.size)) (h - l) (some (c - l)) sz) else none
            | none => some (.slc (a.map fun p => (p.1, p.2 + l * te.size)) (h - l) none sz))
        | some m =>
          match sbound m len with
          | none => none
          | some m => match sbounds m lo hi with
            | none => none
            | some (l, h) => if hi.isSome then some (.slc (if m = l then a else a.map fun p => (p.1, p.2 + l * te.size)) (h - l) (some (m - l)) sz) else none)
    | _, _ => none

/-- Parts of a whole that is built: place by place. -/
def fillA (place : Nat → Option (Nat × Nat)) : List AV → List (Nat × AV) → Option (List AV)
  | cs, [] => some cs
  | cs, (i, v) :: rest =>
    match place i with
    | none => none
    | some (off, size) =>
      if v.cells.length = size ∧ off + size ≤ cs.length then fillA place (setCells cs off v.cells) rest else none

def zeroRow (zero : List AV) (n : Nat) : List AV := (List.range n).map fun i => zero.getD (i % zero.length) undefA

def buildA (T : TT) (t : Nat) (parts : List (Nat × AV)) : Option AV :=
  match T t with
  | none => none
  | some ti =>
    match ti.kind with
    | .strct fs =>
      (match fillA (fun i => match fs[i]? with
          | some (_, ft, off) => (match T ft with | some fi => some (off, fi.size) | none => none)
          | none => none) ti.zero parts with
      | some cs => some (.agg cs)
      | none => none)
    | .arr _ e =>
      (match T e with
      | none => none
      | some te => match fillA (fun i => some (i * te.size, te.size)) ti.zero parts with
        | some cs => some (.agg cs)
        | none => none)
    | _ => none

def buildSliceA (T : TT) (t : Nat) (len : Nat) (parts : List (Nat × AV)) (h : Heap) : Option (AV × Heap) :=
  match T t with
  | none => none
  | some ti =>
    match ti.kind with
    | .slc e =>
      (match T e with
      | none => none
      | some te =>
        if len * te.size > 16777216 then none else
        match fillA (fun i => some (i * te.size, te.size)) (zeroRow te.zero (len * te.size)) parts with
        | some cs => some (.slc (some (h.nxt, 0)) len (some len) te.size, h.add (.cells cs true))
        | none => none)
    | _ => none

def makeSliceA (T : TT) (t : Nat) (l c : AV) (h : Heap) : Option (AV × Heap) :=
  match T t, l, c with
  | some ti, .int _ l, .int _ c =>
    (match ti.kind with
    | .slc e =>
      (match T e with
      | none => none
      | some te =>
        if 0 ≤ l ∧ l ≤ c ∧ c ≤ 1073741824 ∧ te.bytes * c ≤ 140737488355328 then
          some (.slc (some (h.nxt, 0)) l.toNat (some c.toNat) te.size, h.add (.cells (zeroRow te.zero (c.toNat * te.size)) true))
        else none)
    | _ => none)
  | _, _, _ => none

/-- What is appended: how many elements, and their cells. -/
def comes (size : Nat) (x : AV) (h : Heap) : Option (Nat × List AV) :=
  match x with
  | .slc (some (b, o)) n _ sz => if sz ≠ size then none else if n = 0 then some (0, []) else (match loadCells h b o (n * size) with | some l => if l.all AV.leaf then some (n, l) else none | none => none)
  | .slc none n _ _ => if n = 0 then some (0, []) else none
  | .str s => if size = 1 then some (s.length, s.map fun b => .int .u8 b.toNat) else none
  | _ => none

def roomA : Nat := 35184372088832  -- 2^45

def appendA (T : TT) (t : Nat) (s x : AV) (h : Heap) : Option (AV × Heap) :=
  match T t, s with
  | some ti, .slc base n cap sz =>
    (match ti.kind with
    | .slc e =>
      (match T e with
      | none => none
      | some te =>
        if base.isSome && sz != te.size then none else
        match comes te.size x h with
        | none => none
        | some (k, new) =>
          if n + k > roomA ∨ te.bytes = 0 ∨ te.bytes > 1048576 ∨ (n + k) * te.bytes > roomA then none else
          match cap with
          | some c =>
            if n + k ≤ c then
              (match base with
              | none => if new = [] then some (.slc base (n + k) (some c) sz, h) else none
              | some (b, o) =>
                match new with
                | [] => some (.slc base (n + k) (some c) sz, h)
                | _ :: _ => match storeCells h b (o + n * te.size) new with
                  | some h' => some (.slc base (n + k) (some c) sz, h')
                  | none => none)
            else
              (match base with
              | none => if n = 0 then some (.slc (some (h.nxt, 0)) k none te.size, h.add (.cells new true)) else none
              | some (b, o) =>
                if n = 0 then some (.slc (some (h.nxt, 0)) k none te.size, h.add (.cells new true)) else
                match loadCells h b o (n * te.size) with
                | some old => some (.slc (some (h.nxt, 0)) (n + k) none te.size, h.add (.cells (old ++ new) true))
                | none => none)
          | none =>
            if k = 0 then some (.slc base n none sz, h) else
            match base with
            | none => none
            | some (b, o) =>
              match h.get b with
              | some (.cells cs true) =>
                if o + n * te.size ≤ cs.length then some (.slc (some (h.nxt, 0)) (n + k) none te.size, (h.del b).add (.cells ((cs.drop o).take (n * te.size) ++ new) true)) else none
              | _ => none)
    | _ => none)
  | _, _ => none

/-- Zeros, appended to nothing. -/
def appendZ (T : TT) (t : Nat) (s x : AV) (h : Heap) : Option (AV × Heap) :=
  match T t, s, x with
  | some ti, .slc base 0 (some 0) sz, .int _ m =>
    (match ti.kind with
    | .slc e =>
      (match T e with
      | none => none
      | some te =>
        if base.isSome && sz != te.size then none else
        if m = 0 then some (.slc base 0 (some 0) sz, h) else
        if 0 < m ∧ m ≤ 16777216 ∧ te.bytes ≠ 0 ∧ te.bytes ≤ 1048576 ∧ 0 < te.size then
          some (.slc (some (h.nxt, 0)) m.toNat none te.size, h.add (.cells (zeroRow te.zero (m.toNat * te.size)) true))
        else none)
    | _ => none)
  | _, _, _ => none

def copyA (T : TT) (t : Nat) (d x : AV) (h : Heap) : Option (AV × Heap) :=
  match T t, d with
  | some ti, .slc base n _ sz =>
    (match ti.kind with
    | .slc e =>
      (match T e with
      | none => none
      | some te =>
        match comes te.size x h with
        | none => none
        | some (k, new) =>
          if base.isSome && sz != te.size then none else
          let m := min k n
          match base, new.take (m * te.size) with
          | _, [] => some (.int .i64 m, h)
          | some (b, o), l => (match storeCells h b o l with
            | some h' => some (.int .i64 m, h')
            | none => none)
          | none, _ => none)
    | _ => none)
  | _, _ => none

def lenA (T : TT) (t : Nat) (x : AV) (h : Heap) : Option AV :=
  match T t with
  | none => none
  | some ti =>
    match ti.kind, x with
    | .str, .str s => some (.int .i64 s.length)
    | .arr n _, _ => some (.int .i64 n)
    | .slc _, .slc _ n _ _ => some (.int .i64 n)
    | .map _ _, .map none => some (.int .i64 0)
    | .map _ _, .map (some r) => (match h.get r with | some (.map es _) => some (.int .i64 es.length) | _ => none)
    | _, _ => none

def minA : AV → List AV → Option AV
  | x, [] => some x
  | .int k x, .int _ y :: l => minA (.int k (if y < x then y else x)) l
  | _, _ => none

def maxA : AV → List AV → Option AV
  | x, [] => some x
  | .int k x, .int _ y :: l => maxA (.int k (if y > x then y else x)) l
  | _, _ => none

/-! maps: keys are numbers, strings, bools -/
def keyEq : TK → AV → AV → Option Bool
  | .int _, .int k a, .int k' b => if k = k' then some (a == b) else none
  | .str, .str a, .str b => some (a == b)
  | .bool, .bool a, .bool b => some (a == b)
  | _, _, _ => none

def findA (ki : TK) (k : AV) : List (AV × AV × Nat) → Nat → Option (Option (Nat × AV × Nat))
  | [], _ => some none
  | e :: es, i => match keyEq ki k e.1 with
    | some true => some (some (i, e.2))
    | some false => findA ki k es (i + 1)
    | none => none

def zeroOf (T : TT) (t : Nat) : Option AV :=
  match T t with
  | some ti => if ti.kind.isAgg then some (.agg ti.zero) else (match ti.zero with | [v] => some v | _ => none)
  | none => none

def entriesA (x : AV) (h : Heap) : Option (List (AV × AV × Nat)) :=
  match x with
  | .map none => some []
  | .map (some r) => (match h.get r with | some (.map es _) => some es | _ => none)
  | _ => none

/-- The kind of a map type's keys, its elements' type. -/
def mapTypes (T : TT) (t : Nat) : Option (TK × Nat) :=
  match T t with
  | some ti => (match ti.kind with
    | .map kt et => (match T kt with
      | some ki => (match ki.kind with
        | .int k => some (.int k, et)
        | .str => some (.str, et)
        | .bool => some (.bool, et)
        | _ => none)
      | none => none)
    | _ => none)
  | none => none

def lookupA (T : TT) (t : Nat) (x k : AV) (ok : Bool) (h : Heap) : Option AV :=
  match mapTypes T t, entriesA x h with
  | some (ki, et), some es =>
    (match findA ki k es 0 with
    | some (some (_, v, _)) => some (if ok then .tup [v, .bool true] else v)
    | some none => (match zeroOf T et with
      | some z => some (if ok then .tup [z, .bool false] else z)
      | none => none)
    | none => none)
  | _, _ => none

def mapUpdateA (T : TT) (t : Nat) (m k x : AV) (h : Heap) : Option Heap :=
  match mapTypes T t, m with
  | some (ki, _), .map (some r) =>
    (match h.get r with
    | some (.map es clock) =>
      (match findA ki k es 0 with
      | some (some (i, _, b)) => some (h.put r (.map (es.set i (k, x, b)) clock))
      | some none => some (h.put r (.map (es ++ [(k, x, clock)]) (clock + 1)))
      | none => none)
    | _ => none)
  | _, _ => none

/-- The bytes of u8 cells. -/
def bytesOf : List AV → Option (List UInt8)
  | [] => some []
  | .int .u8 n :: l => (match bytesOf l with | some m => some (UInt8.ofNat n.toNat :: m) | none => none)
  | _ => none

def convA (T : TT) (src dst : Nat) (x : AV) (h : Heap) : Option (AV × Heap) :=
  match T src, T dst with
  | some s, some d =>
    (match s.kind, d.kind, x with
    | _, .int k, .int _ n => some (.int k (k.wrap n), h)
    | _, .str, .str l => some (.str l, h)
    | _, .slc e, .str l =>
      (match T e with
      | some te => if te.kind = .int .u8 then some (.slc (some (h.nxt, 0)) l.length none 1, h.add (.cells (l.map fun b => .int .u8 b.toNat) true)) else none
      | none => none)
    | .slc e, .str, .slc a n _ _ =>
      (match T e with
      | some te =>
        if te.kind = .int .u8 then
          (match a with
          | none => some (.str [], h)
          | some (b, o) => if n = 0 then some (.str [], h) else match loadCells h b o n with
            | some l => (match bytesOf l with | some m => some (.str m, h) | none => none)
            | none => none)
        else none
      | none => none)
    | _, _, _ => none)
  | _, _ => none

def builtinA (T : TT) (b : Builtin) (ts : List Nat) (args : List AV) (h : Heap) : Option (AV × Heap) :=
  match b, ts, args with
  | .append, t :: u :: _, [s, x] => (match T u with | some ui => (match ui.kind with | .int _ => appendZ T t s x h | _ => appendA T t s x h) | none => none)
  | .copy, t :: _, [d, x] => copyA T t d x h
  | .cap, t :: _, [.slc _ _ (some c) _] => (match T t with | some ti => (match ti.kind with | .slc _ => some (.int .i64 c, h) | _ => none) | none => none)
  | .len, t :: _, [x] => (match lenA T t x h with | some v => some (v, h) | none => none)
  | .min, _, x :: l => (match minA x l with | some v => some (v, h) | none => none)
  | .max, _, x :: l => (match maxA x l with | some v => some (v, h) | none => none)
  | _, _, _ => none

/-- Functions that the model answers itself. -/
def externA (fn : Func) (args : List AV) : Option AV :=
  if fn.body.isNone && fn.name == "internal/bytealg.IndexByteString" && fn.origin == "" then
    (match args with
    | [.str s, .int .u8 c] => some (.int .i64 (match (List.range s.length).find? fun i => s.getD i 0 == c.toNat.toUInt8 with | some i => (i : Int) | none => -1))
    | _ => none)
  else none

def externO (F : Nat → Option Func) (g : Nat) (args : List AV) : Option AV :=
  match F g with
  | some fn => externA fn args
  | none => none

def evalAll (ρ : Operand → Option AV) : List Operand → Option (List AV)
  | [] => some []
  | x :: l => match ρ x, evalAll ρ l with
    | some v, some m => some (v :: m)
    | _, _ => none

def evalParts (ρ : Operand → Option AV) : List (Nat × Operand) → Option (List (Nat × AV))
  | [] => some []
  | (i, x) :: l => match ρ x, evalParts ρ l with
    | some v, some m => some ((i, v) :: m)
    | _, _ => none

def evalOpt (ρ : Operand → Option AV) : Option Operand → Option (Option AV)
  | none => some none
  | some x => match ρ x with
    | some v => some (some v)
    | none => none

/-- An operation that calls no function. ρ: what operands are worth. -/
def opA (T : TT) (ρ : Operand → Option AV) (op : Op) (h : Heap) : Option (AV × Heap) :=
  match op with
  | .move x | .assign x => (match ρ x with | some v => some (v, h) | none => none)
  | .pick c a b => (match ρ c with
    | some (.bool true) => (match ρ a with | some v => some (v, h) | none => none)
    | some (.bool false) => (match ρ b with | some v => some (v, h) | none => none)
    | _ => none)
  | .alloc t => (match T t with | some ti => some (.ptr (some (h.nxt, 0)), h.add (.cells ti.zero true)) | none => none)
  | .box _ x => (match ρ x with | some v => if v.cells.all AV.leaf then some (.ptr (some (h.nxt, 0)), h.add (.cells v.cells true)) else none | none => none)
  | .build t ps => (match evalParts ρ ps.toList with | some l => (match buildA T t l with | some v => some (v, h) | none => none) | none => none)
  | .buildSlice t n ps => (match evalParts ρ ps.toList with | some l => buildSliceA T t n l h | none => none)
  | .load t a => (match ρ a with | some (.ptr (some (b, o))) => (match loadVar T h t b o with | some v => some (v, h) | none => none) | _ => none)
  | .store t a x => (match ρ a, ρ x with | some (.ptr (some (b, o))), some v => (match storeVar T h t b o v with | some h' => some (undefA, h') | none => none) | _, _ => none)
  | .nilCheck x => (match ρ x with | some (.ptr (some a)) => some (.ptr (some a), h) | some (.func f c) => some (.func f c, h) | _ => none)
  | .binOp op t x y _ => (match ρ x, ρ y with | some a, some b => (match binOpA T op t a b with | some v => some (v, h) | none => none) | _, _ => none)
  | .unOp op _ x => (match ρ x with | some a => (match unOpA op a with | some v => some (v, h) | none => none) | none => none)
  | .convert s d x => (match ρ x with | some a => convA T s d a h | none => none)
  | .makeInterface t x => (match T t, ρ x with | some ti, some v => if ti.kind = .iface then none else some (.iface t v, h) | _, _ => none)
  | .makeFunc fn first cap =>
    (match fn with
    | .func f => if first.size = 0 then (match evalAll ρ cap.toList with | some l => some (.func (.func f) l, h) | none => none) else none
    | _ => none)
  | .makeSlice t l c => (match ρ l, ρ c with | some a, some b => makeSliceA T t a b h | _, _ => none)
  | .slice t x lo hi mx =>
    (match ρ x, evalOpt ρ lo, evalOpt ρ hi, evalOpt ρ mx with
    | some v, some l, some g, some m => (match sliceA T t v l g m with | some r => some (r, h) | none => none)
    | _, _, _, _ => none)
  | .fieldAddr t x f =>
    (match T t, ρ x with
    | some ti, some (.ptr (some (b, o))) =>
      (match ti.kind with
      | .strct fs => (match fs[f]? with
        | some (_, ft, off) => (match T ft with | some fi => if fi.size = 0 then none else some (.ptr (some (b, o + off)), h) | none => none)
        | none => none)
      | _ => none)
    | _, _ => none)
  | .field t x f =>
    (match T t, ρ x with
    | some ti, some (.agg cs) =>
      (match ti.kind with
      | .strct fs => (match fs[f]? with
        | some (_, ft, off) => (match part T ft cs off with | some v => some (v, h) | none => none)
        | none => none)
      | _ => none)
    | _, _ => none)
  | .indexAddr t x ix =>
    (match T t, ρ x, ρ ix with
    | some ti, some v, some (.int _ i) =>
      (match ti.kind, v with
      | .slc e, .slc (some (b, o)) n _ sz => (match T e with | some te => if 0 ≤ i ∧ i < n ∧ sz = te.size then some (.ptr (some (b, o + i.toNat * te.size)), h) else none | none => none)
      | .arr n e, .ptr (some (b, o)) => (match T e with | some te => if 0 ≤ i ∧ i < n then some (.ptr (some (b, o + i.toNat * te.size)), h) else none | none => none)
      | _, _ => none)
    | _, _, _ => none)
  | .index t x ix =>
    (match T t, ρ x, ρ ix with
    | some ti, some v, some (.int _ i) =>
      (match ti.kind, v with
      | .arr n e, .agg cs => (match T e with | some te => if 0 ≤ i ∧ i < n then (match part T e cs (i.toNat * te.size) with | some v => some (v, h) | none => none) else none | none => none)
      | .str, .str s => if 0 ≤ i then (match s[i.toNat]? with | some b => some (.int .u8 b.toNat, h) | none => none) else none
      | _, _ => none)
    | _, _, _ => none)
  | .makeMap t r => (match T t, evalOpt ρ r with
    | some ti, some r => (match ti.kind, r with
      | .map _ _, none => some (.map (some h.nxt), h.add (.map [] 0))
      | .map _ _, some (.int _ _) => some (.map (some h.nxt), h.add (.map [] 0))
      | _, _ => none)
    | _, _ => none)
  | .lookup t x k ok => (match ρ x, ρ k with
    | some a, some b => (match lookupA T t a b ok h with | some v => some (v, h) | none => none)
    | _, _ => none)
  | .mapUpdate t m k x => (match ρ m, ρ k, ρ x with
    | some a, some b, some c => (match mapUpdateA T t a b c h with | some h' => some (undefA, h') | none => none)
    | _, _, _ => none)
  | .extract x i => (match ρ x with | some (.tup vs) => (match vs[i]? with | some v => some (v, h) | none => none) | _ => none)
  | .call c => (match c.callee with
    | .builtin b => (match evalAll ρ c.args.toList with | some l => builtinA T b c.argTypes.toList l h | none => none)
    | _ => none)
  | _ => none

/-! ### Code -/
inductive AE where
  | normal | exit (id : Nat) | ret
  deriving Inhabited

def evalO (s : List AV) : Operand → Option AV
  | .tmp t => some (s.getD t undefA)
  | .const v => ofValue v
  | .global _ => none
  | .func f => some (.func (.func f) [])

def putA (s : List AV) (d : Option Nat) (v : AV) : List AV :=
  match d with
  | some d => s.set d v
  | none => s

/-- Is an operation to be carried out? -/
def wantedA (o : Oper) (ops : List Oper) (s : List AV) : Bool :=
  match o.guard with
  | none => true
  | some (j, want) => match ops[j]? with
    | some g => (match g.dst with
      | some d => (match s[d]? with | some (.bool b) => b == want | _ => false)
      | none => false)
    | none => false

/-! ### Regions whose order is drawn -/
mutual
def AV.eqb : AV → AV → Bool
  | .int k a, .int l b => k == l && a == b
  | .bool a, .bool b => a == b
  | .str a, .str b => a == b
  | .ptr a, .ptr b => a == b
  | .slc a n c s, .slc a' n' c' s' => a == a' && n == n' && c == c' && s == s'
  | .map a, .map b => a == b
  | .func f l, .func g m => f == g && eqbs l m
  | .nilFn, .nilFn => true
  | .iface t x, .iface u y => t == u && AV.eqb x y
  | .nilIface, .nilIface => true
  | .agg l, .agg m => eqbs l m
  | .tup l, .tup m => eqbs l m
  | _, _ => false
def eqbs : List AV → List AV → Bool
  | [], [] => true
  | a :: l, b :: m => AV.eqb a b && eqbs l m
  | _, _ => false
end

/-- Kinds of operations: what changes or calls; what makes something new; what reads and reckons, no more. -/
inductive DK where
  | eff | new | quiet | no
  deriving DecidableEq

def dkind (T : TT) : Op → DK
  | .alloc _ | .box .. | .buildSlice .. | .makeSlice .. => .new
  | .store .. | .makeMap .. | .mapUpdate .. => .eff
  | .call { callee := .value _, .. } => .eff
  | .call { callee := .builtin b, .. } => (match b with | .len | .cap | .min | .max => .quiet | .append | .copy => .eff | _ => .no)
  | .convert _ d _ => (match T d with
    | some b => (match b.kind with
      | .slc _ => .eff
      | _ => .quiet)
    | none => .no)
  | .move _ | .assign _ | .pick .. | .build .. | .load .. | .nilCheck _ | .binOp .. | .unOp .. | .makeInterface .. | .makeFunc .. | .slice .. | .fieldAddr .. | .field ..
  | .indexAddr .. | .index .. | .extract .. | .lookup .. => .quiet
  | _ => .no

def tmpsOf (l : List Operand) : List Nat := l.filterMap fun | .tmp t => some t | _ => none

/-- The temporaries that an operation looks at. -/
def readsOf (ops : List Oper) (o : Oper) : List Nat :=
  (match o.guard with
  | some (j, _) => (match ops[j]? with | some g => g.dst.toList | none => [])
  | none => []) ++ tmpsOf o.op.operands.toList

def clash (T : TT) (ops : List Oper) (a b : Oper) : Bool :=
  (match a.dst with | some d => (readsOf ops b).contains d || b.dst == some d | none => false) ||
  (match b.dst with | some d => (readsOf ops a).contains d | none => false) ||
  (dkind T a.op == .eff && dkind T b.op == .eff)

/-- Which operations are always ahead of which: bits. -/
def befores : List Oper → List Nat → List Nat
  | [], acc => acc
  | o :: l, acc => befores l (acc ++ [(edges o).foldl (fun s e => s ||| 2 ^ e.on ||| acc.getD e.on 0) 0])

/-- May a region that draws be carried out in the text's order? -/
def drawOk (T : TT) (ops : Array Oper) : Bool :=
  (ops.toList.zipIdx.all fun (o, i) => (edges o).all (fun e => decide (e.on < i)) && dkind T o.op != .no) &&
  (let bf := befores ops.toList []
   ops.toList.zipIdx.all fun (b, j) => ops.toList.zipIdx.all fun (a, i) => !decide (i < j) || (bf.getD j 0).testBit i || !clash T ops.toList a b)

/-- What is newly made: its value, its block; id: its number. -/
def allocA (T : TT) (ρ : Operand → Option AV) (op : Op) (id : Nat) : Option (AV × Blk) :=
  match opA T ρ op ⟨id, .nil⟩ with
  | some (v, h) => (match h.get id with | some b => some (v, b) | none => none)
  | none => none

def putsA (base : Nat) : List (Nat × Blk) → Heap → Heap
  | [], h => h
  | (i, b) :: l, h => putsA base l (h.put (base + i) b)

/-- A heap with what was newly made and is needed (b), where it is not yet put in (msk). -/
def heapFor (base : Nat) (nb : List (Nat × Blk)) (b msk : Nat) (h : Heap) : Heap :=
  putsA base (nb.filter fun p => b.testBit p.1 && !msk.testBit p.1) h

/-- Such a region, in the text's order: slots ahead of each operation; heaps behind each that changes something, each with what was put in; what is newly made. -/
structure DSt where
  ss : List (List AV)
  s : List AV
  hs : List (Nat × Heap)
  msk : Nat
  h : Heap
  nb : List (Nat × Blk)

def sameV (r : Option (AV × Heap)) (dst : Option Nat) (s' : List AV) : Bool :=
  match r with
  | some (v, _) => (match dst with
    | none => true
    | some d => (match s'[d]? with | some v' => AV.eqb v v' | none => true))
  | none => false

/-- What only reads tells the same, wherever it may come. -/
def drawChk (T : TT) (ops : List Oper) (base : Nat) (st : DSt) : Bool :=
  let bf := befores ops []
  let es := (List.range ops.length).filter fun i => (match ops[i]? with | some o => dkind T o.op == .eff | none => false)
  let all := st.hs ++ [(st.msk, st.h)]
  let ss := st.ss ++ [st.s]
  es.isEmpty || ops.zipIdx.all fun (o, i) => dkind T o.op != .quiet || !wantedA o ops (ss.getD i []) ||
    all.zipIdx.all fun (q, k) => q.1.testBit i || (match es[k]? with | some e => (bf.getD i 0).testBit e | none => false) ||
      sameV (opA T (evalO (ss.getD i [])) o.op (heapFor base st.nb (bf.getD i 0) q.1 q.2)) o.dst (ss.getD (i + 1) [])

def setAll : List AV → List Nat → List AV → List AV
  | s, t :: ts, v :: vs => setAll (s.set t v) ts vs
  | s, _, _ => s

def resultsA (T : TT) (h : Heap) (s : List AV) : List ResultVar → Option (List AV)
  | [] => some []
  | .tmp t :: l => (match resultsA T h s l with | some m => some (s.getD t undefA :: m) | none => none)
  | .cell a t :: l => (match s.getD a undefA with
    | .ptr (some (b, o)) => (match loadVar T h t b o, resultsA T h s l with | some v, some m => some (v :: m) | _, _ => none)
    | _ => none)

/-- The marks of an activation's loops, taken. -/
def takeMarks : List Nat → Heap → Option Heap
  | [], h => some h
  | m :: ms, h => match h.get m with
    | some (.defers false) => takeMarks ms (h.put m (.defers true))
    | _ => none

structure Frm where
  s : List AV
  ms : List Nat     -- the loops' marks
  h : Heap

/-- A loop's marks: those of the loop around it, or new ones. -/
def enterA (ro : Option Nat) (f : Frm) : Option (Nat × List Nat × Heap) :=
  match ro with
  | some l => (match f.h.get l with | some (.loop r) => some (r.defers, f.ms, f.h) | _ => none)
  | none => some (f.h.nxt, f.h.nxt :: f.ms, f.h.add (.defers false))

mutual
def evalC (T : TT) (F : Nat → Option Func) : Nat → Nat → Option Nat → Code → Frm → Option (AE × Frm)
  | 0, _, _, _, _ => none
  | n + 1, fn, ro, c, f =>
    match c with
    | .skip | .label _ => some (.normal, f)
    | .seq a b => (match evalC T F n fn ro a f with
      | some (.normal, f1) => evalC T F n fn ro b f1
      | r => r)
    | .cond c a b => (match evalO f.s c with
      | some (.bool true) => evalC T F n fn ro a f
      | some (.bool false) => evalC T F n fn ro b f
      | _ => none)
    | .block id c => (match evalC T F n fn ro c f with
      | some (.exit i, f1) => if i = id then some (.normal, f1) else some (.exit i, f1)
      | r => r)
    | .loop c => (match evalC T F n fn ro c f with
      | some (.normal, f1) => evalC T F n fn ro (.loop c) f1
      | r => r)
    | .scope c => evalC T F n fn ro c f
    | .exit id => some (.exit id, f)
    | .ret => some (.ret, f)
    | .region _ ops draw =>
      if draw then
        (if drawOk T ops then
          (match evalDs T F n ops.toList (befores ops.toList []) f.h.nxt (List.range ops.size) ⟨[], f.s, [], 0, ⟨f.h.nxt + ops.size, f.h.l⟩, []⟩ with
          | some st => if drawChk T ops.toList f.h.nxt st then some (.normal, { f with s := st.s, h := putsA f.h.nxt (st.nb.filter fun p => !st.msk.testBit p.1) st.h }) else none
          | none => none)
        else none)
      else
      (match evalOs T F n ops.toList (List.range ops.size) f.s f.h with
      | some (s, h) => some (.normal, { f with s := s, h := h })
      | none => none)
    | .rangeFunc g ps assign body =>
      (match evalO f.s g with
      | some (.func (.func k) caps) =>
        (match enterA ro f with
        | none => none
        | some (df, ms, h) =>
          let l := h.nxt
          match callF T F n k (.func (.yield l) [] :: caps) (h.add (.loop { state := .ready, pending := none, fn := fn, tmps := f.s, params := ps.toList, assign, body, defers := df })) with
          | none => none
          | some (_, h2) =>
            match h2.get l with
            | some (.loop r) =>
              if r.state = .busy then none else
              (match r.pending with
              | none => some (.normal, { s := f.s, ms, h := h2.put l (.loop { r with state := .exhausted }) })
              | some .ret => some (.ret, { s := f.s, ms, h := h2.put l (.loop { r with state := .exhausted }) })
              | some (.exit id) => some (.exit id, { s := f.s, ms, h := h2.put l (.loop { r with state := .exhausted }) })
              | some _ => none)
            | _ => none)
      | _ => none)
    | _ => none

/-- Operations, one behind the other. -/
def evalOs (T : TT) (F : Nat → Option Func) : Nat → List Oper → List Nat → List AV → Heap → Option (List AV × Heap)
  | 0, _, _, _, _ => none
  | _ + 1, _, [], s, h => some (s, h)
  | n + 1, ops, i :: is, s, h =>
    match ops[i]? with
    | none => none
    | some o =>
      if wantedA o ops s then
        match (match o.op with
          | .call { callee := .value f, args, .. } =>
            (match evalO s f, evalAll (evalO s) args.toList with
            | some (.func (.func g) caps), some l => (match externO F g (l ++ caps) with | some v => some (v, h) | none => callF T F n g (l ++ caps) h)
            | some (.func (.yield l) _), some as => roundF T F n l as h
            | _, _ => none)
          | op => opA T (evalO s) op h) with
        | some (v, h') => evalOs T F n ops is (putA s o.dst v) h'
        | none => none
      else evalOs T F n ops is (putA s o.dst undefA) h

/-- A region whose order is drawn. -/
def evalDs (T : TT) (F : Nat → Option Func) : Nat → List Oper → List Nat → Nat → List Nat → DSt → Option DSt
  | 0, _, _, _, _, _ => none
  | _ + 1, _, _, _, [], st => some st
  | n + 1, ops, bf, base, i :: is, st =>
    match ops[i]? with
    | none => none
    | some o =>
      match dkind T o.op with
      | .eff =>
        (match evalOs T F n ops [i] st.s (heapFor base st.nb (bf.getD i 0) st.msk st.h) with
        | some (s', h') => evalDs T F n ops bf base is { ss := st.ss ++ [st.s], s := s', hs := st.hs ++ [(st.msk, st.h)], msk := st.msk ||| bf.getD i 0, h := h', nb := st.nb }
        | none => none)
      | .new =>
        if wantedA o ops st.s then
          (match allocA T (evalO st.s) o.op (base + i) with
          | some (v, b) => evalDs T F n ops bf base is { st with ss := st.ss ++ [st.s], s := putA st.s o.dst v, nb := st.nb ++ [(i, b)] }
          | none => none)
        else evalDs T F n ops bf base is { st with ss := st.ss ++ [st.s], s := putA st.s o.dst undefA }
      | .quiet =>
        if wantedA o ops st.s then
          (match opA T (evalO st.s) o.op (heapFor base st.nb (bf.getD i 0) st.msk st.h) with
          | some (v, _) => evalDs T F n ops bf base is { st with ss := st.ss ++ [st.s], s := putA st.s o.dst v }
          | none => none)
        else evalDs T F n ops bf base is { st with ss := st.ss ++ [st.s], s := putA st.s o.dst undefA }
      | .no => none

def callF (T : TT) (F : Nat → Option Func) : Nat → Nat → List AV → Heap → Option (AV × Heap)
  | 0, _, _, _ => none
  | n + 1, f, args, h =>
    match F f with
    | none => none
    | some fn =>
      match fn.body with
      | none => none
      | some c =>
        match evalC T F n f none c { s := args ++ List.replicate (fn.ntmps - args.length) undefA, ms := [], h } with
        | some (.exit _, _) => none
        | none => none
        | some (_, f1) =>
          match takeMarks f1.ms f1.h with
          | none => none
          | some h2 =>
            match resultsA T h2 f1.s fn.results.toList with
            | some [v] => some (v, h2)
            | some l => some (.tup l, h2)
            | none => none

/-- A round of a loop over a function. -/
def roundF (T : TT) (F : Nat → Option Func) : Nat → Nat → List AV → Heap → Option (AV × Heap)
  | 0, _, _, _ => none
  | n + 1, l, args, h =>
    match h.get l with
    | some (.loop r) =>
      if args.length ≠ r.params.length then none else
      (match evalC T F n r.fn (some l) r.assign { s := setAll r.tmps r.params args, ms := [], h } with
      | some (.normal, f1) =>
        (match f1.h.get l with
        | some (.loop r1) =>
          if r1.state ≠ .ready ∨ f1.ms ≠ [] then none else
          (match evalC T F n r.fn (some l) r.body { f1 with h := f1.h.put l (.loop { r1 with state := .busy }) } with
          | some (e, f2) =>
            (match f2.h.get l with
            | some (.loop r2) =>
              if f2.ms ≠ [] then none else
              (match e with
              | .normal => some (.bool true, f2.h.put l (.loop { r2 with state := .ready, pending := none }))
              | .ret => some (.bool false, f2.h.put l (.loop { r2 with state := .done, pending := some .ret }))
              | .exit id => some (.bool false, f2.h.put l (.loop { r2 with state := .done, pending := some (.exit id) })))
            | _ => none)
          | none => none)
        | _ => none)
      | _ => none)
    | _ => none
end

end Go.Am
