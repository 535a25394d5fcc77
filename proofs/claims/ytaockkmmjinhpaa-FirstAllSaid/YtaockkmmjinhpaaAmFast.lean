/-
  The abstract machine, as one recursion over a record, its slots as a tree: what the kernel carries out.
-/
import Derived.Test.YtaockkmmjinhpaaAmP
namespace Go.Am

/-- A tree of values, by their numbers. -/
inductive ST where
  | nil
  | node (v : AV) (l r : ST)

def ST.get : ST → Nat → AV
  | .nil, _ => undefA
  | .node v l r, n => if n = 0 then v else if n % 2 = 1 then l.get (n / 2) else r.get (n / 2 - 1)

def ST.put : Nat → ST → Nat → AV → ST
  | 0, t, _, _ => t
  | f + 1, .nil, n, x => if n = 0 then .node x .nil .nil else if n % 2 = 1 then .node undefA (ST.put f .nil (n / 2) x) .nil else .node undefA .nil (ST.put f .nil (n / 2 - 1) x)
  | f + 1, .node v l r, n, x => if n = 0 then .node x l r else if n % 2 = 1 then .node v (ST.put f l (n / 2) x) r else .node v l (ST.put f r (n / 2 - 1) x)

structure Sl where
  n : Nat
  t : ST

def Sl.get (s : Sl) (i : Nat) : AV := if i < s.n then s.t.get i else undefA
def Sl.set (s : Sl) (i : Nat) (v : AV) : Sl := if i < s.n then ⟨s.n, ST.put (i + 1) s.t i v⟩ else s
def Sl.toL (s : Sl) : List AV := (List.range s.n).map s.t.get
def stOf : List AV → Nat → ST → ST
  | [], _, t => t
  | v :: l, i, t => stOf l (i + 1) (ST.put (i + 1) t i v)
def Sl.ofL (l : List AV) : Sl := ⟨l.length, stOf l 0 .nil⟩
def Sl.init (l : List AV) (n : Nat) : Sl := ⟨max l.length n, stOf l 0 .nil⟩

structure FrmF where
  s : Sl
  ms : List Nat
  h : Heap

structure DStF where
  ss : List Sl
  s : Sl
  hs : List (Nat × Heap)
  msk : Nat
  h : Heap
  nb : List (Nat × Blk)

def evalOF (s : Sl) : Operand → Option AV
  | .tmp t => some (s.get t)
  | .const v => ofValue v
  | .global _ => none
  | .func f => some (.func (.func f) [])

def putF (s : Sl) (d : Option Nat) (v : AV) : Sl :=
  match d with
  | some d => s.set d v
  | none => s

def wantedF (o : Oper) (ops : List Oper) (s : Sl) : Bool :=
  match o.guard with
  | none => true
  | some (j, want) => match ops[j]? with
    | some g => (match g.dst with
      | some d => (match s.get d with | .bool b => b == want | _ => false)
      | none => false)
    | none => false

def resultsF (T : TT) (h : Heap) (s : Sl) : List ResultVar → Option (List AV)
  | [] => some []
  | .tmp t :: l => (match resultsF T h s l with | some m => some (s.get t :: m) | none => none)
  | .cell a t :: l => (match s.get a with
    | .ptr (some (b, o)) => (match loadVar T h t b o, resultsF T h s l with | some v, some m => some (v :: m) | _, _ => none)
    | _ => none)

def DStF.toD (st : DStF) : DSt := ⟨st.ss.map Sl.toL, st.s.toL, st.hs, st.msk, st.h, st.nb⟩

def sameVF (r : Option (AV × Heap)) (dst : Option Nat) (s' : Sl) : Bool :=
  match r with
  | some (v, _) => (match dst with
    | none => true
    | some d => if d < s'.n then AV.eqb v (s'.t.get d) else true)
  | none => false

def drawChkF (T : TT) (ops : List Oper) (base : Nat) (st : DStF) : Bool :=
  let bf := befores ops []
  let es := (List.range ops.length).filter fun i => (match ops[i]? with | some o => dkind T o.op == .eff | none => false)
  let all := st.hs ++ [(st.msk, st.h)]
  let ss := st.ss ++ [st.s]
  es.isEmpty || ops.zipIdx.all fun (o, i) => dkind T o.op != .quiet || !wantedF o ops (ss.getD i ⟨0, .nil⟩) ||
    all.zipIdx.all fun (q, k) => q.1.testBit i || (match es[k]? with | some e => (bf.getD i 0).testBit e | none => false) ||
      sameVF (opA T (evalOF (ss.getD i ⟨0, .nil⟩)) o.op (heapFor base st.nb (bf.getD i 0) q.1 q.2)) o.dst (ss.getD (i + 1) ⟨0, .nil⟩)

structure Lv where
  c : Nat → Option Nat → Code → FrmF → Option (AE × FrmF)
  o : List Oper → List Nat → Sl → Heap → Option (Sl × Heap)
  d : List Oper → List Nat → Nat → List Nat → DStF → Option DStF
  f : Nat → List AV → Heap → Option (AV × Heap)
  r : Nat → List AV → Heap → Option (AV × Heap)

def evalCP (T : TT) (F : Nat → Option Func) (p : Lv) (fn : Nat) (ro : Option Nat) (c : Code) (f : FrmF) : Option (AE × FrmF) :=
    match c with
    | .skip | .label _ => some (.normal, f)
    | .seq a b => (match p.c fn ro a f with
      | some (.normal, f1) => p.c fn ro b f1
      | r => r)
    | .cond c a b => (match evalOF f.s c with
      | some (.bool true) => p.c fn ro a f
      | some (.bool false) => p.c fn ro b f
      | _ => none)
    | .block id c => (match p.c fn ro c f with
      | some (.exit i, f1) => if i = id then some (.normal, f1) else some (.exit i, f1)
      | r => r)
    | .loop c => (match p.c fn ro c f with
      | some (.normal, f1) => p.c fn ro (.loop c) f1
      | r => r)
    | .scope c => p.c fn ro c f
    | .exit id => some (.exit id, f)
    | .ret => some (.ret, f)
    | .region _ ops draw =>
      if draw then
        (if drawOk T ops then
          (match p.d ops.toList (befores ops.toList []) f.h.nxt (List.range ops.size) ⟨[], f.s, [], 0, ⟨f.h.nxt + ops.size, f.h.l⟩, []⟩ with
          | some st => if drawChkF T ops.toList f.h.nxt st then some (.normal, { f with s := st.s, h := putsA f.h.nxt (st.nb.filter fun p => !st.msk.testBit p.1) st.h }) else none
          | none => none)
        else none)
      else
      (match p.o ops.toList (List.range ops.size) f.s f.h with
      | some (s, h) => some (.normal, { f with s := s, h := h })
      | none => none)
    | .rangeFunc g ps assign body =>
      (match evalOF f.s g with
      | some (.func (.func k) caps) =>
        (match enterA ro ⟨[], f.ms, f.h⟩ with
        | none => none
        | some (df, ms, h) =>
          let l := h.nxt
          match p.f k (.func (.yield l) [] :: caps) (h.add (.loop { state := .ready, pending := none, fn := fn, tmps := f.s.toL, params := ps.toList, assign, body, defers := df })) with
          | none => none
          | some (_, h2) =>
            match h2.get l with
            | some (.loop r) =>
              if r.state = .busy then none else
              (match r.pending with
              | none => some (.normal, { s := f.s, ms, h := h2.put l (.loop { r with state := .exhausted }) })
              | some .ret => some (.ret, { s := f.s, ms, h := h2.put l (.loop { r with state := .exhausted }) })
              | some (.exit id) => some (.exit id, { s := f.s, ms, h := h2.put l (.loop { r with state := .exhausted }) })
              | some _ => none)
            | _ => none)
      | _ => none)
    | _ => none



def evalOsP (T : TT) (F : Nat → Option Func) (p : Lv) (ops : List Oper) (is : List Nat) (s : Sl) (h : Heap) : Option (Sl × Heap) :=
  match is with
  | [] => some (s, h)
  | i :: is =>
    match ops[i]? with
    | none => none
    | some o =>
      if wantedF o ops s then
        match (match o.op with
          | .call { callee := .value f, args, .. } =>
            (match evalOF s f, evalAll (evalOF s) args.toList with
            | some (.func (.func g) caps), some l => (match externO F g (l ++ caps) with | some v => some (v, h) | none => p.f g (l ++ caps) h)
            | some (.func (.yield l) _), some as => p.r l as h
            | _, _ => none)
          | op => opA T (evalOF s) op h) with
        | some (v, h') => p.o ops is (putF s o.dst v) h'
        | none => none
      else p.o ops is (putF s o.dst undefA) h



def evalDsP (T : TT) (F : Nat → Option Func) (p : Lv) (ops : List Oper) (bf : List Nat) (base : Nat) (is : List Nat) (st : DStF) : Option DStF :=
  match is with
  | [] => some st
  | i :: is =>
    match ops[i]? with
    | none => none
    | some o =>
      match dkind T o.op with
      | .eff =>
        (match p.o ops [i] st.s (heapFor base st.nb (bf.getD i 0) st.msk st.h) with
        | some (s', h') => p.d ops bf base is { ss := st.ss ++ [st.s], s := s', hs := st.hs ++ [(st.msk, st.h)], msk := st.msk ||| bf.getD i 0, h := h', nb := st.nb }
        | none => none)
      | .new =>
        if wantedF o ops st.s then
          (match allocA T (evalOF st.s) o.op (base + i) with
          | some (v, b) => p.d ops bf base is { st with ss := st.ss ++ [st.s], s := putF st.s o.dst v, nb := st.nb ++ [(i, b)] }
          | none => none)
        else p.d ops bf base is { st with ss := st.ss ++ [st.s], s := putF st.s o.dst undefA }
      | .quiet =>
        if wantedF o ops st.s then
          (match opA T (evalOF st.s) o.op (heapFor base st.nb (bf.getD i 0) st.msk st.h) with
          | some (v, _) => p.d ops bf base is { st with ss := st.ss ++ [st.s], s := putF st.s o.dst v }
          | none => none)
        else p.d ops bf base is { st with ss := st.ss ++ [st.s], s := putF st.s o.dst undefA }
      | .no => none



def callFP (T : TT) (F : Nat → Option Func) (p : Lv) (f : Nat) (args : List AV) (h : Heap) : Option (AV × Heap) :=
    match F f with
    | none => none
    | some fn =>
      match fn.body with
      | none => none
      | some c =>
        match p.c f none c { s := .init args fn.ntmps, ms := [], h } with
        | some (.exit _, _) => none
        | none => none
        | some (_, f1) =>
          match takeMarks f1.ms f1.h with
          | none => none
          | some h2 =>
            match resultsF T h2 f1.s fn.results.toList with
            | some [v] => some (v, h2)
            | some l => some (.tup l, h2)
            | none => none



def roundFP (T : TT) (F : Nat → Option Func) (p : Lv) (l : Nat) (args : List AV) (h : Heap) : Option (AV × Heap) :=
    match h.get l with
    | some (.loop r) =>
      if args.length ≠ r.params.length then none else
      (match p.c r.fn (some l) r.assign { s := .ofL (setAll r.tmps r.params args), ms := [], h } with
      | some (.normal, f1) =>
        (match f1.h.get l with
        | some (.loop r1) =>
          if r1.state ≠ .ready ∨ f1.ms ≠ [] then none else
          (match p.c r.fn (some l) r.body { f1 with h := f1.h.put l (.loop { r1 with state := .busy }) } with
          | some (e, f2) =>
            (match f2.h.get l with
            | some (.loop r2) =>
              if f2.ms ≠ [] then none else
              (match e with
              | .normal => some (.bool true, f2.h.put l (.loop { r2 with state := .ready, pending := none }))
              | .ret => some (.bool false, f2.h.put l (.loop { r2 with state := .done, pending := some .ret }))
              | .exit id => some (.bool false, f2.h.put l (.loop { r2 with state := .done, pending := some (.exit id) })))
            | _ => none)
          | none => none)
        | _ => none)
      | _ => none)
    | _ => none

def lv0 : Lv := ⟨fun _ _ _ _ => none, fun _ _ _ _ => none, fun _ _ _ _ _ => none, fun _ _ _ => none, fun _ _ _ => none⟩
def lvS (T : TT) (F : Nat → Option Func) (p : Lv) : Lv := ⟨evalCP T F p, evalOsP T F p, evalDsP T F p, callFP T F p, roundFP T F p⟩
def lv (T : TT) (F : Nat → Option Func) (n : Nat) : Lv := Nat.rec lv0 (fun _ p => lvS T F p) n

end Go.Am
