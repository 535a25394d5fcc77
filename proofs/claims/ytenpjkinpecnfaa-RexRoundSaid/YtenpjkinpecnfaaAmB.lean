/-
  The abstract machine: what abstract values and heaps have to do with the model's.
-/
import Derived.Test.YtenpjkinpecnfaaAmA
import Derived.Laws.Sem
namespace Go.Am

/-- Where an abstract block lies: a block, from which cell on, how many cells that block has. -/
structure Loc where
  blk : Nat
  base : Nat
  room : Nat

abbrev Mu := Nat → Option Loc

mutual
def VR (μ : Mu) : AV → Value → Prop
  | .int k n, v => v = .int k n
  | .bool b, v => v = .bool b
  | .str s, v => v = .string ⟨s.toArray⟩
  | .ptr none, v => v = .pointer none
  | .ptr (some (b, o)), v => ∃ L, μ b = some L ∧ v = .pointer (some ⟨L.blk, L.base + o, none⟩)
  | .slc none n cap _, v => ∃ c, cap = some c ∧ n ≤ c ∧ v = .slice none n c
  | .slc (some (b, o)) n cap sz, v => ∃ L off c, μ b = some L ∧ v = .slice (some ⟨L.blk, off, none⟩) n c ∧ n ≤ c ∧ off + c * sz ≤ L.room ∧ L.base ≤ off ∧
      (∀ c', cap = some c' → c = c') ∧ ((n = 0 ∧ (cap = none ∨ cap = some 0)) ∨ off = L.base + o)
  | .map none, v => v = .map none
  | .map (some r), v => ∃ L, μ r = some L ∧ v = .map (some L.blk)
  | .func (.func f) caps, v => ∃ cs : Array Value, VRs μ caps cs.toList ∧ v = .func (.func f) #[] cs
  | .func (.yield l) caps, v => ∃ L, μ l = some L ∧ caps = [] ∧ v = .func (.yield L.blk) #[] #[]
  | .func _ _, _ => False
  | .nilFn, v => v = .nilFunc
  | .iface t x, v => ∃ y, VR μ x y ∧ v = .iface t y
  | .nilIface, v => v = .nilIface
  | .agg cs, v => ∃ ds : Array Value, VRs μ cs ds.toList ∧ v = .agg ds
  | .tup cs, v => ∃ ds : Array Value, VRs μ cs ds.toList ∧ v = .tuple ds
def VRs (μ : Mu) : List AV → List Value → Prop
  | [], l => l = []
  | a :: as, l => ∃ v vs, VR μ a v ∧ VRs μ as vs ∧ l = v :: vs
end

def Mu.le (μ ν : Mu) : Prop := ∀ b L, μ b = some L → ν b = some L
theorem Mu.le_refl (μ : Mu) : μ.le μ := fun _ _ h => h
theorem Mu.le_trans {μ ν ξ : Mu} (h : μ.le ν) (k : ν.le ξ) : μ.le ξ := fun b L e => k b L (h b L e)

mutual
theorem VR.mono {μ ν : Mu} (h : μ.le ν) : ∀ (a : AV) (v : Value), VR μ a v → VR ν a v
  | .int k n, v, e => by simpa [VR] using e
  | .bool b, v, e => by simpa [VR] using e
  | .str s, v, e => by simpa [VR] using e
  | .ptr none, v, e => by simpa [VR] using e
  | .ptr (some (b, o)), v, e => by
    simp only [VR] at e ⊢
    obtain ⟨L, e1, e2⟩ := e; exact ⟨L, h _ _ e1, e2⟩
  | .slc none n cap _, v, e => by simpa [VR] using e
  | .slc (some (b, o)) n cap _, v, e => by
    simp only [VR] at e ⊢
    obtain ⟨L, off, c, e1, e2⟩ := e; exact ⟨L, off, c, h _ _ e1, e2⟩
  | .map none, v, e => by simpa [VR] using e
  | .map (some r), v, e => by
    simp only [VR] at e ⊢
    obtain ⟨L, e1, e2⟩ := e; exact ⟨L, h _ _ e1, e2⟩
  | .func (.func f) caps, v, e => by
    simp only [VR] at e ⊢
    obtain ⟨cs, e1, e2⟩ := e; exact ⟨cs, VRs.mono h _ _ e1, e2⟩
  | .func (.yield l) caps, v, e => by
    simp only [VR] at e ⊢
    obtain ⟨L, e1, e2⟩ := e; exact ⟨L, h _ _ e1, e2⟩
  | .func (.method _) _, _, e => by simp [VR] at e
  | .func (.methodOf _ _) _, _, e => by simp [VR] at e
  | .func (.via _ _ _ _) _, _, e => by simp [VR] at e
  | .nilFn, v, e => by simpa [VR] using e
  | .iface t x, v, e => by
    simp only [VR] at e ⊢
    obtain ⟨y, e1, e2⟩ := e; exact ⟨y, VR.mono h _ _ e1, e2⟩
  | .nilIface, v, e => by simpa [VR] using e
  | .agg cs, v, e => by
    simp only [VR] at e ⊢
    obtain ⟨ds, e1, e2⟩ := e; exact ⟨ds, VRs.mono h _ _ e1, e2⟩
  | .tup cs, v, e => by
    simp only [VR] at e ⊢
    obtain ⟨ds, e1, e2⟩ := e; exact ⟨ds, VRs.mono h _ _ e1, e2⟩
theorem VRs.mono {μ ν : Mu} (h : μ.le ν) : ∀ (as : List AV) (vs : List Value), VRs μ as vs → VRs ν as vs
  | [], vs, e => by simpa [VRs] using e
  | a :: as, vs, e => by
    simp only [VRs] at e ⊢
    obtain ⟨v, vs', e1, e2, e3⟩ := e; exact ⟨v, vs', VR.mono h _ _ e1, VRs.mono h _ _ e2, e3⟩
end

theorem VRs.len {μ : Mu} : ∀ {as : List AV} {vs : List Value}, VRs μ as vs → vs.length = as.length
  | [], vs, e => by simp [VRs] at e; simp [e]
  | a :: as, vs, e => by
    simp only [VRs] at e
    obtain ⟨v, vs', _, e2, rfl⟩ := e; simp [VRs.len e2]

theorem VRs.get {μ : Mu} : ∀ {as : List AV} {vs : List Value}, VRs μ as vs → ∀ {i : Nat} {a : AV}, as[i]? = some a → ∃ v, vs[i]? = some v ∧ VR μ a v
  | [], vs, e, i, a, h => by simp at h
  | x :: as, vs, e, 0, a, h => by
    simp only [VRs] at e
    obtain ⟨v, vs', e1, e2, rfl⟩ := e
    simp at h; subst h; exact ⟨v, rfl, e1⟩
  | x :: as, vs, e, i + 1, a, h => by
    simp only [VRs] at e
    obtain ⟨v, vs', e1, e2, rfl⟩ := e
    simp at h; simpa using VRs.get e2 h

theorem VRs.of_get {μ : Mu} : ∀ {as : List AV} {vs : List Value}, vs.length = as.length → (∀ (i : Nat) (a : AV), as[i]? = some a → ∃ v, vs[i]? = some v ∧ VR μ a v) → VRs μ as vs
  | [], vs, hl, _ => by simp [VRs]; exact List.length_eq_zero_iff.1 (by simpa using hl)
  | x :: as, [], hl, _ => by simp at hl
  | x :: as, v :: vs, hl, h => by
    simp only [VRs]
    refine ⟨v, vs, ?_, VRs.of_get (by simpa using hl) (fun i a e => by simpa using h (i + 1) a (by simpa using e)), rfl⟩
    obtain ⟨w, e, hv⟩ := h 0 x rfl
    simp at e; subst e; exact hv

theorem VRs.append {μ : Mu} : ∀ {as bs : List AV} {vs ws : List Value}, VRs μ as vs → VRs μ bs ws → VRs μ (as ++ bs) (vs ++ ws)
  | [], bs, vs, ws, e, k => by simp [VRs] at e; subst e; simpa using k
  | a :: as, bs, vs, ws, e, k => by
    simp only [VRs] at e
    obtain ⟨v, vs', e1, e2, rfl⟩ := e
    simp only [List.cons_append, VRs]
    exact ⟨v, vs' ++ ws, e1, VRs.append e2 k, rfl⟩

theorem VRs.drop {μ : Mu} {as : List AV} {vs : List Value} (h : VRs μ as vs) (n : Nat) : VRs μ (as.drop n) (vs.drop n) := by
  refine VRs.of_get (by simp [h.len]) fun i a e => ?_
  rw [List.getElem?_drop] at e ⊢
  exact h.get e

theorem VRs.take {μ : Mu} {as : List AV} {vs : List Value} (h : VRs μ as vs) (n : Nat) : VRs μ (as.take n) (vs.take n) := by
  refine VRs.of_get (by simp [h.len]) fun i a e => ?_
  rw [List.getElem?_take] at e ⊢
  split at e
  · rename_i hi; rw [if_pos hi]; exact h.get e
  · simp at e

theorem VRs.set {μ : Mu} {as : List AV} {vs : List Value} (h : VRs μ as vs) (n : Nat) {a : AV} {v : Value} (hv : VR μ a v) : VRs μ (as.set n a) (vs.set n v) := by
  refine VRs.of_get (by simp [h.len]) fun i x e => ?_
  rw [List.getElem?_set] at e ⊢
  have hl := h.len
  split at e
  · rename_i hi; subst hi
    rw [if_pos rfl]
    split at e
    · rename_i hi; rw [if_pos (by omega)]; simp at e; subst e; exact ⟨v, rfl, hv⟩
    · simp at e
  · rename_i hi; rw [if_neg hi]; exact h.get e

theorem VRs.replicate {μ : Mu} {a : AV} {v : Value} (h : VR μ a v) (n : Nat) : VRs μ (List.replicate n a) (List.replicate n v) := by
  refine VRs.of_get (by simp) fun i x e => ?_
  rw [List.getElem?_replicate] at e ⊢
  split at e
  · rename_i hi; rw [if_pos hi]; simp at e; subst e; exact ⟨v, rfl, h⟩
  · simp at e

theorem VR.undef (μ : Mu) : VR μ undefA undef := by simp only [undefA, VR]; exact ⟨#[], by simp [VRs], rfl⟩

theorem VRs.getD {μ : Mu} {as : List AV} {vs : List Value} (h : VRs μ as vs) (i : Nat) : VR μ (as.getD i undefA) (vs.getD i undef) := by
  rcases Nat.lt_or_ge i as.length with hi | hi
  · obtain ⟨v, e, hv⟩ := h.get (List.getElem?_eq_getElem hi)
    rw [List.getD_eq_getElem?_getD, List.getD_eq_getElem?_getD, List.getElem?_eq_getElem hi, e]; exact hv
  · rw [List.getD_eq_getElem?_getD, List.getD_eq_getElem?_getD, List.getElem?_eq_none hi, List.getElem?_eq_none (by rw [h.len]; exact hi)]; exact VR.undef μ

theorem VR.cells {μ : Mu} {a : AV} {v : Value} (h : VR μ a v) : VRs μ a.cells v.cells.toList := by
  cases a with
  | agg cs => simp only [VR] at h; obtain ⟨ds, h, rfl⟩ := h; exact h
  | tup cs => simp only [VR] at h; obtain ⟨ds, h, rfl⟩ := h; simp only [AV.cells, Value.cells, VRs]; exact ⟨_, [], by simp only [VR]; exact ⟨ds, h, rfl⟩, rfl, rfl⟩
  | int k n => simp only [VR] at h; subst h; simp [AV.cells, Value.cells, VRs, VR]
  | bool b => simp only [VR] at h; subst h; simp [AV.cells, Value.cells, VRs, VR]
  | str s => simp only [VR] at h; subst h; simp [AV.cells, Value.cells, VRs, VR]
  | ptr p =>
    have h' := h
    cases p with
    | none => simp only [VR] at h; subst h; simp [AV.cells, Value.cells, VRs, VR]
    | some p => obtain ⟨b, o⟩ := p; simp only [VR] at h; obtain ⟨L, _, rfl⟩ := h; simp only [AV.cells, Value.cells, VRs]; exact ⟨_, [], h', rfl, rfl⟩
  | slc p n c sz =>
    have h' := h
    cases p with
    | none => simp only [VR] at h; obtain ⟨_, _, _, rfl⟩ := h; simp only [AV.cells, Value.cells, VRs]; exact ⟨_, [], h', rfl, rfl⟩
    | some p => obtain ⟨b, o⟩ := p; simp only [VR] at h; obtain ⟨L, _, _, _, rfl, _⟩ := h; simp only [AV.cells, Value.cells, VRs]; exact ⟨_, [], h', rfl, rfl⟩
  | map r =>
    have h' := h
    cases r with
    | none => simp only [VR] at h; subst h; simp [AV.cells, Value.cells, VRs, VR]
    | some p => simp only [VR] at h; obtain ⟨L, _, rfl⟩ := h; simp only [AV.cells, Value.cells, VRs]; exact ⟨_, [], h', rfl, rfl⟩
  | func f caps =>
    have h' := h
    cases f with
    | func f => simp only [VR] at h; obtain ⟨_, _, rfl⟩ := h; simp only [AV.cells, Value.cells, VRs]; exact ⟨_, [], h', rfl, rfl⟩
    | yield l => simp only [VR] at h; obtain ⟨_, _, _, rfl⟩ := h; simp only [AV.cells, Value.cells, VRs]; exact ⟨_, [], h', rfl, rfl⟩
    | method _ => simp [VR] at h
    | methodOf _ _ => simp [VR] at h
    | via _ _ _ _ => simp [VR] at h
  | nilFn => simp only [VR] at h; subst h; simp [AV.cells, Value.cells, VRs, VR]
  | iface t x =>
    have h' := h
    simp only [VR] at h; obtain ⟨_, _, rfl⟩ := h; simp only [AV.cells, Value.cells, VRs]; exact ⟨_, [], h', rfl, rfl⟩
  | nilIface => simp only [VR] at h; subst h; simp [AV.cells, Value.cells, VRs, VR]

/-- A leaf is the value of one cell. -/
theorem VR.leaf {μ : Mu} {a : AV} {v : Value} (h : VR μ a v) (hl : a.leaf = true) : (∀ x, v ≠ .agg x) ∧ (∀ x, v ≠ .tuple x) := by
  cases a with
  | agg _ => simp [AV.leaf] at hl
  | tup _ => simp [AV.leaf] at hl
  | ptr p => cases p with
    | none => simp only [VR] at h; subst h; simp
    | some p => obtain ⟨b, o⟩ := p; simp only [VR] at h; obtain ⟨L, _, rfl⟩ := h; simp
  | slc p n c sz => cases p with
    | none => simp only [VR] at h; obtain ⟨_, _, _, rfl⟩ := h; simp
    | some p => obtain ⟨b, o⟩ := p; simp only [VR] at h; obtain ⟨L, _, _, _, rfl, _⟩ := h; simp
  | map r => cases r with
    | none => simp only [VR] at h; subst h; simp
    | some p => simp only [VR] at h; obtain ⟨L, _, rfl⟩ := h; simp
  | func f caps => cases f with
    | func f => simp only [VR] at h; obtain ⟨_, _, rfl⟩ := h; simp
    | yield l => simp only [VR] at h; obtain ⟨_, _, _, rfl⟩ := h; simp
    | method _ => simp [VR] at h
    | methodOf _ _ => simp [VR] at h
    | via _ _ _ _ => simp [VR] at h
  | iface t x => simp only [VR] at h; obtain ⟨_, _, rfl⟩ := h; simp
  | int k n => simp only [VR] at h; subst h; simp
  | bool b => simp only [VR] at h; subst h; simp
  | str s => simp only [VR] at h; subst h; simp
  | nilFn => simp only [VR] at h; subst h; simp
  | nilIface => simp only [VR] at h; subst h; simp

theorem VR.ofLeaf {μ : Mu} {v : Value} {a : AV} (h : ofLeaf v = some a) : VR μ a v := by
  unfold Am.ofLeaf at h
  split at h <;> first | (simp at h; done) | (simp only [Option.some.injEq] at h; subst h; simp [VR])

theorem VRs.ofLeafs {μ : Mu} : ∀ {vs : List Value} {as : List AV}, ofLeafs vs = some as → VRs μ as vs
  | [], as, h => by simp [Am.ofLeafs] at h; subst h; simp [VRs]
  | v :: vs, as, h => by
    simp only [Am.ofLeafs] at h
    split at h
    · rename_i a m h1 h2
      simp at h; subst h; simp only [VRs]; exact ⟨v, vs, VR.ofLeaf h1, VRs.ofLeafs h2, rfl⟩
    · simp at h

theorem VR.ofValue {μ : Mu} {v : Value} {a : AV} (h : ofValue v = some a) : VR μ a v := by
  unfold Am.ofValue at h
  split at h
  · rename_i cs
    split at h
    · rename_i l e; simp at h; subst h; simp only [VR]; exact ⟨cs, VRs.ofLeafs e, rfl⟩
    · simp at h
  · exact VR.ofLeaf h

/-! ### Heaps -/
def TK.of : TypeDesc → TK
  | .int k => .int k
  | .bool => .bool
  | .string => .str
  | .pointer e => .ptr e
  | .slice e => .slc e
  | .array n e => .arr n e
  | .map k e => .map k e
  | .struct fs => .strct (fs.toList.map fun f => (f.name == "_", f.type, f.offset))
  | .func .. => .func
  | .interface _ => .iface
  | .tuple _ => .tup
  | _ => .other

/-- What a table says of a type is so. -/
structure TypeOk (P : Program) (t : Nat) (ti : TI) : Prop where
  under : ∃ d, P.underlying t = some d ∧ ti.kind = TK.of d
  info : ∃ i, P.info? t = some i ∧ i.size = ti.size ∧ i.bytes = ti.bytes ∧ ∃ z, i.zero = some z ∧ ofLeafs z.cells.toList = some ti.zero
  zlen : ti.zero.length = ti.size
  fields : ∀ fs, P.underlying t = some (.struct fs) → ∀ f ∈ fs.toList, (P.info? f.type).isSome = true
  eq : ti.eqOk = true → P.eqGuardType P.depth t = false ∧ P.stoodInHeld t = false
  zform : ∀ i z, P.info? t = some i → i.zero = some z → (ti.kind.isAgg = true → ∃ cs, z = .agg cs) ∧ (ti.kind.isAgg = false → ∀ cs, z ≠ .agg cs)

def TypesOk (P : Program) (T : TT) : Prop := ∀ t ti, T t = some ti → TypeOk P t ti

def FuncsOk (P : Program) (F : Nat → Option Func) : Prop := ∀ f fn, F f = some fn → P.funcs[f]? = some fn ∧ (fn.name == "runtime.NumGoroutine") = false

/-- What stays as it is: blocks of the heap; true: nobody's. Numbers that are put by. The rest as in a world. -/
structure Frz where
  w : World
  old : Nat → Option (Obj × Bool)
  res : Nat → Bool

/-- All that a world has. -/
def Frz.all (w : World) : Frz := ⟨w, fun k => (w.heap[k]?).map fun o => (o, false), fun _ => false⟩

/-- How an abstract block lies in the heap. -/
def BlkAt (μ : Mu) (z : Nat → Option (Obj × Bool)) (w : World) (L : Loc) : Blk → Prop
  | .cells cs wr => ∃ arr t fz, w.heap[L.blk]? = some (.cells arr t fz) ∧ arr.size = L.room ∧ L.base + cs.length ≤ L.room ∧
      (∀ i a, cs[i]? = some a → ∃ v, arr[L.base + i]? = some v ∧ VR μ a v) ∧ (wr = true → z L.blk = none ∧ ∀ i, i < L.room → ¬ (fz.1 ≤ i ∧ i < fz.2))
  | .map es clock => z L.blk = none ∧ ∃ es', w.heap[L.blk]? = some (.map es' clock) ∧ es'.size = es.length ∧
      ∀ (i : Nat) k v (b : Nat), es[i]? = some (k, v, b) → ∃ e : MapEntry, es'[i]? = some e ∧ VR μ k e.key ∧ VR μ v e.val ∧ e.born = b
  | .loop r => z L.blk = none ∧ ∃ r', w.heap[L.blk]? = some (.loop r') ∧ r'.state = r.state ∧ r'.pending = r.pending ∧ r'.fn = r.fn ∧ VRs μ r.tmps r'.tmps.toList ∧ r'.params.toList = r.params ∧
      r'.assign = r.assign ∧ r'.body = r.body ∧ ∃ D, μ r.defers = some D ∧ r'.defers = D.blk
  | .defers taken => z L.blk = none ∧ w.heap[L.blk]? = some (.deferred (if taken then none else some []))

def Blk.mine : Blk → Bool
  | .cells _ wr => wr
  | _ => true

/-- What else there is in the world is as it was. -/
structure Side (w w' : World) : Prop where
  os : w'.os = w.os
  tape : w'.tape = w.tape
  output : w'.output = w.output

theorem Side.refl (w : World) : Side w w := ⟨rfl, rfl, rfl⟩
theorem Side.trans {a b c : World} (h : Side a b) (k : Side b c) : Side a c := ⟨k.os.trans h.os, k.tape.trans h.tape, k.output.trans h.output⟩

/-- An abstract heap stands for a world's; w0: as it was at first. -/
structure Sim (w0 : Frz) (μ : Mu) (h : Heap) (w : World) : Prop where
  at_ : ∀ b x, h.get b = some x → ∃ L, μ b = some L ∧ BlkAt μ w0.old w L x
  apart : ∀ b c x y L M, h.get b = some x → h.get c = some y → μ b = some L → μ c = some M → x.mine = true → b ≠ c → L.blk ≠ M.blk
  old : ∀ k o b, w0.old k = some (o, b) → w.heap[k]? = some o
  hid : ∀ b x L o, h.get b = some x → μ b = some L → w0.old L.blk ≠ some (o, true)
  dom : ∀ b L, μ b = some L → b < h.nxt
  live : ∀ b, h.nxt ≤ b → h.get b = none
  rsv : ∀ b, w0.res b = true → μ b = none ∧ b < h.nxt
  side : Side w0.w w

theorem Sim.fresh {w0 : Frz} {w : World} {μ : Mu} {h : Heap} (S : Sim w0 μ h w) : w0.old w.heap.size = none := by
  cases e : w0.old w.heap.size with
  | none => rfl
  | some p =>
    have := S.old _ p.1 p.2 (by rw [e])
    have := (Array.getElem?_eq_some_iff.1 this).1
    omega

theorem Heap.lt_of_get {w0 : Frz} {w : World} {μ : Mu} {h : Heap} (S : Sim w0 μ h w) {b : Nat} {x : Blk} (e : h.get b = some x) : b < h.nxt := by
  rcases Nat.lt_or_ge b h.nxt with k | k
  · exact k
  · rw [S.live b k] at e; cases e

def Mu.upd (μ : Mu) (b : Nat) (L : Loc) : Mu := fun c => if b = c then some L else μ c
theorem Mu.upd_same (μ : Mu) (b : Nat) (L : Loc) : μ.upd b L b = some L := by simp [Mu.upd]
theorem Mu.upd_ne (μ : Mu) {b c : Nat} (L : Loc) (h : b ≠ c) : μ.upd b L c = μ c := by simp [Mu.upd, h]

theorem Mu.le_upd {μ : Mu} {b : Nat} {n : Nat} (h : ∀ c L, μ c = some L → c < n) (hb : n ≤ b) (L : Loc) : μ.le (μ.upd b L) := by
  intro c M e
  have := h c M e
  rw [Mu.upd_ne μ L (by omega)]; exact e

theorem BlkAt.mono {μ ν : Mu} {z : Nat → Option (Obj × Bool)} {w w' : World} {L : Loc} {x : Blk} (hm : μ.le ν) (hw : w'.heap[L.blk]? = w.heap[L.blk]?) (h : BlkAt μ z w L x) : BlkAt ν z w' L x := by
  cases x with
  | cells cs wr =>
    obtain ⟨arr, t, fz, h1, h2, h3, h4, h5⟩ := h
    exact ⟨arr, t, fz, hw.trans h1, h2, h3, fun i a e => let ⟨v, e1, e2⟩ := h4 i a e; ⟨v, e1, VR.mono hm _ _ e2⟩, h5⟩
  | map es clock =>
    obtain ⟨h0, es', h1, h2, h3⟩ := h
    exact ⟨h0, es', hw.trans h1, h2, fun i k v b e => let ⟨e', x1, x2, x3, x4⟩ := h3 i k v b e; ⟨e', x1, VR.mono hm _ _ x2, VR.mono hm _ _ x3, x4⟩⟩
  | loop r =>
    obtain ⟨h0, r', h1, h2, h3, h4, h5, h6, h7, h8, D, h9, h10⟩ := h
    exact ⟨h0, r', hw.trans h1, h2, h3, h4, VRs.mono hm _ _ h5, h6, h7, h8, D, hm _ _ h9, h10⟩
  | defers tk => exact ⟨h.1, hw.trans h.2⟩

theorem BlkAt.lt {μ : Mu} {z : Nat → Option (Obj × Bool)} {w : World} {L : Loc} {x : Blk} (h : BlkAt μ z w L x) : L.blk < w.heap.size := by
  cases x with
  | cells cs wr => obtain ⟨arr, t, fz, h1, _⟩ := h; exact (Array.getElem?_eq_some_iff.1 h1).1
  | map es clock => obtain ⟨h0, es', h1, _⟩ := h; exact (Array.getElem?_eq_some_iff.1 h1).1
  | loop r => obtain ⟨h0, r', h1, _⟩ := h; exact (Array.getElem?_eq_some_iff.1 h1).1
  | defers tk => obtain ⟨_, h2⟩ := h; exact (Array.getElem?_eq_some_iff.1 h2).1

theorem BlkAt.ge {μ : Mu} {z : Nat → Option (Obj × Bool)} {w : World} {L : Loc} {x : Blk} (h : BlkAt μ z w L x) (hx : x.mine = true) : z L.blk = none := by
  cases x with
  | cells cs wr => obtain ⟨arr, t, fz, _, _, _, _, h5⟩ := h; exact (h5 hx).1
  | map es clock => exact h.1
  | loop r => exact h.1
  | defers tk => exact h.1

theorem Sim.heap {w0 : Frz} {w w' : World} {μ : Mu} {h : Heap} (S : Sim w0 μ h w) (e : w'.heap = w.heap) (hs : Side w w') : Sim w0 μ h w' := by
  obtain ⟨a, b, c, d, f, g, r, i⟩ := S
  refine ⟨?_, b, fun k o q hk => by rw [e]; exact c k o q hk, d, f, g, r, i.trans hs⟩
  intro k x hk
  obtain ⟨L, e1, e2⟩ := a k x hk
  exact ⟨L, e1, e2.mono (Mu.le_refl _) (by rw [e])⟩

/-- A new block at the heap's end. -/
theorem Sim.add {w0 : Frz} {w : World} {μ : Mu} {h : Heap} (S : Sim w0 μ h w) (x : Blk) (o : Obj) (room : Nat)
    (hx : ∀ ν w', μ.le ν → w'.heap[w.heap.size]? = some o → BlkAt ν w0.old w' ⟨w.heap.size, 0, room⟩ x) :
    μ.le (μ.upd h.nxt ⟨w.heap.size, 0, room⟩) ∧ Sim w0 (μ.upd h.nxt ⟨w.heap.size, 0, room⟩) (h.add x) { w with heap := w.heap.push o } := by
  have hm := Mu.le_upd S.dom (Nat.le_refl _) ⟨w.heap.size, 0, room⟩
  have hold : ∀ k, k < w.heap.size → (w.heap.push o)[k]? = w.heap[k]? := fun k hk => by rw [Array.getElem?_push, if_neg (by omega)]
  refine ⟨hm, ?_, ?_, ?_, ?_, ?_, ?_, fun b hb => ?_, S.side.trans ⟨rfl, rfl, rfl⟩⟩
  · intro b y e
    rw [Heap.get_add] at e
    split at e
    · rename_i hb; subst hb; simp at e; subst e
      exact ⟨_, Mu.upd_same _ _ _, hx _ _ hm (by simp)⟩
    · rename_i hb
      obtain ⟨L, e1, e2⟩ := S.at_ b y e
      exact ⟨L, by rw [Mu.upd_ne _ _ hb]; exact e1, e2.mono hm (hold _ e2.lt)⟩
  · intro b c y z L M e1 e2 e3 e4 hy hne
    rw [Heap.get_add] at e1 e2
    by_cases hb : h.nxt = b
    · subst hb
      rw [Mu.upd_same] at e3; simp at e3; subst e3
      rw [if_neg hne] at e2
      rw [Mu.upd_ne _ _ hne] at e4
      obtain ⟨M', m1, m2⟩ := S.at_ c z e2
      rw [e4] at m1; simp at m1; subst m1
      have := m2.lt; simp; omega
    · rw [if_neg hb] at e1
      rw [Mu.upd_ne _ _ hb] at e3
      obtain ⟨L', l1, l2⟩ := S.at_ b y e1
      rw [e3] at l1; simp at l1; subst l1
      by_cases hc : h.nxt = c
      · subst hc
        rw [Mu.upd_same] at e4; simp at e4; subst e4
        have := l2.lt; simp; omega
      · rw [if_neg hc] at e2
        rw [Mu.upd_ne _ _ hc] at e4
        exact S.apart b c y z L M e1 e2 e3 e4 hy hne
  · intro k q b hk
    have := S.old k q b hk
    exact (hold k (Array.getElem?_eq_some_iff.1 this).1).trans this
  · intro b y L q e1 e2
    rw [Heap.get_add] at e1
    by_cases hb : h.nxt = b
    · subst hb
      rw [Mu.upd_same] at e2; simp at e2; subst e2
      show w0.old w.heap.size ≠ _
      rw [S.fresh]; simp
    · rw [if_neg hb] at e1
      rw [Mu.upd_ne _ _ hb] at e2
      exact S.hid b y L q e1 e2
  · intro b L e
    by_cases hb : h.nxt = b
    · simp; omega
    · rw [Mu.upd_ne _ _ hb] at e; have := S.dom b L e; simp; omega
  · intro b hb
    rw [Heap.get_add]; simp at hb
    rw [if_neg (by omega)]; exact S.live b (by omega)
  · obtain ⟨r1, r2⟩ := S.rsv b hb
    exact ⟨by rw [Mu.upd_ne _ _ (by omega)]; exact r1, by simp; omega⟩

/-- A block of one's own is turned, where it lies. -/
theorem Sim.turn {w0 : Frz} {w w' : World} {μ : Mu} {h : Heap} (S : Sim w0 μ h w) {b : Nat} {x : Blk} (y : Blk) {L : Loc} (hb : h.get b = some x) (hL : μ b = some L) (hx : x.mine = true)
    (_hs : w'.heap.size = w.heap.size) (ho : ∀ k, k ≠ L.blk → w'.heap[k]? = w.heap[k]?) (hy : BlkAt μ w0.old w' L y) (hsd : Side w w') : Sim w0 μ (h.put b y) w' := by
  obtain ⟨L0, l1, l2⟩ := S.at_ b x hb
  rw [hL] at l1; simp at l1; subst l1
  refine ⟨?_, ?_, ?_, ?_, S.dom, ?_, S.rsv, S.side.trans hsd⟩
  · intro c z e
    rw [Heap.get_put] at e
    split at e
    · rename_i hc; subst hc; simp at e; subst e; exact ⟨L, hL, hy⟩
    · rename_i hc
      obtain ⟨M, m1, m2⟩ := S.at_ c z e
      exact ⟨M, m1, m2.mono (Mu.le_refl _) (ho _ (S.apart b c x z L M hb e hL m1 hx hc).symm)⟩
  · intro c d z u M N e1 e2 e3 e4 hz hne
    rw [Heap.get_put] at e1 e2
    by_cases hc : b = c
    · subst hc
      rw [if_neg hne] at e2
      exact S.apart b d x u M N hb e2 e3 e4 hx hne
    · rw [if_neg hc] at e1
      by_cases hd : b = d
      · subst hd
        exact S.apart c b z x M N e1 hb e3 e4 hz hne
      · rw [if_neg hd] at e2
        exact S.apart c d z u M N e1 e2 e3 e4 hz hne
  · intro k q d hk
    have := l2.ge hx
    rw [ho k (by rintro rfl; rw [this] at hk; cases hk)]; exact S.old k q d hk
  · intro c z M q e1 e2
    rw [Heap.get_put] at e1
    split at e1
    · rename_i hc; subst hc; exact S.hid b x M q hb e2
    · exact S.hid c z M q e1 e2
  · intro c hc
    rw [Heap.get_put, if_neg (by have := Heap.lt_of_get S hb; simp at hc; omega)]
    exact S.live c hc

/-- A block is let go. -/
theorem Sim.del {w0 : Frz} {w : World} {μ : Mu} {h : Heap} (S : Sim w0 μ h w) (b : Nat) : Sim w0 μ (h.del b) w := by
  refine ⟨?_, ?_, S.old, ?_, S.dom, ?_, S.rsv, S.side⟩
  · intro c z e
    rw [Heap.get_del] at e
    split at e
    · cases e
    · exact S.at_ c z e
  · intro c d z u M N e1 e2 e3 e4 hz hne
    rw [Heap.get_del] at e1 e2
    split at e1
    · cases e1
    · split at e2
      · cases e2
      · exact S.apart c d z u M N e1 e2 e3 e4 hz hne
  · intro c z M q e1 e2
    rw [Heap.get_del] at e1
    split at e1
    · cases e1
    · exact S.hid c z M q e1 e2
  · intro c hc
    rw [Heap.get_del]; split
    · rfl
    · exact S.live c hc

end Go.Am
