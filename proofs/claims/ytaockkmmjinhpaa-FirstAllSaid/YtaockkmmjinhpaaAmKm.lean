import Derived.Test.YtaockkmmjinhpaaAmB
import Derived.Laws.Cells
import Derived.Laws.Entries
import Derived.Laws.StructEq
import Derived.Laws.BytesString
import GoSem.Instr.MapUpdate
import GoSem.Instr.MakeMap
/-
  The abstract machine: memory. What loads and stores come to in the model.
-/
namespace Go.Am
variable {P : Program} {T : TT} {w0 : Frz} {w : World} {μ : Mu} {h : Heap}

theorem add_flat (b o n : Nat) : (⟨b, o, none⟩ : Addr).add n = ⟨b, o + n, none⟩ := by
  unfold Addr.add; split
  · rename_i e; subst e; rfl
  · rfl

theorem run_under {t : Nat} {d : TypeDesc} (e : P.underlying t = some d) (w : World) : (underlying t).run P w = .ok d w := by
  simp [underlying, e]

theorem run_info {t : Nat} {i : TypeInfo} (e : P.info? t = some i) (w : World) : (typeInfo t).run P w = .ok i w := by
  simp [typeInfo, e]

theorem TypeOk.size {t : Nat} {ti : TI} (k : TypeOk P t ti) (w : World) : (sizeOf t).run P w = .ok ti.size w := by
  obtain ⟨i, e1, e2, e3, e4⟩ := k.info
  simp [sizeOf, run_info e1, e2]

theorem TypeOk.zero' {t : Nat} {ti : TI} (k : TypeOk P t ti) : ∃ z, (∀ w, (zeroValue t).run P w = .ok z w) ∧ ofLeafs z.cells.toList = some ti.zero := by
  obtain ⟨i, e1, e2, e3, z, e4, e5⟩ := k.info
  refine ⟨z, fun w => ?_, e5⟩
  simp [zeroValue, run_info e1, e4]

theorem TypeOk.isAgg' {t : Nat} {ti : TI} (k : TypeOk P t ti) (w : World) : (isAgg t).run P w = .ok ti.kind.isAgg w := by
  obtain ⟨d, e1, e2⟩ := k.under
  simp only [isAgg, Sem.run_bind, run_under e1, Result.andThen_ok, e2]
  cases d <;> rfl

theorem Sim.cells {b : Nat} {cs : List AV} {wr : Bool} {L : Loc} (S : Sim w0 μ h w) (hb : h.get b = some (.cells cs wr)) (hL : μ b = some L) :
    ∃ arr t fz, w.heap[L.blk]? = some (.cells arr t fz) ∧ arr.size = L.room ∧ L.base + cs.length ≤ L.room ∧
      (∀ i a, cs[i]? = some a → ∃ v, arr[L.base + i]? = some v ∧ VR μ a v) ∧ (wr = true → w0.old L.blk = none ∧ ∀ i, i < L.room → ¬ (fz.1 ≤ i ∧ i < fz.2)) := by
  obtain ⟨L', e1, e2⟩ := S.at_ b _ hb
  rw [hL] at e1; simp at e1; subst e1; exact e2

theorem cell_of_heap {b o : Nat} {arr : Array Value} {t : TypeId} {fz : Nat × Nat} (e : w.heap[b]? = some (.cells arr t fz)) : w.cell? ⟨b, o, none⟩ = arr[o]? := by
  simp [World.cell?, e]

/-- Cells that are loaded. -/
theorem run_cells {b o n : Nat} {l : List AV} {L : Loc} (S : Sim w0 μ h w) (hL : μ b = some L) (hl : loadCells h b o n = some l) :
    ∃ vs : List Value, (∀ w1 : World, w1.heap = w.heap → (Go.loadCells ⟨L.blk, L.base + o, none⟩ n).run P w1 = .ok vs.toArray w1) ∧ VRs μ l vs := by
  unfold Am.loadCells at hl
  split at hl
  · rename_i cs wr hb
    split at hl
    · rename_i hn
      simp at hl; subst hl
      obtain ⟨arr, t, fz, h1, h2, h3, h4, h5⟩ := S.cells hb hL
      have hex : ∀ j, j < n → ∃ v, arr[L.base + o + j]? = some v ∧ VR μ (cs.getD (o + j) undefA) v := fun j hj => by
        obtain ⟨v, e1, e2⟩ := h4 (o + j) cs[o + j] (List.getElem?_eq_getElem (by omega))
        refine ⟨v, by rw [← e1]; congr 1; omega, ?_⟩
        rwa [List.getD_eq_getElem?_getD, List.getElem?_eq_getElem (by omega : o + j < cs.length)]
      let vs : List Value := (List.range n).map fun j => (arr[L.base + o + j]?).getD undef
      refine ⟨vs, ?_, ?_⟩
      · intro w1 hw1
        have := run_loadCells_list (P := P) w1 ⟨L.blk, L.base + o, none⟩ vs (fun j v e => by
          simp only [vs, List.getElem?_map] at e
          have hj : j < n := by
            rcases Nat.lt_or_ge j n with k | k
            · exact k
            · simp [List.getElem?_eq_none (by simpa using k : (List.range n).length ≤ j)] at e
          obtain ⟨u, e1, _⟩ := hex j hj
          simp [hj, e1] at e; subst e
          rw [add_flat, cell_of_heap (hw1 ▸ h1)]; exact e1)
        simpa [vs] using this
      · refine VRs.of_get (by simp [vs]; omega) fun i a e => ?_
        rw [List.getElem?_take] at e
        split at e
        · rename_i hi
          rw [List.getElem?_drop] at e
          obtain ⟨u, e1, e2⟩ := hex i hi
          refine ⟨u, by simp [vs, hi, e1], ?_⟩
          rwa [List.getD_eq_getElem?_getD, e] at e2
        · simp at e
    · simp at hl
  · simp at hl

theorem run_cell {b o : Nat} {cs : List AV} {wr : Bool} {a : AV} {L : Loc} (S : Sim w0 μ h w) (hL : μ b = some L) (hb : h.get b = some (.cells cs wr)) (ha : cs[o]? = some a) :
    ∃ v, (Go.load ⟨L.blk, L.base + o, none⟩).run P w = .ok v w ∧ VR μ a v := by
  obtain ⟨arr, t, fz, h1, h2, h3, h4, h5⟩ := S.cells hb hL
  obtain ⟨v, e1, e2⟩ := h4 o a ha
  exact ⟨v, by rw [run_load, cell_of_heap h1, e1], e2⟩

theorem run_loadVar (hT : TypesOk P T) {t b o : Nat} {a : AV} {L : Loc} (S : Sim w0 μ h w) (hL : μ b = some L) (ha : loadVar T h t b o = some a) :
    ∃ v, (Go.loadVar t ⟨L.blk, L.base + o, none⟩).run P w = .ok v w ∧ VR μ a v := by
  unfold Am.loadVar at ha
  split at ha
  · rename_i ti ht
    have k := hT _ _ ht
    split at ha
    · rename_i hg
      split at ha
      · rename_i l hl
        simp at ha; subst ha
        obtain ⟨vs, e1, e2⟩ := run_cells (P := P) S hL hl
        refine ⟨.agg vs.toArray, ?_, by simp only [VR]; exact ⟨_, by simpa using e2, rfl⟩⟩
        simp [Go.loadVar, k.isAgg', hg, k.size, e1 w rfl]
      · simp at ha
    · rename_i hg
      split at ha
      · rename_i cs wr hb
        obtain ⟨v, e1, e2⟩ := run_cell (P := P) S hL hb ha
        have hg' : ti.kind.isAgg = false := by simpa using hg
        refine ⟨v, ?_, e2⟩
        simp only [Go.loadVar, Sem.run_bind, k.isAgg', hg', Result.andThen_ok, Bool.false_eq_true, if_false]
        exact e1
      · simp at ha
  · simp at ha

/-- One cell is stored. -/
theorem run_store1 {b o : Nat} {cs : List AV} {a : AV} {v : Value} {L : Loc} (S : Sim w0 μ h w) (hL : μ b = some L) (hb : h.get b = some (.cells cs true)) (ho : o < cs.length) (hv : VR μ a v) (hl : a.leaf = true) :
    ∃ w', (Go.store ⟨L.blk, L.base + o, none⟩ v).run P w = .ok () w' ∧ Sim w0 μ (h.put b (.cells (cs.set o a) true)) w' := by
  obtain ⟨arr, t, fz, h1, h2, h3, h4, h5⟩ := S.cells hb hL
  have hcell : ∃ u, w.cell? ⟨L.blk, L.base + o, none⟩ = some u := by
    obtain ⟨u, e1, _⟩ := h4 o cs[o] (List.getElem?_eq_getElem ho)
    exact ⟨u, by rw [cell_of_heap h1]; exact e1⟩
  obtain ⟨u, hu⟩ := hcell
  have hfz : w.frozen? ⟨L.blk, L.base + o, none⟩ = false := by
    have := (h5 rfl).2 (L.base + o) (by omega)
    simp only [World.frozen?, h1]
    simpa using this
  have hone : v.oneCell' = true := by
    obtain ⟨k1, k2⟩ := hv.leaf hl
    cases v with
    | agg x => exact absurd rfl (k1 x)
    | tuple x => exact absurd rfl (k2 x)
    | _ => rfl
  refine ⟨w.setCell ⟨L.blk, L.base + o, none⟩ v, by rw [run_store P w _ v _ hone, hu]; simp [hfz], ?_⟩
  have hlt : L.blk < w.heap.size := (Array.getElem?_eq_some_iff.1 h1).1
  have hnew : (w.setCell ⟨L.blk, L.base + o, none⟩ v).heap[L.blk]? = some (.cells (arr.setIfInBounds (L.base + o) v) t fz) := by
    simp only [World.setCell, Array.getElem?_modify, if_true, h1, Option.map_some]
    simp
  refine S.turn (.cells (cs.set o a) true) hb hL rfl (by simp [World.setCell]) (fun k hk => ?_) ?_ ⟨rfl, rfl, rfl⟩
  · simp only [World.setCell, Array.getElem?_modify]
    rw [if_neg (fun e => hk e.symm)]
  · refine ⟨_, t, fz, hnew, by simpa using h2, by simpa using h3, fun i x e => ?_, h5⟩
    rw [List.getElem?_set] at e
    split at e
    · rename_i hi; subst hi
      simp at e; subst e
      exact ⟨v, by rw [Array.getElem?_setIfInBounds]; simp; omega, hv⟩
    · rename_i hi
      obtain ⟨y, e1, e2⟩ := h4 i x e
      exact ⟨y, by rw [Array.getElem?_setIfInBounds, if_neg (by omega)]; exact e1, e2⟩

/-- Heaps that read alike. -/
def Heap.Same (h k : Heap) : Prop := h.nxt = k.nxt ∧ ∀ b, h.get b = k.get b

theorem Sim.same {h k : Heap} (S : Sim w0 μ h w) (e : Heap.Same h k) : Sim w0 μ k w := by
  obtain ⟨e1, e2⟩ := e
  refine ⟨fun b x hb => S.at_ b x (by rw [e2]; exact hb), fun b c x y L M k1 k2 => S.apart b c x y L M (by rw [e2]; exact k1) (by rw [e2]; exact k2), S.old, fun b x L o e => S.hid b x L o (by rw [e2]; exact e), fun b L hb => by rw [← e1]; exact S.dom b L hb, fun b hb => by rw [← e2]; exact S.live b (by rw [e1]; exact hb), fun b hb => by rw [← e1]; exact S.rsv b hb, S.side⟩

theorem setCells_len : ∀ (vs : List AV) (cs : List AV) (o : Nat), (setCells cs o vs).length = cs.length
  | [], cs, o => rfl
  | v :: vs, cs, o => by rw [setCells, setCells_len vs]; simp

theorem Heap.put_get_self {b : Nat} {x : Blk} (e : h.get b = some x) : Heap.Same h (h.put b x) := by
  refine ⟨rfl, fun c => ?_⟩
  rw [Heap.get_put]; split
  · rename_i k; subst k; exact e
  · rfl

theorem Heap.put_put (h : Heap) (b : Nat) (x y : Blk) : Heap.Same ((h.put b x).put b y) (h.put b y) := by
  refine ⟨rfl, fun c => ?_⟩
  simp only [Heap.get_put]; split <;> rfl

theorem run_stores {b : Nat} {L : Loc} (hL : μ b = some L) : ∀ (as : List AV) (vs : List Value) (o i : Nat) (cs : List AV) (h : Heap) (w : World), Sim w0 μ h w → h.get b = some (.cells cs true) → o + i + as.length ≤ cs.length →
    VRs μ as vs → (∀ a ∈ as, a.leaf = true) → ∃ w', (Go.storeCells ⟨L.blk, L.base + o, none⟩ vs i).run P w = .ok () w' ∧ Sim w0 μ (h.put b (.cells (setCells cs (o + i) as) true)) w'
  | [], vs, o, i, cs, h, w, S, hb, hlen, hv, hl => by
    simp only [VRs] at hv; subst hv
    exact ⟨w, by simp [Go.storeCells], by simpa [setCells] using S.same (Heap.put_get_self hb)⟩
  | a :: as, vs, o, i, cs, h, w, S, hb, hlen, hv, hl => by
    simp only [VRs] at hv
    obtain ⟨v, vs', hv1, hv2, rfl⟩ := hv
    obtain ⟨w1, e1, S1⟩ := run_store1 (P := P) S hL hb (o := o + i) (by simp at hlen; omega) hv1 (hl a (by simp))
    obtain ⟨w2, e2, S2⟩ := run_stores hL as vs' o (i + 1) _ _ w1 S1 (by rw [Heap.get_put, if_pos rfl]) (by simp at hlen ⊢; omega) hv2 (fun x hx => hl x (by simp [hx]))
    refine ⟨w2, ?_, ?_⟩
    · simp only [Go.storeCells, Sem.run_bind, add_flat]
      rw [show L.base + o + i = L.base + (o + i) by omega, e1]
      exact e2
    · rw [setCells]
      rw [show o + (i + 1) = o + i + 1 by omega] at S2
      exact S2.same (Heap.put_put _ _ _ _)

theorem run_storeCells {b o : Nat} {as : List AV} {vs : List Value} {h' : Heap} {L : Loc} (S : Sim w0 μ h w) (hL : μ b = some L) (hv : VRs μ as vs) (hs : storeCells h b o as = some h') :
    ∃ w', (Go.storeCells ⟨L.blk, L.base + o, none⟩ vs).run P w = .ok () w' ∧ Sim w0 μ h' w' := by
  unfold Am.storeCells at hs
  split at hs
  · rename_i cs hb
    split at hs
    · rename_i hc
      simp at hs; subst hs
      obtain ⟨w', e1, e2⟩ := run_stores (P := P) hL as vs o 0 cs h w S hb (by simpa using hc.1) hv (by simpa [List.all_eq_true] using hc.2)
      exact ⟨w', e1, by simpa using e2⟩
    · simp at hs
  · simp at hs

theorem run_storeVar (hT : TypesOk P T) {t b o : Nat} {a : AV} {v : Value} {h' : Heap} {L : Loc} (S : Sim w0 μ h w) (hL : μ b = some L) (hv : VR μ a v) (hs : storeVar T h t b o a = some h') :
    ∃ w', (Go.storeVar t ⟨L.blk, L.base + o, none⟩ v).run P w = .ok () w' ∧ Sim w0 μ h' w' := by
  unfold Am.storeVar at hs
  split at hs
  · rename_i ti ht
    have k := hT _ _ ht
    split at hs
    · rename_i hc
      have hcl := hv.cells
      obtain ⟨w', e1, e2⟩ := run_storeCells (P := P) S hL hcl hs
      refine ⟨w', ?_, e2⟩
      have hsz : v.cells.size = ti.size := by have := hcl.len; simp at this; omega
      simp [Go.storeVar, k.size, hsz, e1]
    · simp at hs
  · simp at hs

/-- A new variable. -/
theorem Sim.addCells (S : Sim w0 μ h w) (cs : List AV) (arr : Array Value) (t : TypeId) (hl : cs.length ≤ arr.size) (hv : ∀ (i : Nat) (a : AV), cs[i]? = some a → ∃ v, arr[i]? = some v ∧ VR μ a v) :
    μ.le (μ.upd h.nxt ⟨w.heap.size, 0, arr.size⟩) ∧ Sim w0 (μ.upd h.nxt ⟨w.heap.size, 0, arr.size⟩) (h.add (.cells cs true)) { w with heap := w.heap.push (.cells arr t) } :=
  S.add (.cells cs true) (.cells arr t) arr.size fun ν w' hν hw => ⟨arr, t, (0, 0), hw, rfl, by simpa using hl,
    fun i a e => let ⟨v, e1, e2⟩ := hv i a e; ⟨v, by simpa using e1, VR.mono hν _ _ e2⟩, fun _ => ⟨S.fresh, fun i _ => by simp⟩⟩

theorem VRs.arr {as : List AV} {arr : Array Value} (k : VRs μ as arr.toList) : ∀ (i : Nat) (a : AV), as[i]? = some a → ∃ v, arr[i]? = some v ∧ VR μ a v := fun i a e => by
  obtain ⟨v, e1, e2⟩ := k.get e
  exact ⟨v, by simpa using e1, e2⟩

theorem run_part (hT : TypesOk P T) {t off : Nat} {cs : List AV} {ds : Array Value} {a : AV} (hv : VRs μ cs ds.toList) (ha : part T t cs off = some a) :
    ∃ v, (∀ w, (Go.part t ds off).run P w = .ok v w) ∧ VR μ a v := by
  unfold Am.part at ha
  split at ha
  · rename_i ti ht
    have k := hT _ _ ht
    split at ha
    · rename_i hg
      split at ha
      · rename_i hn
        simp at ha; subst ha
        refine ⟨.agg (ds.extract off (off + ti.size)), fun w => by simp [Go.part, k.isAgg', hg, k.size], ?_⟩
        simp only [VR]
        refine ⟨_, ?_, rfl⟩
        have := (hv.drop off).take ti.size
        simpa [Array.toList_extract, List.extract] using this
      · simp at ha
    · rename_i hg
      obtain ⟨v, e1, e2⟩ := hv.get ha
      have hg' : ti.kind.isAgg = false := by simpa using hg
      have e1' : ds[off]? = some v := by simpa using e1
      exact ⟨v, fun w => by simp [Go.part, k.isAgg', hg', e1'], e2⟩
  · simp at ha

end Go.Am

/-
  The abstract machine: numbers, strings, equality, what is read: what these come to in the model.
-/
namespace Go.Am
variable {P : Program} {T : TT} {w0 : Frz} {w : World} {μ : Mu} {h h' : Heap}

/-- What an operation comes to. -/
def OpTo (P : Program) (w0 : Frz) (μ : Mu) (w : World) (s : Sem Value) (a : AV) (h' : Heap) : Prop :=
  ∃ μ' w' v, s.run P w = .ok v w' ∧ μ.le μ' ∧ Sim w0 μ' h' w' ∧ VR μ' a v

theorem OpTo.plain {s : Sem Value} {a : AV} {v : Value} (S : Sim w0 μ h w) (e : s.run P w = .ok v w) (hv : VR μ a v) : OpTo P w0 μ w s a h :=
  ⟨μ, w, v, e, Mu.le_refl _, S, hv⟩

/-! ### numbers and strings -/
def scal : AV → Value
  | .int k n => .int k n
  | .bool b => .bool b
  | .str s => .string ⟨s.toArray⟩
  | _ => undef

theorem intOp_run {op : BinOp} {k : IntKind} {x y : Int} {a : AV} (e : intOp op k x y = some a) (t : TypeId) :
    (∀ w, (binOp op t (.int k x) (.int k y)).run P w = .ok (scal a) w) ∧ ∀ μ, VR μ a (scal a) := by
  cases op <;> simp only [intOp] at e <;> first
    | (simp at e; done)
    | (split at e
       · simp at e
       · rename_i h0
         simp only [Option.some.injEq] at e; subst e
         exact ⟨fun w => by simp [binOp, Op.intDiv, h0, scal], fun μ => by simp [VR, scal]⟩)
    | (simp only [Option.some.injEq] at e; subst e
       exact ⟨fun w => by simp [binOp, Op.intArith, Op.intBits, Op.intCmp, scal], fun μ => by simp [VR, scal]⟩)

theorem shiftOp_run {op : BinOp} {k k' : IntKind} {x y : Int} {a : AV} (e : shiftOp op k x y = some a) (hs : op = .shl ∨ op = .shr) (t : TypeId) :
    (∀ w, (binOp op t (.int k x) (.int k' y)).run P w = .ok (scal a) w) ∧ ∀ μ, VR μ a (scal a) := by
  unfold shiftOp at e
  split at e
  · simp at e
  · rename_i hy
    rcases hs with rfl | rfl
    · simp only [Option.some.injEq] at e; subst e
      exact ⟨fun w => by simp [binOp, Op.shift, hy, scal], fun μ => by simp [VR, scal]⟩
    · simp only [Option.some.injEq] at e; subst e
      exact ⟨fun w => by simp [binOp, Op.shift, hy, scal], fun μ => by simp [VR, scal]⟩

theorem size_mk (l : List UInt8) : (⟨l.toArray⟩ : ByteArray).size = l.length := by simp [ByteArray.size]

theorem strOp_run {op : BinOp} {x y : List UInt8} {a : AV} (e : strOp op x y = some a) (t : TypeId) :
    (∀ w, (binOp op t (.string ⟨x.toArray⟩) (.string ⟨y.toArray⟩)).run P w = .ok (scal a) w) ∧ ∀ μ, VR μ a (scal a) := by
  cases op <;> simp only [strOp] at e <;> try (simp at e; done)
  · split at e
    · simp at e
    · rename_i hn
      simp only [Option.some.injEq] at e; subst e
      refine ⟨fun w => ?_, fun μ => by simp [VR, scal]⟩
      have hm : IntKind.i64.max = 9223372036854775807 := by decide
      have ha : (⟨x.toArray⟩ : ByteArray) ++ ⟨y.toArray⟩ = ⟨(x ++ y).toArray⟩ := by
        apply ByteArray.ext
        simp
      simp only [binOp, Op.stringOp, size_mk, hm]
      rw [if_neg hn, ha]; rfl
  all_goals
    simp only [Option.some.injEq] at e; subst e
    exact ⟨fun w => by simp [binOp, Op.stringOp, scal], fun μ => by simp [VR, scal]⟩

/-! ### equality -/
theorem TK.of_bool {d : TypeDesc} (e : TK.of d = .bool) : d = .bool := by cases d <;> simp_all [TK.of]
theorem TK.of_int {d : TypeDesc} {k : IntKind} (e : TK.of d = .int k) : d = .int k := by cases d <;> simp_all [TK.of]
theorem TK.of_str {d : TypeDesc} (e : TK.of d = .str) : d = .string := by cases d <;> simp_all [TK.of]
theorem TK.of_ptr {d : TypeDesc} {k : Nat} (e : TK.of d = .ptr k) : d = .pointer k := by cases d <;> simp_all [TK.of]
theorem TK.of_slc {d : TypeDesc} {k : Nat} (e : TK.of d = .slc k) : d = .slice k := by cases d <;> simp_all [TK.of]
theorem TK.of_arr {d : TypeDesc} {n k : Nat} (e : TK.of d = .arr n k) : d = .array n k := by cases d <;> simp_all [TK.of]
theorem TK.of_map {d : TypeDesc} {n k : Nat} (e : TK.of d = .map n k) : d = .map n k := by cases d <;> simp_all [TK.of]
theorem TK.of_func {d : TypeDesc} (e : TK.of d = .func) : ∃ a b c, d = .func a b c := by cases d <;> simp_all [TK.of]
theorem TK.of_strct {d : TypeDesc} {fs : List (Bool × Nat × Nat)} (e : TK.of d = .strct fs) : ∃ gs : Array Field, d = .struct gs ∧ fs = gs.toList.map fun f => (f.name == "_", f.type, f.offset) := by
  cases d <;> simp_all [TK.of]

theorem eqFields_run (hT : TypesOk P T) {d e : Nat} (ih : ∀ t x y b vx vy, eqv T d t x y = some b → VR μ x vx → VR μ y vy → ∀ w, (Op.equalIn (d + e) t vx vy).run P w = .ok b w)
    {xs ys : List AV} {vxs vys : Array Value} (hx : VRs μ xs vxs.toList) (hy : VRs μ ys vys.toList) : ∀ (gs : List Field) (b : Bool),
    eqFs T (eqv T d) xs ys (gs.map fun f => (f.name == "_", f.type, f.offset)) = some b → ∀ w, (Op.eqFields (d + e) vxs vys gs).run P w = .ok b w
  | [], b, e1, w => by simp [eqFs] at e1; simp [Op.eqFields, e1]
  | g :: gs, b, e1, w => by
    simp only [List.map_cons, eqFs] at e1
    by_cases hn : g.name = "_"
    · simp only [hn, beq_self_eq_true, if_true] at e1
      simp only [Op.eqFields, hn, ne_eq, not_true_eq_false, if_false]
      exact eqFields_run hT ih hx hy gs b e1 w
    · have hb : (g.name == "_") = false := by simpa using hn
      rw [hb] at e1
      simp only [Bool.false_eq_true, if_false] at e1
      split at e1
      · rename_i a c ha hc
        obtain ⟨va, r1, r2⟩ := run_part (P := P) hT hx ha
        obtain ⟨vc, r3, r4⟩ := run_part (P := P) hT hy hc
        split at e1
        · rename_i hq
          simp only [Op.eqFields, ne_eq, hn, not_false_eq_true, if_true, Sem.run_bind, r1, r3, Result.andThen_ok, ih _ _ _ _ _ _ hq r2 r4]
          simp only [Bool.not_true, Bool.false_eq_true, if_false]
          exact eqFields_run hT ih hx hy gs b e1 w
        · rename_i hq
          simp at e1; subst e1
          simp only [Op.eqFields, ne_eq, hn, not_false_eq_true, if_true, Sem.run_bind, r1, r3, Result.andThen_ok, ih _ _ _ _ _ _ hq r2 r4]
          simp
        · simp at e1
      · simp at e1

theorem eqv_run (hT : TypesOk P T) (e : Nat) : ∀ (d t : Nat) (x y : AV) (b : Bool) (vx vy : Value), eqv T d t x y = some b → VR μ x vx → VR μ y vy → ∀ w, (Op.equalIn (d + e) t vx vy).run P w = .ok b w
  | 0, t, x, y, b, vx, vy, h, _, _ => by simp [eqv] at h
  | d + 1, t, x, y, b, vx, vy, hq, hx, hy => by
    intro w
    have ih := eqv_run hT e d
    rw [show d + 1 + e = (d + e) + 1 by omega]
    unfold eqv at hq
    split at hq
    · simp at hq
    · rename_i ti ht
      have k := hT _ _ ht
      obtain ⟨dd, hu, hk⟩ := k.under
      split at hq
      · rename_i a c hk'
        simp only [VR] at hx hy; subst hx hy; simp at hq; subst hq
        rw [hk'] at hk; have hd := TK.of_bool hk.symm; subst hd
        simp [Op.equalIn, run_under hu]
      · rename_i k1 k2 a k3 c hk'
        simp only [VR] at hx hy; subst hx hy
        split at hq
        · rename_i hkk; simp at hq; subst hq
          rw [hk'] at hk; have hd := TK.of_int hk.symm; subst hd
          simp [Op.equalIn, run_under hu, hkk]
        · simp at hq
      · rename_i a c hk'
        simp only [VR] at hx hy; subst hx hy; simp at hq; subst hq
        rw [hk'] at hk; have hd := TK.of_str hk.symm; subst hd
        simp [Op.equalIn, run_under hu, beq_toListBytes]
      · rename_i e1 c hk'
        rw [hk'] at hk; have hd := TK.of_ptr hk.symm; subst hd
        simp only [VR] at hx; subst hx
        cases c with
        | none => simp only [VR] at hy; subst hy; simp at hq; subst hq; simp [Op.equalIn, run_under hu]
        | some p => obtain ⟨b1, o1⟩ := p; simp only [VR] at hy; obtain ⟨L, _, rfl⟩ := hy; simp at hq; subst hq; simp [Op.equalIn, run_under hu]
      · rename_i e1 p hk'
        rw [hk'] at hk; have hd := TK.of_ptr hk.symm; subst hd
        obtain ⟨b1, o1⟩ := p
        simp only [VR] at hx hy; obtain ⟨L, _, rfl⟩ := hx; subst hy; simp at hq; subst hq
        simp [Op.equalIn, run_under hu]
      · rename_i e1 n1 c1 z1 c n2 c2 z2 hk'
        rw [hk'] at hk; have hd := TK.of_slc hk.symm; subst hd
        simp only [VR] at hx; obtain ⟨c3, _, _, rfl⟩ := hx
        cases c with
        | none => simp only [VR] at hy; obtain ⟨c4, _, _, rfl⟩ := hy; simp at hq; subst hq; simp [Op.equalIn, run_under hu]
        | some p => obtain ⟨b1, o1⟩ := p; simp only [VR] at hy; obtain ⟨L, _, _, _, rfl, _⟩ := hy; simp at hq; subst hq; simp [Op.equalIn, run_under hu]
      · rename_i e1 p n1 c1 z1 n2 c2 z2 hk'
        rw [hk'] at hk; have hd := TK.of_slc hk.symm; subst hd
        obtain ⟨b1, o1⟩ := p
        simp only [VR] at hx hy; obtain ⟨L, _, _, _, rfl, _⟩ := hx; obtain ⟨c4, _, _, rfl⟩ := hy; simp at hq; subst hq
        simp [Op.equalIn, run_under hu]
      · rename_i e1 e2 c hk'
        rw [hk'] at hk; have hd := TK.of_map hk.symm; subst hd
        simp only [VR] at hx; subst hx
        cases c with
        | none => simp only [VR] at hy; subst hy; simp at hq; subst hq; simp [Op.equalIn, run_under hu]
        | some p => simp only [VR] at hy; obtain ⟨L, _, rfl⟩ := hy; simp at hq; subst hq; simp [Op.equalIn, run_under hu]
      · rename_i e1 e2 p hk'
        rw [hk'] at hk; have hd := TK.of_map hk.symm; subst hd
        simp only [VR] at hx hy; obtain ⟨L, _, rfl⟩ := hx; subst hy; simp at hq; subst hq
        simp [Op.equalIn, run_under hu]
      · rename_i hk'
        rw [hk'] at hk; obtain ⟨_, _, _, hd⟩ := TK.of_func hk.symm; subst hd
        simp only [VR] at hx hy; subst hx hy; simp at hq; subst hq
        simp [Op.equalIn, run_under hu]
      · rename_i f1 caps hk'
        rw [hk'] at hk; obtain ⟨_, _, _, hd⟩ := TK.of_func hk.symm; subst hd
        simp only [VR] at hx; subst hx; simp at hq; subst hq
        cases f1 with
        | func f => simp only [VR] at hy; obtain ⟨_, _, rfl⟩ := hy; simp [Op.equalIn, run_under hu]
        | yield l => simp only [VR] at hy; obtain ⟨_, _, _, rfl⟩ := hy; simp [Op.equalIn, run_under hu]
        | method _ => simp [VR] at hy
        | methodOf _ _ => simp [VR] at hy
        | via _ _ _ _ => simp [VR] at hy
      · rename_i f1 caps hk'
        rw [hk'] at hk; obtain ⟨_, _, _, hd⟩ := TK.of_func hk.symm; subst hd
        simp only [VR] at hy; subst hy; simp at hq; subst hq
        cases f1 with
        | func f => simp only [VR] at hx; obtain ⟨_, _, rfl⟩ := hx; simp [Op.equalIn, run_under hu]
        | yield l => simp only [VR] at hx; obtain ⟨_, _, _, rfl⟩ := hx; simp [Op.equalIn, run_under hu]
        | method _ => simp [VR] at hx
        | methodOf _ _ => simp [VR] at hx
        | via _ _ _ _ => simp [VR] at hx
      · rename_i fs xs ys hk'
        rw [hk'] at hk; obtain ⟨gs, hd, hfs⟩ := TK.of_strct hk.symm; subst hd
        simp only [VR] at hx hy; obtain ⟨vxs, hx, rfl⟩ := hx; obtain ⟨vys, hy, rfl⟩ := hy
        split at hq
        · rename_i hok
          have hfo : P.fieldsOf t = gs := by simp [Program.fieldsOf, hu]
          rw [run_equalIn_struct w (d + e) t vxs vys (by rw [hfo]; exact hu) (k.eq hok).2, hfo]
          subst hfs
          exact eqFields_run hT ih hx hy gs.toList b hq w
        · simp at hq
      · simp at hq

end Go.Am

/-
  The abstract machine: what is built, cut, read, appended, made: what these come to in the model.
-/
namespace Go.Am
variable {P : Program} {T : TT} {w0 : Frz} {w : World} {μ : Mu} {h h' : Heap}

theorem eqGuard_plain (op : BinOp) (t : TypeId) (ox oy : Operand) (a b : Value) (h1 : ∀ x y, ¬ (a = .agg x ∧ b = .agg y)) (h2 : ¬ (a = .nilIface ∧ b = .nilIface)) : (eqGuard op t ox oy a b).run P w = .ok () w := by
  unfold eqGuard
  cases a <;> cases b <;> first
    | exact absurd ⟨rfl, rfl⟩ h2
    | exact absurd ⟨rfl, rfl⟩ (h1 _ _)
    | (cases op <;> rfl)

theorem VR.not_agg {a : AV} {v : Value} (k : VR μ a v) (ha : ∀ cs, a ≠ .agg cs) : ∀ ds, v ≠ .agg ds := by
  intro ds e; subst e
  cases a with
  | agg cs => exact ha cs rfl
  | tup _ => simp [VR] at k
  | ptr p => cases p with
    | none => simp [VR] at k
    | some p => obtain ⟨b, o⟩ := p; simp [VR] at k
  | slc p n c sz => cases p with
    | none => simp [VR] at k
    | some p => obtain ⟨b, o⟩ := p; simp [VR] at k
  | map r => cases r <;> simp [VR] at k
  | func f caps => cases f <;> simp [VR] at k
  | iface t x => simp [VR] at k
  | int k' n => simp [VR] at k
  | bool b => simp [VR] at k
  | str s => simp [VR] at k
  | nilFn => simp [VR] at k
  | nilIface => simp [VR] at k

theorem eqv_none {d t : Nat} {x y : AV} {b : Bool} (e : eqv T d t x y = some b) : x ≠ .nilIface := by
  rintro rfl
  cases d with
  | zero => simp [eqv] at e
  | succ d =>
    unfold eqv at e
    split at e
    · simp at e
    · split at e <;> simp_all

theorem eqv_agg {d t : Nat} {xs ys : List AV} {b : Bool} (e : eqv T d t (.agg xs) (.agg ys) = some b) : ∃ ti, T t = some ti ∧ ti.eqOk = true := by
  cases d with
  | zero => simp [eqv] at e
  | succ d =>
    unfold eqv at e
    split at e
    · simp at e
    · rename_i ti ht
      split at e <;> simp_all

theorem eqv_agg' {d t : Nat} {x y : AV} {b : Bool} (e : eqv T d t x y = some b) : (∃ xs ys, x = .agg xs ∧ y = .agg ys) ∨ ((∀ xs, x ≠ .agg xs) ∧ (∀ ys, y ≠ .agg ys)) := by
  cases d with
  | zero => simp [eqv] at e
  | succ d =>
    unfold eqv at e
    split at e
    · simp at e
    · split at e <;> first
        | (simp at e; done)
        | (left; exact ⟨_, _, rfl, rfl⟩)
        | (right; constructor <;> intro z hz <;> cases hz; done)
        | (right; refine ⟨fun z hz => by cases hz, fun z hz => ?_⟩; subst hz; simp at e)

theorem eql_binOp (t : TypeId) {x y : AV} {vx vy : Value} (hx : VR μ x vx) (hy : VR μ y vy) (hni : ∀ k a k' b, ¬ (x = .int k a ∧ y = .int k' b)) (hns : ∀ a b, ¬ (x = .str a ∧ y = .str b))
    {d : Nat} {b : Bool} (e : eqv T d t x y = some b) : ∀ w, (binOp .eql t vx vy).run P w = ((Op.equal t vx vy).run P w).andThen (fun r w' => .ok (.bool r) w') ∧ (binOp .neq t vx vy).run P w = ((Op.equal t vx vy).run P w).andThen (fun r w' => .ok (.bool (!r)) w') := by
  intro w
  cases d with
  | zero => simp [eqv] at e
  | succ d =>
    unfold eqv at e
    split at e
    · simp at e
    · split at e <;> first
        | (simp at e; done)
        | exact absurd ⟨rfl, rfl⟩ (hni _ _ _ _)
        | exact absurd ⟨rfl, rfl⟩ (hns _ _)
        | skip
      · simp only [VR] at hx hy; subst hx hy; simp [binOp]
      · rename_i bb _
        simp only [VR] at hx; subst hx
        cases bb with
        | none => simp only [VR] at hy; subst hy; simp [binOp]
        | some p => obtain ⟨b1, o1⟩ := p; simp only [VR] at hy; obtain ⟨L, _, rfl⟩ := hy; simp [binOp]
      · rename_i p _
        obtain ⟨b1, o1⟩ := p
        simp only [VR] at hx hy; obtain ⟨L, _, rfl⟩ := hx; subst hy; simp [binOp]
      · rename_i p n2 c2 z2 _
        simp only [VR] at hx; obtain ⟨c3, _, _, rfl⟩ := hx
        cases p with
        | none => simp only [VR] at hy; obtain ⟨c4, _, _, rfl⟩ := hy; simp [binOp]
        | some p => obtain ⟨b1, o1⟩ := p; simp only [VR] at hy; obtain ⟨L, _, _, _, rfl, _⟩ := hy; simp [binOp]
      · rename_i p n1 c1 z1 n2 c2 z2 _
        obtain ⟨b1, o1⟩ := p
        simp only [VR] at hx hy; obtain ⟨L, _, _, _, rfl, _⟩ := hx; obtain ⟨c4, _, _, rfl⟩ := hy; simp [binOp]
      · rename_i p _
        simp only [VR] at hx; subst hx
        cases p with
        | none => simp only [VR] at hy; subst hy; simp [binOp]
        | some p => simp only [VR] at hy; obtain ⟨L, _, rfl⟩ := hy; simp [binOp]
      · simp only [VR] at hx hy; obtain ⟨L, _, rfl⟩ := hx; subst hy; simp [binOp]
      · simp only [VR] at hx hy; subst hx hy; simp [binOp]
      · rename_i f1 caps _
        simp only [VR] at hx; subst hx
        cases f1 with
        | func f => simp only [VR] at hy; obtain ⟨_, _, rfl⟩ := hy; simp [binOp]
        | yield l => simp only [VR] at hy; obtain ⟨_, _, _, rfl⟩ := hy; simp [binOp]
        | method _ => simp [VR] at hy
        | methodOf _ _ => simp [VR] at hy
        | via _ _ _ _ => simp [VR] at hy
      · rename_i f1 caps _
        simp only [VR] at hy; subst hy
        cases f1 with
        | func f => simp only [VR] at hx; obtain ⟨_, _, rfl⟩ := hx; simp [binOp]
        | yield l => simp only [VR] at hx; obtain ⟨_, _, _, rfl⟩ := hx; simp [binOp]
        | method _ => simp [VR] at hx
        | methodOf _ _ => simp [VR] at hx
        | via _ _ _ _ => simp [VR] at hx
      · simp only [VR] at hx hy; obtain ⟨vxs, hx, rfl⟩ := hx; obtain ⟨vys, hy, rfl⟩ := hy
        simp [binOp]

theorem binOp_run (hT : TypesOk P T) {op : BinOp} {t : Nat} {x y a : AV} {vx vy : Value} (e : binOpA T op t x y = some a) (hx : VR μ x vx) (hy : VR μ y vy) (ox oy : Operand) :
    (∀ w, (do eqGuard op t ox oy vx vy; binOp op t vx vy : Sem Value).run P w = .ok (scal a) w) ∧ ∀ ν, VR ν a (scal a) := by
  unfold binOpA at e
  split at e
  · rename_i k a1 k' b1
    simp only [VR] at hx hy; subst hx hy
    have hg : ∀ w, (eqGuard op t ox oy (.int k a1) (.int k' b1)).run P w = .ok () w := fun w => eqGuard_plain op t ox oy _ _ (by simp) (by simp)
    split at e
    · rename_i hs
      obtain ⟨r1, r2⟩ := shiftOp_run (P := P) (k' := k') e hs t
      exact ⟨fun w => by simp only [Sem.run_bind, hg, Result.andThen_ok, r1], r2⟩
    · split at e
      · rename_i hk; subst hk
        obtain ⟨r1, r2⟩ := intOp_run (P := P) e t
        exact ⟨fun w => by simp only [Sem.run_bind, hg, Result.andThen_ok, r1], r2⟩
      · simp at e
  · rename_i a1 b1
    simp only [VR] at hx hy; subst hx hy
    have hg : ∀ w, (eqGuard op t ox oy (.string ⟨a1.toArray⟩) (.string ⟨b1.toArray⟩)).run P w = .ok () w := fun w => eqGuard_plain op t ox oy _ _ (by simp) (by simp)
    obtain ⟨r1, r2⟩ := strOp_run (P := P) e t
    exact ⟨fun w => by simp only [Sem.run_bind, hg, Result.andThen_ok, r1], r2⟩
  · rename_i hni hns
    have hni' : ∀ k a k' b, ¬ (x = .int k a ∧ y = .int k' b) := fun k a k' b ⟨e1, e2⟩ => hni k a k' b e1 e2
    have hns' : ∀ a b, ¬ (x = .str a ∧ y = .str b) := fun a b ⟨e1, e2⟩ => hns a b e1 e2
    have hguard : ∀ d b, eqv T d t x y = some b → ∀ w, (eqGuard op t ox oy vx vy).run P w = .ok () w := fun d b hq w => by
      rcases eqv_agg' hq with ⟨xs, ys, rfl, rfl⟩ | ⟨n1, n2⟩
      · obtain ⟨ti, ht, hok⟩ := eqv_agg hq
        simp only [VR] at hx hy; obtain ⟨vxs, hx, rfl⟩ := hx; obtain ⟨vys, hy, rfl⟩ := hy
        exact run_eqGuard_agg w op t ox oy vxs vys ((hT _ _ ht).eq hok).1
      · refine eqGuard_plain op t ox oy _ _ (fun p q ⟨e1, e2⟩ => hx.not_agg n1 p e1) (fun ⟨e1, e2⟩ => ?_)
        subst e1
        have := eqv_none hq
        cases x with
        | nilIface => exact this rfl
        | agg cs => exact n1 cs rfl
        | tup _ => simp [VR] at hx
        | ptr p => cases p with
          | none => simp [VR] at hx
          | some p => obtain ⟨b, o⟩ := p; simp [VR] at hx
        | slc p n c sz => cases p with
          | none => simp [VR] at hx
          | some p => obtain ⟨b, o⟩ := p; simp [VR] at hx
        | map r => cases r <;> simp [VR] at hx
        | func f caps => cases f <;> simp [VR] at hx
        | iface t x => simp [VR] at hx
        | int k' n => simp [VR] at hx
        | bool b => simp [VR] at hx
        | str s => simp [VR] at hx
        | nilFn => simp [VR] at hx
    split at e
    · split at e
      · rename_i b hq
        simp only [Option.some.injEq] at e; subst e
        have := eqv_run hT (10000 - 20) eqDepth t x y b vx vy hq hx hy
        refine ⟨fun w => ?_, fun ν => by simp [VR, scal]⟩
        simp only [Sem.run_bind, hguard _ _ hq, Result.andThen_ok, (eql_binOp t hx hy hni' hns' hq w).1]
        have h2 : (Op.equal t vx vy).run P w = .ok b w := this w
        rw [h2]; rfl
      · simp at e
    · split at e
      · rename_i b hq
        simp only [Option.some.injEq] at e; subst e
        have := eqv_run hT (10000 - 20) eqDepth t x y b vx vy hq hx hy
        refine ⟨fun w => ?_, fun ν => by simp [VR, scal]⟩
        simp only [Sem.run_bind, hguard _ _ hq, Result.andThen_ok, (eql_binOp t hx hy hni' hns' hq w).2]
        have h2 : (Op.equal t vx vy).run P w = .ok b w := this w
        rw [h2]; rfl
      · simp at e
    · simp at e

theorem unOp_run {op : UnOp} {x a : AV} {vx : Value} (e : unOpA op x = some a) (hx : VR μ x vx) : (∀ w, (Op.unary op vx).run P w = .ok (scal a) w) ∧ ∀ ν, VR ν a (scal a) := by
  unfold unOpA at e
  split at e
  · simp only [Option.some.injEq] at e; subst e; simp only [VR] at hx; subst hx; exact ⟨fun w => by simp [Op.unary, Op.intArith, scal], fun ν => by simp [VR, scal]⟩
  · simp only [Option.some.injEq] at e; subst e; simp only [VR] at hx; subst hx; exact ⟨fun w => by simp [Op.unary, scal], fun ν => by simp [VR, scal]⟩
  · simp at e

end Go.Am

/-
  The abstract machine: what is built, made, cut: what these come to in the model.
-/
namespace Go.Am
variable {P : Program} {T : TT} {w0 : Frz} {w : World} {μ : Mu} {h h' : Heap}

/-! ### building -/
theorem setCells_eq (off : Nat) : ∀ (as : List AV) (cs : List AV) (j : Nat), setCells cs (off + j) as = (as.zipIdx j).foldl (fun c x => c.set (off + x.2) x.1) cs
  | [], cs, j => rfl
  | a :: as, cs, j => by
    simp only [setCells, List.zipIdx_cons, List.foldl_cons]
    exact setCells_eq off as _ (j + 1)

theorem foldl_set_rel (off : Nat) : ∀ (as : List AV) (vs : List Value) (cs : List AV) (ds : Array Value) (j : Nat), VRs μ as vs → VRs μ cs ds.toList →
    VRs μ ((as.zipIdx j).foldl (fun c x => c.set (off + x.2) x.1) cs) ((vs.zipIdx j).foldl (fun c x => c.setIfInBounds (off + x.2) x.1) ds).toList
  | [], vs, cs, ds, j, h1, h2 => by simp only [VRs] at h1; subst h1; simpa using h2
  | a :: as, vs, cs, ds, j, h1, h2 => by
    simp only [VRs] at h1
    obtain ⟨v, vs', hv, hvs, rfl⟩ := h1
    simp only [List.zipIdx_cons, List.foldl_cons]
    exact foldl_set_rel off as vs' _ _ (j + 1) hvs (by simpa using h2.set (off + j) hv)

/-- Two rows of parts. -/
def PRs (μ : Mu) : List (Nat × AV) → List (Nat × Value) → Prop
  | [], l => l = []
  | (i, a) :: as, l => ∃ v vs, VR μ a v ∧ PRs μ as vs ∧ l = (i, v) :: vs

theorem fill_rel {pl : Nat → Option (Nat × Nat)} {pm : Nat → Option (Nat × Nat)} (hp : ∀ i p, pl i = some p → pm i = some p) : ∀ (ps : List (Nat × AV)) (qs : List (Nat × Value)) (cs cs' : List AV) (ds : Array Value),
    PRs μ ps qs → VRs μ cs ds.toList → fillA pl cs ps = some cs' → ∃ ds', Instr.fill pm ds qs = some ds' ∧ VRs μ cs' ds'.toList
  | [], qs, cs, cs', ds, h1, h2, h3 => by simp only [PRs] at h1; subst h1; simp [fillA] at h3; subst h3; exact ⟨ds, rfl, h2⟩
  | (i, a) :: ps, qs, cs, cs', ds, h1, h2, h3 => by
    simp only [PRs] at h1
    obtain ⟨v, vs, hv, hvs, rfl⟩ := h1
    simp only [fillA] at h3
    split at h3
    · simp at h3
    · rename_i off size hpl
      split at h3
      · rename_i hc
        have hcl := hv.cells
        have hsz : v.cells.size = size := by have := hcl.len; simp at this; omega
        have hds : ds.size = cs.length := by have := h2.len; simpa using this
        have hrel : VRs μ (setCells cs off a.cells) (v.cells.zipIdx.foldl (fun c x => c.setIfInBounds (off + x.2) x.1) ds).toList := by
          have := foldl_set_rel off a.cells v.cells.toList cs ds 0 hcl h2
          have e1 := setCells_eq off a.cells cs 0
          simp only [Nat.add_zero] at e1
          rw [e1]
          rw [← Array.foldl_toList, Array.toList_zipIdx]
          exact this
        obtain ⟨ds', e1, e2⟩ := fill_rel hp ps vs _ cs' _ hvs hrel h3
        refine ⟨ds', ?_, e2⟩
        simp only [Instr.fill, hp _ _ hpl, hsz]
        rw [if_neg (by simp; omega)]
        exact e1
      · simp at h3

def sizesOf (P : Program) (gs : List Field) : List (Nat × Nat) := gs.map fun f => (f.offset, P.cellsOf f.type)

theorem run_sizes : ∀ (gs : List Field) (w : World), (∀ f ∈ gs, (P.info? f.type).isSome = true) →
    (gs.mapM fun f => (do pure (f.offset, ← sizeOf f.type) : Sem (Nat × Nat))).run P w = .ok (sizesOf P gs) w
  | [], w, _ => by simp [sizesOf]
  | g :: gs, w, hi => by
    obtain ⟨inf, hinf⟩ := Option.isSome_iff_exists.1 (hi g (by simp))
    have e1 := run_sizes gs w (fun f hf => hi f (by simp [hf]))
    rw [List.mapM_cons]
    simp only [Sem.run_bind, sizeOf, run_info hinf, Result.andThen_ok, Sem.run_pure]
    simp only [sizeOf] at e1
    rw [e1]
    simp [sizesOf, Program.cellsOf, hinf]

theorem build_run (hT : TypesOk P T) {t : Nat} {ps : List (Nat × AV)} {qs : Array (Nat × Value)} {a : AV} (hp : PRs μ ps qs.toList) (e : buildA T t ps = some a) :
    ∃ v, (∀ w, (Instr.build t qs).run P w = .ok v w) ∧ VR μ a v := by
  unfold buildA at e
  split at e
  · simp at e
  · rename_i ti ht
    have k := hT _ _ ht
    obtain ⟨z, hz, hz2⟩ := k.zero'
    obtain ⟨d, hu, hk⟩ := k.under
    split at e
    · rename_i fs hk'
      rw [hk'] at hk; obtain ⟨gs, hd, hfs⟩ := TK.of_strct hk.symm; subst hd
      split at e
      · rename_i cs hfill
        simp at e; subst e
        have hall := k.fields gs hu
        obtain ⟨ds', f1, f2⟩ := fill_rel (μ := μ) (pm := fun x => (sizesOf P gs.toList)[x]?) (fun i p hp => by
          split at hp
          · rename_i b ft off hi
            split at hp
            · rename_i fi hfi; simp at hp; subst hp
              subst hfs
              simp only [List.getElem?_map] at hi
              cases hg : gs.toList[i]? with
              | none => rw [hg] at hi; simp at hi
              | some g =>
                rw [hg] at hi; simp at hi
                obtain ⟨_, rfl, rfl⟩ := hi
                obtain ⟨j, j1, j2, _⟩ := (hT _ _ hfi).info
                simp only [sizesOf, List.getElem?_map, hg, Program.cellsOf, j1, j2, Option.map_some, Option.getD_some]
            · simp at hp
          · simp at hp) ps qs.toList ti.zero cs z.cells hp (VRs.ofLeafs hz2) hfill
        refine ⟨.agg ds', fun w => ?_, by simp only [VR]; exact ⟨ds', f2, rfl⟩⟩
        have hr := run_sizes gs.toList w hall
        simp only [Instr.build, Sem.run_bind, hz, Result.andThen_ok, run_under hu, Array.mapM_eq_mapM_toList, Sem.run_map, hr]
        simp
        rw [f1]; rfl
      · simp at e
    · rename_i n e1 hk'
      rw [hk'] at hk; have hd := TK.of_arr hk.symm; subst hd
      split at e
      · simp at e
      · rename_i te hte
        split at e
        · rename_i cs hfill
          simp at e; subst e
          obtain ⟨ds', f1, f2⟩ := fill_rel (μ := μ) (pm := fun i => some (i * te.size, te.size)) (fun i p hp => hp) ps qs.toList ti.zero cs z.cells hp (VRs.ofLeafs hz2) hfill
          refine ⟨.agg ds', fun w => ?_, by simp only [VR]; exact ⟨ds', f2, rfl⟩⟩
          simp [Instr.build, hz, run_under hu, (hT _ _ hte).size, f1]
        · simp at e
    · simp at e

end Go.Am

/-
  The abstract machine: slices made, cut, appended to: what these come to in the model.
-/
namespace Go.Am
variable {P : Program} {T : TT} {w0 : Frz} {w : World} {μ : Mu} {h h' : Heap}

theorem zeroRow_rel {z : Array Value} {zero : List AV} (hz : VRs μ zero z.toList) (n : Nat) (h0 : n = 0 ∨ 0 < zero.length) : VRs μ (zeroRow zero n) ((Array.range n).map (z[· % z.size]!)).toList := by
  refine VRs.of_get (by simp [zeroRow]) fun i a e => ?_
  simp only [zeroRow, List.getElem?_map] at e
  rcases Nat.lt_or_ge i n with hi | hi
  · rw [List.getElem?_range hi] at e
    simp at e; subst e
    have hl : z.size = zero.length := by have := hz.len; simpa using this
    have hm : i % zero.length < zero.length := Nat.mod_lt _ (by omega)
    obtain ⟨v, e1, e2⟩ := hz.get (List.getElem?_eq_getElem hm)
    refine ⟨v, ?_, by rwa [List.getElem?_eq_getElem hm]⟩
    have e1' : z[i % zero.length]? = some v := by simpa using e1
    have e3 : z[i % zero.length]! = v := by simp [getElem!_def, e1']
    simp [hi, hl, e3]
  · simp [List.getElem?_eq_none (by simpa using hi : (List.range n).length ≤ i)] at e

theorem newRow_run (t : TypeId) (arr : Array Value) (w : World) : (newRow t arr).run P w = .ok ⟨w.heap.size, 0, none⟩ { w with heap := w.heap.push (.cells arr t) } := by simp [newRow]

theorem newRow_sim (S : Sim w0 μ h w) (cs : List AV) (arr : Array Value) (t : TypeId) (hl : cs.length ≤ arr.size) (hv : ∀ (i : Nat) (a : AV), cs[i]? = some a → ∃ v, arr[i]? = some v ∧ VR μ a v) :
    (newRow t arr).run P w = .ok ⟨w.heap.size, 0, none⟩ { w with heap := w.heap.push (.cells arr t) } ∧
    μ.le (μ.upd h.nxt ⟨w.heap.size, 0, arr.size⟩) ∧ Sim w0 (μ.upd h.nxt ⟨w.heap.size, 0, arr.size⟩) (h.add (.cells cs true)) { w with heap := w.heap.push (.cells arr t) } :=
  ⟨newRow_run t arr w, S.addCells cs arr t hl hv⟩

/-- Something newly made; id: its number. -/
def NewTo (P : Program) (μ : Mu) (w : World) (s : Sem Value) (a : AV) (id : Nat) (cs : List AV) : Prop :=
  ∃ v arr t, s.run P w = .ok v { w with heap := w.heap.push (.cells arr t) } ∧ cs.length ≤ arr.size ∧ (∀ (i : Nat) (a : AV), cs[i]? = some a → ∃ v, arr[i]? = some v ∧ VR μ a v) ∧
    VR (μ.upd id ⟨w.heap.size, 0, arr.size⟩) a v

theorem NewTo.op {s : Sem Value} {a : AV} {cs : List AV} (S : Sim w0 μ h w) (k : NewTo P μ w s a h.nxt cs) : OpTo P w0 μ w s a (h.add (.cells cs true)) := by
  obtain ⟨v, arr, t, e1, e2, e3, e4⟩ := k
  obtain ⟨m1, m2⟩ := S.addCells cs arr t e2 e3
  exact ⟨_, _, _, e1, m1, m2, e4⟩

theorem VR.newSlc (μ : Mu) (b blk room sz n c : Nat) (cap : Option Nat) (h1 : n ≤ c) (h2 : c * sz ≤ room) (h3 : ∀ c', cap = some c' → c = c') :
    VR (μ.upd b ⟨blk, 0, room⟩) (.slc (some (b, 0)) n cap sz) (.slice (some ⟨blk, 0, none⟩) n c) := by
  simp only [VR]
  exact ⟨_, 0, c, Mu.upd_same _ _ _, rfl, h1, by simpa using h2, by simp, h3, .inr (by simp)⟩

theorem alloc_new (hT : TypesOk P T) {t : Nat} {ti : TI} (ht : T t = some ti) (μ : Mu) (w : World) (id : Nat) : NewTo P μ w (Instr.alloc t true (.tuple #[])) (.ptr (some (id, 0))) id ti.zero := by
  obtain ⟨z, hz, hz2⟩ := (hT _ _ ht).zero'
  have hr := VRs.ofLeafs (μ := μ) hz2
  refine ⟨_, z.cells, t, ?_, by have := hr.len; simp at this; omega, hr.arr, by simp only [VR]; exact ⟨_, Mu.upd_same _ _ _, rfl⟩⟩
  simp [Instr.alloc, hz, newVar, newRow_run]

theorem alloc_run (hT : TypesOk P T) {t : Nat} {ti : TI} (S : Sim w0 μ h w) (ht : T t = some ti) : OpTo P w0 μ w (Instr.alloc t true (.tuple #[])) (.ptr (some (h.nxt, 0))) (h.add (.cells ti.zero true)) :=
  (alloc_new hT ht μ w h.nxt).op S

theorem box_new {t : TypeId} {a : AV} {v : Value} (hv : VR μ a v) (w : World) (id : Nat) : NewTo P μ w (Instr.box t v) (.ptr (some (id, 0))) id a.cells := by
  have hr := hv.cells
  refine ⟨_, v.cells, t, ?_, by have := hr.len; simp at this; omega, hr.arr, by simp only [VR]; exact ⟨_, Mu.upd_same _ _ _, rfl⟩⟩
  simp [Instr.box, newVar, newRow_run]

theorem box_run {t : TypeId} {a : AV} {v : Value} (S : Sim w0 μ h w) (hv : VR μ a v) : OpTo P w0 μ w (Instr.box t v) (.ptr (some (h.nxt, 0))) (h.add (.cells a.cells true)) :=
  (box_new hv w h.nxt).op S

theorem buildSlice_new (hT : TypesOk P T) {t n : Nat} {ps : List (Nat × AV)} {qs : Array (Nat × Value)} {a : AV} (hp : PRs μ ps qs.toList) (e : buildSliceA T t n ps h = some (a, h')) (w : World) :
    ∃ cs, h' = h.add (.cells cs true) ∧ NewTo P μ w (Instr.buildSlice t n qs) a h.nxt cs := by
  unfold buildSliceA at e
  split at e
  · simp at e
  · rename_i ti ht
    obtain ⟨d, hu, hk⟩ := (hT _ _ ht).under
    split at e
    · rename_i el hk'
      rw [hk'] at hk; have hd := TK.of_slc hk.symm; subst hd
      split at e
      · simp at e
      · rename_i te hte
        have ke := hT _ _ hte
        obtain ⟨z, hz, hz2⟩ := ke.zero'
        split at e
        · simp at e
        · rename_i hlim
          split at e
          · rename_i cs hfill
            simp at e; obtain ⟨rfl, rfl⟩ := e
            have hzr : VRs μ (zeroRow te.zero (n * te.size)) ((Array.range (n * te.size)).map (z.cells[· % z.cells.size]!)).toList := zeroRow_rel (VRs.ofLeafs hz2) _ (by
              have := ke.zlen
              rcases Nat.eq_zero_or_pos te.size with h0 | h0
              · exact .inl (by rw [h0]; simp)
              · exact .inr (by omega))
            obtain ⟨ds', f1, f2⟩ := fill_rel (μ := μ) (pm := fun i => some (i * te.size, te.size)) (fun i p hp => hp) ps qs.toList _ cs _ hp hzr hfill
            have hlen : cs.length = n * te.size := by
              have hfl : ∀ (pl : Nat → Option (Nat × Nat)) (ps : List (Nat × AV)) (cs cs' : List AV), fillA pl cs ps = some cs' → cs'.length = cs.length := by
                intro pl ps
                induction ps with
                | nil => intro cs cs' h; simp [fillA] at h; rw [h]
                | cons p ps ih =>
                  intro cs cs' h
                  obtain ⟨i, a⟩ := p
                  simp only [fillA] at h
                  split at h
                  · simp at h
                  · split at h
                    · rw [ih _ _ h, setCells_len]
                    · simp at h
              rw [hfl _ _ _ _ hfill]; simp [zeroRow]
            have hsz : ds'.size = n * te.size := by have := f2.len; simp at this; omega
            have e1 := newRow_run (P := P) el ds' w
            refine ⟨_, rfl, _, ds', el, ?_, by omega, f2.arr, VR.newSlc μ _ _ _ _ n n (some n) (Nat.le_refl _) (by omega) (by simp)⟩
            have hlim' : ¬ (n * te.size > 2 ^ 24) := by simpa using hlim
            simp only [Instr.buildSlice, Sem.run_bind, run_under hu, Result.andThen_ok, ke.size, Sem.run_ite, if_neg hlim', Sem.run_pure]
            by_cases hz0 : n * te.size = 0
            · have hds0 : (Array.range (n * te.size)).map (z.cells[· % z.cells.size]!) = (Array.range (n * te.size)).map ((#[] : Array Value)[· % (#[] : Array Value).size]!) := by
                rw [hz0]; simp
              rw [hds0] at f1
              simp only [if_pos hz0]
              rw [f1]
              simp [e1]
            · simp only [if_neg hz0, Result.andThen_ok, hz]
              rw [f1]
              simp [e1]
          · simp at e
    · simp at e

theorem buildSlice_run (hT : TypesOk P T) {t n : Nat} {ps : List (Nat × AV)} {qs : Array (Nat × Value)} {a : AV} (S : Sim w0 μ h w) (hp : PRs μ ps qs.toList) (e : buildSliceA T t n ps h = some (a, h')) :
    OpTo P w0 μ w (Instr.buildSlice t n qs) a h' := by
  obtain ⟨cs, rfl, k⟩ := buildSlice_new hT hp e w
  exact k.op S

theorem makeSlice_new (hT : TypesOk P T) {t : Nat} {l c a : AV} {vl vc : Value} (hl : VR μ l vl) (hc : VR μ c vc) (e : makeSliceA T t l c h = some (a, h')) (w : World) :
    ∃ cs, h' = h.add (.cells cs true) ∧ NewTo P μ w (Instr.makeSlice t vl vc) a h.nxt cs := by
  unfold makeSliceA at e
  split at e
  · rename_i ti k1 l k2 c ht
    simp only [VR] at hl hc; subst hl hc
    obtain ⟨d, hu, hk⟩ := (hT _ _ ht).under
    split at e
    · rename_i el hk'
      rw [hk'] at hk; have hd := TK.of_slc hk.symm; subst hd
      split at e
      · simp at e
      · rename_i te hte
        have ke := hT _ _ hte
        obtain ⟨z, hz, hz2⟩ := ke.zero'
        obtain ⟨inf, i1, i2, i3, _⟩ := ke.info
        split at e
        · rename_i hb
          obtain ⟨b1, b2, b3, b4⟩ := hb
          simp at e; obtain ⟨rfl, rfl⟩ := e
          have hw : ∀ x : Int, 0 ≤ x → x ≤ 1073741824 → IntKind.i64.wrap x = x := fun x h1 h2 => by
            have h3 : x % (2 ^ 64 : Int) = x := Int.emod_eq_of_lt h1 (by omega)
            simp only [IntKind.wrap, IntKind.bits, IntKind.signed, h3]
            simp; omega
          have hwl := hw l b1 (by omega)
          have hwc := hw c (by omega) b3
          have hzr : VRs μ (zeroRow te.zero (c.toNat * te.size)) ((Array.range (c.toNat * te.size)).map (z.cells[· % z.cells.size]!)).toList := zeroRow_rel (VRs.ofLeafs hz2) _ (by
              have := ke.zlen
              rcases Nat.eq_zero_or_pos te.size with h0 | h0
              · exact .inl (by rw [h0]; simp)
              · exact .inr (by omega))
          have e1 := newRow_run (P := P) el ((Array.range (c.toNat * te.size)).map (z.cells[· % z.cells.size]!)) w
          refine ⟨_, rfl, _, _, el, ?_, by simp [zeroRow], hzr.arr, VR.newSlc μ _ _ _ _ l.toNat c.toNat (some c.toNat) (by omega) (by simp) (by simp)⟩
          have hi3 : (inf.bytes : Int) * c ≤ 140737488355328 := by rw [i3]; exact b4
          have hnot : (((decide (c < 0) || decide (2 ^ 48 < (inf.bytes : Int) * c)) || decide (l < 0)) || decide (c < l)) = false := by
            simp only [Bool.or_eq_false_iff, decide_eq_false_iff_not]
            refine ⟨⟨⟨by omega, ?_⟩, by omega⟩, by omega⟩
            have : (2 : Int) ^ 48 = 281474976710656 := by decide
            omega
          simp only [Instr.makeSlice, Sem.run_bind, run_under hu, Result.andThen_ok, asInt, asIntOf, Sem.run_pure, run_info i1, hwl, hwc, Sem.run_ite]
          simp only [gt_iff_lt, hnot]
          simp only [Bool.false_eq_true, if_false, Result.andThen_ok, run_askRoom, ke.size]
          by_cases hz0 : c.toNat * te.size = 0
          · have hds0 : (Array.range (c.toNat * te.size)).map (z.cells[· % z.cells.size]!) = (Array.range (c.toNat * te.size)).map ((#[] : Array Value)[· % (#[] : Array Value).size]!) := by
              rw [hz0]; simp
            simp only [if_pos hz0]
            rw [← hds0, e1]; rfl
          · simp only [if_neg hz0, Result.andThen_ok, hz]
            rw [e1]; rfl
        · simp at e
    · simp at e
  · simp at e

theorem makeSlice_run (hT : TypesOk P T) {t : Nat} {l c a : AV} {vl vc : Value} (S : Sim w0 μ h w) (hl : VR μ l vl) (hc : VR μ c vc) (e : makeSliceA T t l c h = some (a, h')) :
    OpTo P w0 μ w (Instr.makeSlice t vl vc) a h' := by
  obtain ⟨cs, rfl, k⟩ := makeSlice_new hT hl hc e w
  exact k.op S

end Go.Am

/-
  The abstract machine: slices cut and appended to, lengths, conversions: what these come to in the model.
-/
namespace Go.Am
variable {P : Program} {T : TT} {w0 : Frz} {w : World} {μ : Mu} {h h' : Heap}

theorem VR.slc_len {a : Option (Nat × Nat)} {n : Nat} {cap : Option Nat} {sz : Nat} {v : Value} (k : VR μ (.slc a n cap sz) v) : ∃ b c, v = .slice b n c ∧ (∀ c', cap = some c' → c = c') := by
  cases a with
  | none => simp only [VR] at k; obtain ⟨c, rfl, _, rfl⟩ := k; exact ⟨none, c, rfl, by simp⟩
  | some p => obtain ⟨b, o⟩ := p; simp only [VR] at k; obtain ⟨L, off, c, _, rfl, _, _, _, hc, _⟩ := k; exact ⟨_, c, rfl, hc⟩

theorem sbound_run {x : AV} {vx : Value} {y m : Nat} (hx : VR μ x vx) (e : sbound x y = some m) (code : BoundsCode) (Y : Nat) (hY : y ≤ Y) : (∀ w, (Instr.sliceBound vx Y code).run P w = .ok m w) ∧ m ≤ y := by
  unfold sbound at e
  split at e
  · rename_i k i
    simp only [VR] at hx; subst hx
    split at e
    · rename_i hb; simp at e; subst e
      refine ⟨fun w => ?_, by omega⟩
      have : 0 ≤ i ∧ i ≤ (Y : Int) := ⟨hb.1, by omega⟩
      simp [Instr.sliceBound, asIntOf, this]
    · simp at e
  · simp at e

/-- Bounds of a slicing without a third index. -/
theorem sbounds_run {len C Len : Nat} {lo hi : Option AV} {vlo vhi : Option Value} {l g : Nat} (isSlice : Bool)
    (h1 : ∀ x, lo = some x → ∃ v, vlo = some v ∧ VR μ x v) (h1' : lo = none → vlo = none) (h2 : ∀ x, hi = some x → ∃ v, vhi = some v ∧ VR μ x v) (h2' : hi = none → vhi = none)
    (e : sbounds len lo hi = some (l, g)) (hC : hi.isSome = true → len ≤ C) (hL : hi = none → Len = len) : (∀ w, (Instr.sliceBounds isSlice Len C vlo vhi none).run P w = .ok (l, g, C) w) ∧ l ≤ g ∧ g ≤ len := by
  unfold sbounds at e
  split at e
  · simp at e
  · rename_i hh hh1
    split at e
    · simp at e
    · rename_i ll hl1
      simp at e; obtain ⟨rfl, rfl⟩ := e
      cases hi with
      | none =>
        have := h2' rfl; subst this
        have hL := hL rfl; subst hL
        simp at hh1; subst hh1
        cases lo with
        | none =>
          have := h1' rfl; subst this
          simp at hl1; subst hl1
          exact ⟨fun w => by simp [Instr.sliceBounds], Nat.zero_le _, Nat.le_refl _⟩
        | some x =>
          obtain ⟨v, rfl, hv⟩ := h1 x rfl
          simp only at hl1
          obtain ⟨r1, r2⟩ := sbound_run (P := P) hv hl1 .sliceB Len (Nat.le_refl _)
          exact ⟨fun w => by simp [Instr.sliceBounds, r1], r2, Nat.le_refl _⟩
      | some y =>
        obtain ⟨u, rfl, hu⟩ := h2 y rfl
        simp only at hh1
        obtain ⟨q1, q2⟩ := sbound_run (P := P) hu hh1 (if isSlice then .sliceAcap else .sliceAlen) C (hC rfl)
        cases lo with
        | none =>
          have := h1' rfl; subst this
          simp at hl1; subst hl1
          exact ⟨fun w => by simp [Instr.sliceBounds, q1], Nat.zero_le _, q2⟩
        | some x =>
          obtain ⟨v, rfl, hv⟩ := h1 x rfl
          simp only at hl1
          obtain ⟨r1, r2⟩ := sbound_run (P := P) hv hl1 .sliceB hh (Nat.le_refl _)
          exact ⟨fun w => by simp [Instr.sliceBounds, q1, r1], r2, q2⟩

theorem sbounds3_run {len C Len m : Nat} {lo hi : Option AV} {mx : AV} {vlo vhi : Option Value} {vm : Value} {l g : Nat} (isSlice : Bool)
    (h1 : ∀ x, lo = some x → ∃ v, vlo = some v ∧ VR μ x v) (h1' : lo = none → vlo = none) (h2 : ∀ x, hi = some x → ∃ v, vhi = some v ∧ VR μ x v) (hi' : hi.isSome = true)
    (hm : VR μ mx vm) (em : sbound mx len = some m) (e : sbounds m lo hi = some (l, g)) (hC : len ≤ C) : (∀ w, (Instr.sliceBounds isSlice Len C vlo vhi (some vm)).run P w = .ok (l, g, m) w) ∧ l ≤ g ∧ g ≤ m ∧ m ≤ len := by
  obtain ⟨m1, m2⟩ := sbound_run (P := P) hm em (if isSlice then .slice3Acap else .slice3Alen) C hC
  unfold sbounds at e
  split at e
  · simp at e
  · rename_i hh hh1
    split at e
    · simp at e
    · rename_i ll hl1
      simp at e; obtain ⟨rfl, rfl⟩ := e
      cases hi with
      | none => simp at hi'
      | some x =>
        obtain ⟨v, rfl, hv⟩ := h2 x rfl
        simp only at hh1
        obtain ⟨r1, r2⟩ := sbound_run (P := P) hv hh1 .slice3B m (Nat.le_refl _)
        cases lo with
        | none =>
          have := h1' rfl; subst this
          simp at hl1; subst hl1
          exact ⟨fun w => by simp [Instr.sliceBounds, m1, r1], Nat.zero_le _, r2, m2⟩
        | some x =>
          obtain ⟨v, rfl, hv⟩ := h1 x rfl
          simp only at hl1
          obtain ⟨q1, q2⟩ := sbound_run (P := P) hv hl1 .slice3C hh (Nat.le_refl _)
          exact ⟨fun w => by simp [Instr.sliceBounds, m1, r1, q1], q2, r2, m2⟩

/-- Cutting a slice: where it then lies. -/
theorem VR.cut {b : Option (Nat × Nat)} {n : Nat} {cap : Option Nat} {A : Option Addr} {c l g sz : Nat} (k : VR μ (.slc b n cap sz) (.slice A n c)) (hlg : l ≤ g) (hg : g ≤ c)
    (hgn : cap = none → g ≤ n) :
    (∀ c', cap = some c' → VR μ (.slc (if c' = l then b else b.map fun p => (p.1, p.2 + l * sz)) (g - l) (some (c' - l)) sz) (.slice (if c = l then A else A.map (·.add (l * sz))) (g - l) (c - l))) ∧
    (cap = none → VR μ (.slc (b.map fun p => (p.1, p.2 + l * sz)) (g - l) none sz) (.slice (if c = l then A else A.map (·.add (l * sz))) (g - l) (c - l))) := by
  cases b with
  | none =>
    simp only [VR] at k
    obtain ⟨c1, hc1, hnc, hv⟩ := k
    simp at hv; obtain ⟨rfl, rfl⟩ := hv
    refine ⟨fun c' hc' => ?_, fun hn => by rw [hn] at hc1; cases hc1⟩
    rw [hc1] at hc'; cases hc'
    simp [VR]; omega
  | some p =>
    obtain ⟨b, o⟩ := p
    simp only [VR] at k
    obtain ⟨L, off, c1, hL, hv, hn, hroom, hbase, hcap, hoff⟩ := k
    simp at hv; obtain ⟨rfl, rfl⟩ := hv
    have hmul : l * sz + (c - l) * sz = c * sz := by rw [← Nat.add_mul]; congr 1; omega
    refine ⟨fun c' hc' => ?_, fun hcn => ?_⟩
    · have := hcap c' hc'; subst this
      by_cases hcl : c = l
      · subst hcl
        simp only [if_true, VR]
        refine ⟨L, off, 0, hL, by simp, by omega, by omega, hbase, by simp, .inl ⟨by omega, .inr (by simp)⟩⟩
      · simp only [if_neg hcl, Option.map_some, VR, add_flat]
        refine ⟨L, off + l * sz, c - l, hL, rfl, by omega, by omega, by omega, by simp, ?_⟩
        rcases hoff with ⟨h0, h1 | h1⟩ | h1
        · rw [h1] at hc'; cases hc'
        · rw [h1] at hc'; cases hc'; omega
        · exact .inr (by omega)
    · have hgn' := hgn hcn
      by_cases hcl : c = l
      · subst hcl
        simp only [if_true, Option.map_some, VR]
        exact ⟨L, off, 0, hL, by simp, by omega, by omega, hbase, by simp, .inl ⟨by omega, by simp⟩⟩
      · simp only [if_neg hcl, Option.map_some, VR, add_flat]
        refine ⟨L, off + l * sz, c - l, hL, rfl, by omega, by omega, by omega, by simp, ?_⟩
        rcases hoff with ⟨h0, _⟩ | h1
        · exact .inl ⟨by omega, by simp⟩
        · exact .inr (by omega)

theorem VR.cut3 {b : Option (Nat × Nat)} {n : Nat} {cap : Option Nat} {A : Option Addr} {c l g m sz : Nat} (k : VR μ (.slc b n cap sz) (.slice A n c)) (hlg : l ≤ g) (hg : g ≤ m) (hm : m ≤ n) (hnc : n ≤ c) :
    VR μ (.slc (if m = l then b else b.map fun p => (p.1, p.2 + l * sz)) (g - l) (some (m - l)) sz) (.slice (if m = l then A else A.map (·.add (l * sz))) (g - l) (m - l)) := by
  cases b with
  | none =>
    simp only [VR] at k
    obtain ⟨c1, hc1, hnc, hv⟩ := k
    simp at hv; obtain ⟨rfl, rfl⟩ := hv
    simp [VR]; omega
  | some p =>
    obtain ⟨b, o⟩ := p
    simp only [VR] at k
    obtain ⟨L, off, c1, hL, hv, hn, hroom, hbase, hcap, hoff⟩ := k
    simp at hv; obtain ⟨rfl, rfl⟩ := hv
    have hmul : l * sz + (m - l) * sz = m * sz := by rw [← Nat.add_mul]; congr 1; omega
    have hle : m * sz ≤ c * sz := Nat.mul_le_mul_right _ (by omega)
    by_cases hcl : m = l
    · subst hcl
      simp only [if_true, VR]
      exact ⟨L, off, 0, hL, by simp, by omega, by omega, hbase, by simp, .inl ⟨by omega, .inr (by simp)⟩⟩
    · simp only [if_neg hcl, Option.map_some, VR, add_flat]
      refine ⟨L, off + l * sz, m - l, hL, rfl, by omega, by omega, by omega, by simp, ?_⟩
      rcases hoff with ⟨h0, _⟩ | h1
      · omega
      · exact .inr (by omega)

theorem VR.slc_le {b : Nat × Nat} {n : Nat} {cap : Option Nat} {sz : Nat} {A : Option Addr} {c : Nat} (k : VR μ (.slc (some b) n cap sz) (.slice A n c)) : n ≤ c := by
  obtain ⟨b, o⟩ := b
  simp only [VR] at k
  obtain ⟨L, off, c1, hL, hv, hn, _⟩ := k
  simp at hv; omega

theorem slice_run (hT : TypesOk P T) {t : Nat} {x a : AV} {vx : Value} {lo hi mx : Option AV} {vlo vhi vmx : Option Value} (hx : VR μ x vx)
    (h1 : ∀ x, lo = some x → ∃ v, vlo = some v ∧ VR μ x v) (h1' : lo = none → vlo = none) (h2 : ∀ x, hi = some x → ∃ v, vhi = some v ∧ VR μ x v) (h2' : hi = none → vhi = none)
    (h3 : ∀ x, mx = some x → ∃ v, vmx = some v ∧ VR μ x v) (h3' : mx = none → vmx = none) (e : sliceA T t x lo hi mx = some a) :
    ∃ v, (∀ w, (Instr.sliceAt t vx vlo vhi vmx).run P w = .ok v w) ∧ VR μ a v := by
  unfold sliceA at e
  split at e
  · simp at e
  · rename_i ti ht
    obtain ⟨d, hu, hk⟩ := (hT _ _ ht).under
    split at e
    · rename_i s hk'
      rw [hk'] at hk; have hd := TK.of_str hk.symm; subst hd
      simp only [VR] at hx; subst hx
      split at e
      · simp at e
      · have := h3' rfl; subst this
        split at e
        · rename_i l g hs
          simp at e; subst e
          obtain ⟨r1, r2, r3⟩ := sbounds_run (P := P) (C := s.length) (Len := s.length) false h1 h1' h2 h2' hs (fun _ => Nat.le_refl _) (fun _ => rfl)
          refine ⟨.string ⟨((s.drop l).take (g - l)).toArray⟩, fun w => ?_, by simp [VR]⟩
          simp only [Instr.sliceAt, Instr.slice, Sem.run_bind, run_under hu, Result.andThen_ok, size_mk]
          simp only [Option.isSome_none, Bool.false_eq_true, if_false, Sem.run_pure, Result.andThen_ok, r1, Sem.run_bind]
          congr 2
          apply ByteArray.ext
          simp
        · simp at e
    · rename_i el b n cap sz hk'
      rw [hk'] at hk; have hd := TK.of_slc hk.symm; subst hd
      split at e
      · simp at e
      · rename_i te hte
        have ke := hT _ _ hte
        split at e
        · simp at e
        · rename_i hszb
          obtain ⟨A, c, rfl, hcap⟩ := hx.slc_len
          have hsz : b = none ∨ sz = te.size := by
            cases b with
            | none => exact .inl rfl
            | some p => right; simpa using hszb
          have hadd : (fun l => (A.map (·.add (l * te.size)))) = (fun l => A.map (·.add (l * sz))) ∨ b = none := by
            rcases hsz with h | h
            · exact .inr h
            · left; rw [h]
          have hbm : ∀ l, (b.map fun p => (p.1, p.2 + l * te.size)) = (b.map fun p => (p.1, p.2 + l * sz)) := by
            intro l
            rcases hsz with h | h
            · subst h; rfl
            · rw [h]
          have hAm : ∀ l, (A.map (·.add (l * te.size))) = (A.map (·.add (l * sz))) := by
            intro l
            rcases hsz with h | h
            · subst h; simp only [VR] at hx; obtain ⟨_, _, _, hv⟩ := hx; simp at hv; rw [hv.1]; rfl
            · rw [h]
          split at e
          · have := h3' rfl; subst this
            split at e
            · simp at e
            · rename_i l g hs
              split at e
              · rename_i c'
                have hcc := hcap c' rfl; subst hcc
                split at e
                · rename_i hlc
                  simp at e; subst e
                  obtain ⟨r1, r2, r3⟩ := sbounds_run (P := P) (C := c) (Len := n) true h1 h1' h2 h2' hs (fun hh => by simp [hh]) (fun hh => by subst hh; simp)
                  refine ⟨.slice (if c = l then A else A.map (·.add (l * te.size))) (g - l) (c - l), fun w => ?_, ?_⟩
                  · simp [Instr.sliceAt, Instr.slice, run_under hu, r1, ke.size]
                  · rw [hbm, hAm]
                    exact (hx.cut r2 hlc.2 (by simp)).1 _ rfl
                · simp at e
              · simp at e; subst e
                cases b with
                | none => simp only [VR] at hx; obtain ⟨_, hx, _⟩ := hx; cases hx
                | some p =>
                  have hnc := hx.slc_le
                  obtain ⟨r1, r2, r3⟩ := sbounds_run (P := P) (C := c) (Len := n) true h1 h1' h2 h2' hs (fun _ => hnc) (fun _ => rfl)
                  replace r3 : g ≤ n := r3
                  refine ⟨.slice (if c = l then A else A.map (·.add (l * te.size))) (g - l) (c - l), fun w => ?_, ?_⟩
                  · simp [Instr.sliceAt, Instr.slice, run_under hu, r1, ke.size]
                  · rw [hAm]
                    have := hbm l
                    simp only [Option.map_some] at this ⊢
                    rw [this]
                    exact (hx.cut r2 (by omega) (fun _ => r3)).2 rfl
          · rename_i m
            obtain ⟨vm, rfl, hvm⟩ := h3 _ rfl
            split at e
            · simp at e
            · rename_i mm hmm
              split at e
              · simp at e
              · rename_i l g hs
                split at e
                · rename_i hhi
                  simp at e; subst e
                  have hnc : n ≤ c := by
                    cases b with
                    | none =>
                      simp only [VR] at hx; obtain ⟨c1, hc1, hnc, hv⟩ := hx; simp at hv; omega
                    | some p => exact hx.slc_le
                  obtain ⟨r1, r2, r3, r4⟩ := sbounds3_run (P := P) (C := c) (Len := n) true h1 h1' h2 hhi hvm hmm hs hnc
                  refine ⟨.slice (if mm = l then A else A.map (·.add (l * te.size))) (g - l) (mm - l), fun w => ?_, ?_⟩
                  · simp [Instr.sliceAt, Instr.slice, run_under hu, r1, ke.size]
                  · rw [hbm, hAm]
                    exact hx.cut3 r2 r3 r4 hnc
                · simp at e
    · simp at e

end Go.Am

/-
  The abstract machine: what is appended, copied, converted: what these come to in the model.
-/
namespace Go.Am
variable {P : Program} {T : TT} {w0 : Frz} {w : World} {μ : Mu} {h h' : Heap}

theorem loadCells_len {b o n : Nat} {l : List AV} (e : loadCells h b o n = some l) : l.length = n := by
  unfold Am.loadCells at e
  split at e
  · split at e
    · simp at e; subst e; simp; omega
    · simp at e
  · simp at e

theorem comes_run {size k : Nat} {x : AV} {vx : Value} {new : List AV} (S : Sim w0 μ h w) (hx : VR μ x vx) (e : comes size x h = some (k, new)) :
    (Builtin.lenOf vx).run P w = .ok k w ∧ (∃ vs : List Value, (∀ w1 : World, w1.heap = w.heap → (Builtin.firstCells size k vx).run P w1 = .ok vs.toArray w1) ∧ VRs μ new vs) ∧ (∀ a ∈ new, a.leaf = true) ∧ new.length = k * size := by
  unfold comes at e
  split at e
  · rename_i b o n cap sz
    split at e
    · simp at e
    · rename_i hsz
      have hsz : sz = size := by simpa using hsz
      subst hsz
      have hx0 := hx
      simp only [VR] at hx
      obtain ⟨L, off, c, hL, rfl, hn, hroom, hbase, hcap, hoff⟩ := hx
      split at e
      · rename_i hn0
        simp at e; obtain ⟨rfl, rfl⟩ := e
        subst hn0
        exact ⟨by simp [Builtin.lenOf], ⟨[], fun w1 _ => by simp [Builtin.firstCells, Go.loadCells, loadCellsFrom], by simp [VRs]⟩, by simp, by simp⟩
      · rename_i hn0
        split at e
        · rename_i l hl
          split at e
          · rename_i hleaf
            simp at e; obtain ⟨rfl, rfl⟩ := e
            have : off = L.base + o := by
              rcases hoff with ⟨h0, _⟩ | h1
              · exact absurd h0 hn0
              · exact h1
            subst this
            obtain ⟨vs, r1, r2⟩ := run_cells (P := P) S hL hl
            exact ⟨by simp [Builtin.lenOf], ⟨vs, fun w1 hw1 => by simp [Builtin.firstCells, r1 w1 hw1], r2⟩, by simpa [List.all_eq_true] using hleaf, loadCells_len hl⟩
          · simp at e
        · simp at e
  · rename_i n cap sz
    simp only [VR] at hx
    obtain ⟨c, rfl, hn, rfl⟩ := hx
    split at e
    · rename_i hn0
      simp at e; obtain ⟨rfl, rfl⟩ := e
      subst hn0
      exact ⟨by simp [Builtin.lenOf], ⟨[], fun w1 _ => by simp [Builtin.firstCells], by simp [VRs]⟩, by simp, by simp⟩
    · simp at e
  · rename_i s
    simp only [VR] at hx; subst hx
    split at e
    case isFalse => simp at e
    rename_i hs1; subst hs1
    simp at e; obtain ⟨rfl, rfl⟩ := e
    refine ⟨by simp [Builtin.lenOf, size_mk], ⟨s.map fun b => .int .u8 b.toNat, ?_, ?_⟩, by simp [AV.leaf], by simp⟩
    · have : (⟨s.toArray⟩ : ByteArray).extract 0 s.length = ⟨s.toArray⟩ := by
        apply ByteArray.ext
        simp
      intro w1 _; simp [Builtin.firstCells, this]
    · refine VRs.of_get (by simp) fun i a e => ?_
      simp only [List.getElem?_map] at e ⊢
      cases hs : s[i]? with
      | none => rw [hs] at e; simp at e
      | some b => rw [hs] at e; simp at e; subst e; exact ⟨_, rfl, by simp [VR]⟩
  · simp at e

theorem growBy_le (newLen : Nat) : ∀ (r c : Nat), c ≤ 2 * newLen + 192 → Builtin.growBy newLen r c ≤ 2 * newLen + 192
  | 0, c, hc => hc
  | r + 1, c, hc => by
    unfold Builtin.growBy
    split
    · exact hc
    · exact growBy_le newLen r _ (by omega)

theorem nextcap_le {need old : Nat} (h : old < need) : Builtin.nextslicecap need old ≤ 2 * need + 192 := by
  unfold Builtin.nextslicecap
  split
  · omega
  · split
    · omega
    · exact growBy_le _ _ _ (by omega)

/-- A block's row goes on in a new one's name, where it lies. -/
theorem Sim.move {w' : World} (S : Sim w0 μ h w) {b : Nat} {x : Blk} (y : Blk) {L : Loc} (off : Nat) (hb : h.get b = some x) (hL : μ b = some L) (hx : x.mine = true)
    (_hs : w'.heap.size = w.heap.size) (ho : ∀ k, k ≠ L.blk → w'.heap[k]? = w.heap[k]?) (hy : ∀ ν, μ.le ν → BlkAt ν w0.old w' ⟨L.blk, off, L.room⟩ y) (_hym : y.mine = true) (hsd : Side w w') :
    μ.le (μ.upd h.nxt ⟨L.blk, off, L.room⟩) ∧ Sim w0 (μ.upd h.nxt ⟨L.blk, off, L.room⟩) ((h.del b).add y) w' := by
  have hm := Mu.le_upd S.dom (Nat.le_refl _) ⟨L.blk, off, L.room⟩
  have hbl := Heap.lt_of_get S hb
  obtain ⟨L0, l1, l2⟩ := S.at_ b x hb
  rw [hL] at l1; simp at l1; subst l1
  refine ⟨hm, ?_, ?_, ?_, ?_, ?_, ?_, fun b hb => ?_, S.side.trans hsd⟩
  · intro c z e
    rw [Heap.get_add, Heap.del_nxt] at e
    split at e
    · rename_i hc; subst hc; simp at e; subst e; exact ⟨_, Mu.upd_same _ _ _, hy _ hm⟩
    · rename_i hc
      rw [Heap.get_del] at e
      split at e
      · cases e
      · rename_i hcb
        obtain ⟨M, m1, m2⟩ := S.at_ c z e
        exact ⟨M, by rw [Mu.upd_ne _ _ hc]; exact m1, m2.mono hm (ho _ (S.apart b c x z L M hb e hL m1 hx hcb).symm)⟩
  · intro c d z u M N e1 e2 e3 e4 hz hne
    rw [Heap.get_add, Heap.del_nxt, Heap.get_del] at e1 e2
    by_cases hc : h.nxt = c
    · subst hc
      rw [Mu.upd_same] at e3; simp at e3; subst e3
      rw [if_neg hne] at e2
      rw [Mu.upd_ne _ _ hne] at e4
      split at e2
      · cases e2
      · rename_i hbd
        exact S.apart b d x u L N hb e2 hL e4 hx hbd
    · rw [if_neg hc] at e1
      rw [Mu.upd_ne _ _ hc] at e3
      split at e1
      · cases e1
      · rename_i hbc
        by_cases hd : h.nxt = d
        · subst hd
          rw [Mu.upd_same] at e4; simp at e4; subst e4
          exact (S.apart b c x z L M hb e1 hL e3 hx hbc).symm
        · rw [if_neg hd] at e2
          rw [Mu.upd_ne _ _ hd] at e4
          split at e2
          · cases e2
          · exact S.apart c d z u M N e1 e2 e3 e4 hz hne
  · intro k q d hk
    have := l2.ge hx
    rw [ho k (by rintro rfl; rw [this] at hk; cases hk)]; exact S.old k q d hk
  · intro c z M q e1 e2
    rw [Heap.get_add, Heap.del_nxt, Heap.get_del] at e1
    by_cases hc : h.nxt = c
    · subst hc
      rw [Mu.upd_same] at e2; simp at e2; subst e2
      exact S.hid b x L q hb hL
    · rw [if_neg hc] at e1
      rw [Mu.upd_ne _ _ hc] at e2
      split at e1
      · cases e1
      · exact S.hid c z M q e1 e2
  · intro c M e
    by_cases hc : h.nxt = c
    · simp; omega
    · rw [Mu.upd_ne _ _ hc] at e; have := S.dom c M e; simp; omega
  · intro c hc
    simp at hc
    rw [Heap.get_add, Heap.del_nxt, if_neg (by omega), Heap.get_del, if_neg (by omega)]
    exact S.live c (by omega)
  · obtain ⟨r1, r2⟩ := S.rsv b hb
    exact ⟨by rw [Mu.upd_ne _ _ (by omega)]; exact r1, by simp; omega⟩

/-- Cells stored into a block of the world, no abstract block in mind. -/
theorem raw_stores {blk : Nat} {t : TypeId} {fz : Nat × Nat} : ∀ (vs : List Value) (o i : Nat) (arr : Array Value) (w : World), w.heap[blk]? = some (.cells arr t fz) → o + i + vs.length ≤ arr.size → (∀ j, j < arr.size → ¬ (fz.1 ≤ j ∧ j < fz.2)) →
    (∀ v ∈ vs, v.oneCell' = true) → ∃ w', (Go.storeCells ⟨blk, o, none⟩ vs i).run P w = .ok () w' ∧ Side w w' ∧ w'.heap.size = w.heap.size ∧ (∀ k, k ≠ blk → w'.heap[k]? = w.heap[k]?) ∧
      ∃ arr' : Array Value, w'.heap[blk]? = some (.cells arr' t fz) ∧ arr'.size = arr.size ∧ (∀ j, j < o + i → arr'[j]? = arr[j]?) ∧ (∀ (j : Nat) v, vs[j]? = some v → arr'[o + i + j]? = some v)
  | [], o, i, arr, w, hb, hl, hf, h1 => ⟨w, by simp [Go.storeCells], Side.refl _, rfl, fun _ _ => rfl, arr, hb, rfl, fun _ _ => rfl, by simp⟩
  | v :: vs, o, i, arr, w, hb, hl, hf, h1 => by
    simp at hl
    have hc : w.cell? ⟨blk, o + i, none⟩ = some arr[o + i] := by rw [cell_of_heap hb]; simp
    have hfz : w.frozen? ⟨blk, o + i, none⟩ = false := by
      have := hf (o + i) (by omega)
      simp only [World.frozen?, hb]
      simpa using this
    have hst : (Go.store ⟨blk, o + i, none⟩ v).run P w = .ok () (w.setCell ⟨blk, o + i, none⟩ v) := by
      rw [run_store P w _ v _ (h1 v (by simp)), hc]; simp [hfz]
    have hnew : (w.setCell ⟨blk, o + i, none⟩ v).heap[blk]? = some (.cells (arr.setIfInBounds (o + i) v) t fz) := by
      simp only [World.setCell, Array.getElem?_modify, if_true, hb, Option.map_some]
      simp
    obtain ⟨w', r1, r0, r2, r3, arr', a1, a2, a3, a4⟩ := raw_stores vs o (i + 1) (arr.setIfInBounds (o + i) v) (w.setCell ⟨blk, o + i, none⟩ v) hnew (by simp; omega) (by simpa using hf) (fun x hx => h1 x (by simp [hx]))
    refine ⟨w', ?_, Side.trans (b := w.setCell ⟨blk, o + i, none⟩ v) ⟨rfl, rfl, rfl⟩ r0, by rw [r2]; simp [World.setCell], fun k hk => ?_, arr', a1, by simpa using a2, fun j hj => ?_, fun j u hu => ?_⟩
    · simp only [Go.storeCells, Sem.run_bind, add_flat, hst, Result.andThen_ok]; exact r1
    · rw [r3 k hk]
      simp only [World.setCell, Array.getElem?_modify]
      rw [if_neg (fun e => hk e.symm)]
    · rw [a3 j (by omega), Array.getElem?_setIfInBounds, if_neg (by omega)]
    · cases j with
      | zero =>
        simp at hu; subst hu
        rw [a3 (o + i + 0) (by omega), Array.getElem?_setIfInBounds]; simp; omega
      | succ j =>
        simp at hu
        have := a4 j u hu
        rwa [show o + (i + 1) + j = o + i + (j + 1) by omega] at this

theorem leaf_one {as : List AV} {vs : List Value} (k : VRs μ as vs) (hl : ∀ a ∈ as, a.leaf = true) : ∀ v ∈ vs, v.oneCell' = true := by
  intro v hv
  obtain ⟨i, hi, rfl⟩ := List.getElem_of_mem hv
  have hlen := k.len
  obtain ⟨u, e1, e2⟩ := k.get (List.getElem?_eq_getElem (by omega : i < as.length))
  rw [List.getElem?_eq_getElem hi] at e1; simp at e1; subst e1
  obtain ⟨k1, k2⟩ := e2.leaf (hl _ (List.getElem_mem _))
  cases hvv : vs[i] with
  | agg x => exact absurd hvv (k1 x)
  | tuple x => exact absurd hvv (k2 x)
  | _ => rfl

/-- The new row of a slice that had no room. -/
theorem grow_run {te : TI} {el : Nat} (ke : TypeOk P el te) (S : Sim w0 μ h w) {need : Nat} (cs : List AV) (vs : List Value) (hv : VRs μ cs vs) (hlen : cs.length = need * te.size) (q : Nat) (hq : need ≤ q) :
    ∃ z : Value, (∀ w, (zeroValue el).run P w = .ok z w) ∧
    ∀ n : Nat, let arr := vs.toArray ++ Builtin.zeroCells z.cells (q - need)
      let w1 : World := { { w with drawn := n } with heap := w.heap.push (.cells arr el) }
      (newRow el arr).run P { w with drawn := n } = .ok ⟨w.heap.size, 0, none⟩ w1 ∧
      μ.le (μ.upd h.nxt ⟨w.heap.size, 0, arr.size⟩) ∧ Sim w0 (μ.upd h.nxt ⟨w.heap.size, 0, arr.size⟩) (h.add (.cells cs true)) w1 ∧
      VR (μ.upd h.nxt ⟨w.heap.size, 0, arr.size⟩) (.slc (some (h.nxt, 0)) need none te.size) (.slice (some ⟨w.heap.size, 0, none⟩) need q) := by
  obtain ⟨z, hz, hz2⟩ := ke.zero'
  refine ⟨z, hz, fun n => ?_⟩
  intro arr w1
  have hzl : z.cells.size = te.size := by
    have := (VRs.ofLeafs (μ := μ) hz2).len
    have h2 := ke.zlen
    simp at this; omega
  have hvl := hv.len
  have hasz : arr.size = q * te.size := by
    simp only [arr, Array.size_append, List.size_toArray, Builtin.zeroCells, Array.size_map, Array.size_range, hzl, hvl, hlen]
    rw [← Nat.add_mul]; congr 1; omega
  have hrow := newRow_sim (P := P) (S.heap (w' := { w with drawn := n }) rfl ⟨rfl, rfl, rfl⟩) cs arr el (by rw [hasz, hlen]; exact Nat.mul_le_mul_right _ hq) (fun i a e => by
    obtain ⟨v, e1, e2⟩ := hv.get e
    have hi : i < vs.length := (List.getElem?_eq_some_iff.1 e1).1
    refine ⟨v, ?_, e2⟩
    simp only [arr]
    rw [Array.getElem?_append_left (by simpa using hi)]
    simpa using e1)
  refine ⟨hrow.1, hrow.2.1, hrow.2.2, ?_⟩
  exact VR.newSlc μ _ _ _ _ _ _ none hq (by omega) (by simp)

end Go.Am

/-
  The abstract machine: append, copy: what these come to in the model.
-/
namespace Go.Am
variable {P : Program} {T : TT} {w0 : Frz} {w : World} {μ : Mu} {h h' : Heap}

theorem cut_ge (need old el t : Nat) : need ≤ (Question.appendCap need old el).cut t := by simp [Question.cut]

/-- The call when there is no room. -/
theorem append_grows {t u : Nat} {ty : TypeId} {el : Nat} {du : TypeDesc} {te : TI} (hu : P.underlying t = some (.slice el)) (huu : P.underlying u = some du) (hni : ∀ k, du ≠ .int k) (ke : TypeOk P el te)
    (S : Sim w0 μ h w) {A : Option Addr} {n c k : Nat} {vx : Value} {old new : List AV} {vold vnew : List Value}
    (hl : ∀ w1 : World, (Builtin.lenOf vx).run P w1 = .ok k w1)
    (hold : ∀ d, (Builtin.firstCells te.size n (.slice A n c)).run P { w with drawn := d } = .ok vold.toArray { w with drawn := d }) (hov : VRs μ old vold) (hol : old.length = n * te.size)
    (hnew : ∀ d, (Builtin.firstCells te.size k vx).run P { w with drawn := d } = .ok vnew.toArray { w with drawn := d }) (hnv : VRs μ new vnew) (hnl : new.length = k * te.size)
    (hroom : ¬ n + k ≤ c) (hb0 : te.bytes ≠ 0) (hb1 : te.bytes ≤ 1048576) (hb2 : (n + k) * te.bytes ≤ roomA) (_hb3 : n + k ≤ roomA) :
    OpTo P w0 μ w (Builtin.append_ #[t, u] ty #[.slice A n c, vx]) (.slc (some (h.nxt, 0)) (n + k) none te.size) (h.add (.cells (old ++ new) true)) := by
  obtain ⟨inf, i1, i2, i3, _⟩ := ke.info
  have hq := cut_ge (n + k) c el (w.tape w.drawn (.appendCap (n + k) c el))
  have hgr := grow_run (P := P) ke S  (need := n + k) (old ++ new) (vold ++ vnew) (hov.append hnv) (by rw [List.length_append, hol, hnl, Nat.add_mul]) _ hq
  obtain ⟨z, hz, hgr⟩ := hgr
  obtain ⟨g1, g2, g3, g4⟩ := hgr (w.drawn + 1)
  refine ⟨_, _, _, ?_, g2, g3, g4⟩
  have hzi : (match du with | .int _ => true | _ => false) = false := by cases du <;> first | rfl | exact absurd rfl (hni _)
  have hnb : ¬ (Builtin.nextslicecap (n + k) c * inf.bytes > 2 ^ 48) := by
    have h1 := nextcap_le (need := n + k) (old := c) (by omega)
    rw [i3]
    have h2 : Builtin.nextslicecap (n + k) c * te.bytes ≤ (2 * (n + k) + 192) * te.bytes := Nat.mul_le_mul_right _ h1
    have h3 : (2 * (n + k) + 192) * te.bytes = 2 * ((n + k) * te.bytes) + 192 * te.bytes := by rw [Nat.add_mul, Nat.mul_assoc]
    unfold roomA at hb2
    omega
  have hfo : (Question.appendCap (n + k) c el).forced = false := rfl
  have hold1 := hold (w.drawn + 1)
  have hnew1 := hnew (w.drawn + 1)
  have happ : vold.toArray ++ vnew.toArray = (vold ++ vnew).toArray := by simp
  have hbytes : ¬ inf.bytes = 0 := by rw [i3]; exact hb0
  simp [Builtin.append_, run_under hu, run_under huu, hroom, hl, run_info i1, hbytes, hnb, hfo, ke.size]
  rw [show w.drew = ({ w with drawn := w.drawn + 1 } : World) from rfl, hold1]
  simp only [Result.andThen_ok, hnew1, hz]
  rw [← Array.append_assoc, happ]
  have g1' := g1
  simp only at g1'
  erw [g1]
  rfl

theorem append_room {t u : Nat} {ty : TypeId} {el : Nat} {du : TypeDesc} {te : TI} (hu : P.underlying t = some (.slice el)) (huu : P.underlying u = some du) (hni : ∀ k, du ≠ .int k) (ke : TypeOk P el te)
    {A : Option Addr} {n c k : Nat} {vx : Value} {vnew : List Value} {w' : World}
    (hl : (Builtin.lenOf vx).run P w = .ok k w) (hnew : (Builtin.firstCells te.size k vx).run P w = .ok vnew.toArray w) (hroom : n + k ≤ c)
    (hst : (∃ a, A = some a ∧ (Go.storeCells (a.add (n * te.size)) vnew).run P w = .ok () w') ∨ (A = none ∧ w' = w)) :
    (Builtin.append_ #[t, u] ty #[.slice A n c, vx]).run P w = .ok (.slice A (n + k) c) w' := by
  rcases hst with ⟨a, rfl, hst⟩ | ⟨rfl, rfl⟩
  · simp [Builtin.append_, run_under hu, run_under huu, hroom, hl, ke.size, hnew, hst]
  · simp [Builtin.append_, run_under hu, run_under huu, hroom, hl, ke.size, hnew]

theorem append_run (hT : TypesOk P T) {t u : Nat} {ty : TypeId} {s x a : AV} {vs vx : Value} {du : TypeDesc} (S : Sim w0 μ h w) (hs : VR μ s vs) (hx : VR μ x vx) (huu : P.underlying u = some du) (hni : ∀ k, du ≠ .int k)
    (e : appendA T t s x h = some (a, h')) : OpTo P w0 μ w (Builtin.append_ #[t, u] ty #[vs, vx]) a h' := by
  unfold appendA at e
  split at e
  · rename_i ti base n cap sz ht
    obtain ⟨d, hu, hk⟩ := (hT _ _ ht).under
    split at e
    · rename_i el hk'
      rw [hk'] at hk; have hd := TK.of_slc hk.symm; subst hd
      split at e
      · simp at e
      · rename_i te hte
        have ke := hT _ _ hte
        split at e
        · simp at e
        · rename_i hszb
          split at e
          · simp at e
          · rename_i k new hcomes
            obtain ⟨l1, ⟨vnew, l2, l3⟩, l4, l5⟩ := comes_run (P := P) S hx hcomes
            split at e
            · simp at e
            · rename_i hlim
              have hb3 : n + k ≤ roomA := by omega
              have hb0 : te.bytes ≠ 0 := by omega
              have hb1 : te.bytes ≤ 1048576 := by omega
              have hb2 : (n + k) * te.bytes ≤ roomA := by omega
              have hlw : ∀ w1 : World, (Builtin.lenOf vx).run P w1 = .ok k w1 := fun w1 => by
                cases vx <;> simp [Builtin.lenOf] at l1 ⊢ <;> exact l1
              have hnewd : ∀ d, (Builtin.firstCells te.size k vx).run P { w with drawn := d } = .ok vnew.toArray { w with drawn := d } := fun d => l2 _ rfl
              have l2 := l2 w rfl
              obtain ⟨A, c0, rfl, hcap⟩ := hs.slc_len
              split at e
              · rename_i c
                have hcc := hcap c rfl; subst hcc
                split at e
                · rename_i hroom
                  cases base with
                  | none =>
                    simp only at e
                    split at e
                    · rename_i hnil
                      simp at e; obtain ⟨rfl, rfl⟩ := e
                      have hs' := hs
                      simp only [VR] at hs
                      obtain ⟨_, _, hnc, hv⟩ := hs
                      simp at hv; obtain ⟨rfl, _⟩ := hv
                      refine ⟨μ, w, _, append_room hu huu hni ke l1 l2 hroom (.inr ⟨rfl, rfl⟩), Mu.le_refl _, S, ?_⟩
                      simp only [VR]; exact ⟨c0, rfl, hroom, rfl⟩
                    · simp at e
                  | some p =>
                    obtain ⟨b, o⟩ := p
                    have hsz : sz = te.size := by simpa using hszb
                    subst hsz
                    simp only [VR] at hs
                    obtain ⟨L, off, c1, hL, hv, hnc, hrm, hbase, hcp, hoff⟩ := hs
                    simp at hv; obtain ⟨rfl, rfl⟩ := hv
                    simp only at e
                    have hres : ∀ ν : Mu, μ.le ν → VR ν (.slc (some (b, o)) (n + k) (some c0) te.size) (.slice (some ⟨L.blk, off, none⟩) (n + k) c0) := fun ν hν => by
                      simp only [VR]
                      refine ⟨L, off, c0, hν _ _ hL, rfl, hroom, hrm, hbase, by simp, ?_⟩
                      rcases hoff with ⟨h0, h1 | h1⟩ | h1
                      · cases h1
                      · simp at h1; exact .inl ⟨by omega, .inr (by simp [h1])⟩
                      · exact .inr h1
                    cases new with
                    | nil =>
                      simp at e; obtain ⟨rfl, rfl⟩ := e
                      simp only [VRs] at l3; subst l3
                      exact ⟨μ, w, _, append_room hu huu hni ke l1 l2 hroom (.inl ⟨_, rfl, by simp [Go.storeCells]⟩), Mu.le_refl _, S, hres μ (Mu.le_refl _)⟩
                    | cons a1 as1 =>
                      simp only at e
                      split at e
                      · rename_i h1 hst
                        simp at e; obtain ⟨rfl, rfl⟩ := e
                        have hoff' : off = L.base + o := by
                          rcases hoff with ⟨h0, h1 | h1⟩ | h1
                          · cases h1
                          · simp at h1
                            have : k = 0 := by omega
                            subst this; simp at l5
                          · exact h1
                        subst hoff'
                        obtain ⟨w', r1, r2⟩ := run_storeCells (P := P) S hL l3 hst
                        refine ⟨μ, w', _, append_room hu huu hni ke l1 l2 hroom (.inl ⟨_, rfl, ?_⟩), Mu.le_refl _, r2, hres μ (Mu.le_refl _)⟩
                        rw [add_flat, show L.base + o + n * te.size = L.base + (o + n * te.size) by omega]; exact r1
                      · simp at e
                · rename_i hroom
                  cases base with
                  | none =>
                    simp only at e
                    split at e
                    · rename_i hn0
                      subst hn0
                      simp at e; obtain ⟨rfl, rfl⟩ := e
                      simp only [VR] at hs
                      obtain ⟨_, _, hnc, hv⟩ := hs
                      simp at hv; obtain ⟨rfl, _⟩ := hv
                      have := append_grows (P := P) (ty := ty) hu huu hni ke S (A := none) (n := 0) (c := c0) (old := []) (vold := []) hlw (fun d => by simp [Builtin.firstCells]) (by simp [VRs]) (by simp) hnewd l3 l5 hroom hb0 hb1 hb2 hb3
                      simpa using this
                    · simp at e
                  | some p =>
                    obtain ⟨b, o⟩ := p
                    have hsz : sz = te.size := by simpa using hszb
                    subst hsz
                    simp only [VR] at hs
                    obtain ⟨L, off, c1, hL, hv, hnc, hrm, hbase, hcp, hoff⟩ := hs
                    simp at hv; obtain ⟨rfl, rfl⟩ := hv
                    simp only at e
                    split at e
                    · rename_i hn0
                      subst hn0
                      simp at e; obtain ⟨rfl, rfl⟩ := e
                      have := append_grows (P := P) (ty := ty) hu huu hni ke S (A := some ⟨L.blk, off, none⟩) (n := 0) (c := c0) (old := []) (vold := []) hlw (fun d => by simp [Builtin.firstCells, Go.loadCells, loadCellsFrom]) (by simp [VRs]) (by simp) hnewd l3 l5 hroom hb0 hb1 hb2 hb3
                      simpa using this
                    · rename_i hn0
                      split at e
                      · rename_i old hold
                        simp at e; obtain ⟨rfl, rfl⟩ := e
                        have hoff' : off = L.base + o := by
                          rcases hoff with ⟨h0, _⟩ | h1
                          · exact absurd h0 hn0
                          · exact h1
                        subst hoff'
                        obtain ⟨vold, r1, r2⟩ := run_cells (P := P) S hL hold
                        exact append_grows (P := P) (ty := ty) hu huu hni ke S hlw (fun d => by simp [Builtin.firstCells, r1 { w with drawn := d } rfl]) r2 (loadCells_len hold) hnewd l3 l5 hroom hb0 hb1 hb2 hb3
                      · simp at e
              · split at e
                · rename_i hk0
                  subst hk0
                  simp at e; obtain ⟨rfl, rfl⟩ := e
                  have hn0 : new = [] := by simpa using l5
                  subst hn0
                  simp only [VRs] at l3; subst l3
                  cases base with
                  | none => simp only [VR] at hs; obtain ⟨_, hs, _⟩ := hs; cases hs
                  | some p =>
                    have hle := hs.slc_le
                    have hs' := hs
                    obtain ⟨b, o⟩ := p
                    simp only [VR] at hs
                    obtain ⟨L, off, c1, hL, hv, _⟩ := hs
                    simp at hv; obtain ⟨rfl, rfl⟩ := hv
                    exact ⟨μ, w, _, append_room hu huu hni ke l1 l2 (by omega) (.inl ⟨_, rfl, by simp [Go.storeCells]⟩), Mu.le_refl _, S, hs'⟩
                · rename_i hk0
                  cases base with
                  | none => simp at e
                  | some p =>
                    obtain ⟨b, o⟩ := p
                    have hsz : sz = te.size := by simpa using hszb
                    subst hsz
                    simp only [VR] at hs
                    obtain ⟨L, off, c1, hL, hv, hnc, hrm, hbase, hcp, hoff⟩ := hs
                    simp at hv; obtain ⟨rfl, rfl⟩ := hv
                    simp only at e
                    split at e
                    · rename_i cs hb
                      split at e
                      · rename_i hwin
                        simp at e; obtain ⟨rfl, rfl⟩ := e
                        obtain ⟨arr, tt, fz, h1, h2, h3, h4, h5⟩ := S.cells hb hL
                        -- the window, in either case
                        have hwl : ((cs.drop o).take (n * te.size)).length = n * te.size := by simp; omega
                        by_cases hroom : n + k ≤ c0
                        · -- in place
                          have hmul : (n + k) * te.size ≤ c0 * te.size := Nat.mul_le_mul_right _ hroom
                          have hvl := l3.len
                          have hadd : (n + k) * te.size = n * te.size + k * te.size := Nat.add_mul _ _ _
                          obtain ⟨w', r1, r0, r2, r3, arr', a1, a2, a3, a4⟩ := raw_stores (P := P) vnew (off + n * te.size) 0 arr w h1 (by omega) (by intro j hj; exact (h5 rfl).2 j (by omega)) (leaf_one l3 l4)
                          have hblk : ∀ ν, μ.le ν → BlkAt ν w0.old w' ⟨L.blk, off, L.room⟩ (.cells ((cs.drop o).take (n * te.size) ++ new) true) := fun ν hν => by
                            refine ⟨arr', tt, fz, a1, by show arr'.size = L.room; omega, by rw [List.length_append, hwl]; show off + (n * te.size + new.length) ≤ L.room; omega, fun i a ha => ?_, h5⟩
                            show ∃ v, arr'[off + i]? = some v ∧ VR ν a v
                            by_cases hi : i < n * te.size
                            · rw [List.getElem?_append_left (by omega), List.getElem?_take, if_pos hi, List.getElem?_drop] at ha
                              have hn0 : n ≠ 0 := by rintro rfl; simp at hi
                              have hoff' : off = L.base + o := by
                                rcases hoff with ⟨h0, _⟩ | h1
                                · exact absurd h0 hn0
                                · exact h1
                              obtain ⟨v, v1, v2⟩ := h4 (o + i) a ha
                              exact ⟨v, by rw [a3 _ (by omega), ← v1]; congr 1; omega, VR.mono hν _ _ v2⟩
                            · rw [List.getElem?_append_right (by omega), hwl] at ha
                              obtain ⟨v, v1, v2⟩ := l3.get ha
                              have := a4 (i - n * te.size) v v1
                              exact ⟨v, by rw [← this]; congr 1; omega, VR.mono hν _ _ v2⟩
                          obtain ⟨m1, m2⟩ := S.move _ off hb hL rfl r2 r3 hblk rfl r0
                          refine ⟨_, w', _, append_room hu huu hni ke l1 l2 hroom (.inl ⟨_, rfl, by rw [add_flat]; exact r1⟩), m1, m2, ?_⟩
                          simp only [VR]
                          exact ⟨_, off, c0, Mu.upd_same _ _ _, rfl, hroom, hrm, Nat.le_refl _, by simp, .inr (by simp)⟩
                        · -- elsewhere
                          have hold : ∃ vold : List Value, (∀ d, (Builtin.firstCells te.size n (.slice (some ⟨L.blk, off, none⟩) n c0)).run P { w with drawn := d } = .ok vold.toArray { w with drawn := d }) ∧ VRs μ ((cs.drop o).take (n * te.size)) vold := by
                            by_cases hn0 : n = 0
                            · subst hn0
                              exact ⟨[], fun d => by simp [Builtin.firstCells, Go.loadCells, loadCellsFrom], by simp [VRs]⟩
                            · have hoff' : off = L.base + o := by
                                rcases hoff with ⟨h0, _⟩ | h1
                                · exact absurd h0 hn0
                                · exact h1
                              subst hoff'
                              have hlc : loadCells h b o (n * te.size) = some ((cs.drop o).take (n * te.size)) := by
                                simp only [Am.loadCells, hb]; rw [if_pos hwin]
                              obtain ⟨vold, r1, r2⟩ := run_cells (P := P) S hL hlc
                              exact ⟨vold, fun d => by simp [Builtin.firstCells, r1 { w with drawn := d } rfl], r2⟩
                          obtain ⟨vold, o1, o2⟩ := hold
                          have := append_grows (P := P) (ty := ty) hu huu hni ke (S.del b) hlw o1 o2 hwl hnewd l3 l5 hroom hb0 hb1 hb2 hb3
                          simpa using this
                      · simp at e
                    · simp at e
    · simp at e
  · simp at e

end Go.Am

/-
  The abstract machine: copy, lengths, conversions, and each operation as a whole.
-/
namespace Go.Am
variable {P : Program} {T : TT} {w0 : Frz} {w : World} {μ : Mu} {h h' : Heap}

theorem loadCells_take {b o n m : Nat} {l : List AV} (e : loadCells h b o n = some l) (hm : m ≤ n) : loadCells h b o m = some (l.take m) := by
  unfold Am.loadCells at e ⊢
  split at e
  · rename_i cs wr hb
    split at e
    · rename_i hn
      simp at e; subst e
      rw [if_pos (by omega), List.take_take, Nat.min_eq_left hm]
    · simp at e
  · simp at e

theorem comes_take {size k m : Nat} {x : AV} {vx : Value} {new : List AV} (S : Sim w0 μ h w) (hx : VR μ x vx) (e : comes size x h = some (k, new)) (hm : m ≤ k) :
    ∃ vs : List Value, (Builtin.firstCells size m vx).run P w = .ok vs.toArray w ∧ VRs μ (new.take (m * size)) vs := by
  unfold comes at e
  split at e
  · rename_i b o n cap sz
    split at e
    · simp at e
    · rename_i hsz
      have hsz : sz = size := by simpa using hsz
      subst hsz
      simp only [VR] at hx
      obtain ⟨L, off, c, hL, rfl, hn, hroom, hbase, hcap, hoff⟩ := hx
      split at e
      · rename_i hn0
        simp at e; obtain ⟨rfl, rfl⟩ := e
        have : m = 0 := by omega
        subst this
        exact ⟨[], by simp [Builtin.firstCells, Go.loadCells, loadCellsFrom], by simp [VRs]⟩
      · rename_i hn0
        split at e
        · rename_i l hl
          split at e
          · simp at e; obtain ⟨rfl, rfl⟩ := e
            have : off = L.base + o := by
              rcases hoff with ⟨h0, _⟩ | h1
              · exact absurd h0 hn0
              · exact h1
            subst this
            obtain ⟨vs, r1, r2⟩ := run_cells (P := P) S hL (loadCells_take hl (Nat.mul_le_mul_right sz hm))
            exact ⟨vs, by simp [Builtin.firstCells, r1 w rfl], r2⟩
          · simp at e
        · simp at e
  · rename_i n cap sz
    simp only [VR] at hx
    obtain ⟨c, rfl, hn, rfl⟩ := hx
    split at e
    · simp at e; obtain ⟨rfl, rfl⟩ := e
      exact ⟨[], by simp [Builtin.firstCells], by simp [VRs]⟩
    · simp at e
  · rename_i s
    simp only [VR] at hx; subst hx
    split at e
    · rename_i hs1; subst hs1
      simp at e; obtain ⟨rfl, rfl⟩ := e
      refine ⟨(s.take m).map fun b => .int .u8 b.toNat, ?_, ?_⟩
      · have : (⟨s.toArray⟩ : ByteArray).extract 0 m = ⟨(s.take m).toArray⟩ := by
          apply ByteArray.ext
          simp
        simp [Builtin.firstCells, this]
      · refine VRs.of_get (by simp) fun i a e => ?_
        simp only [List.getElem?_map, Nat.mul_one, ← List.map_take] at e ⊢
        cases hs : (s.take m)[i]? with
        | none => rw [hs] at e; simp at e
        | some b => rw [hs] at e; simp at e; subst e; exact ⟨_, rfl, by simp [VR]⟩
    · simp at e
  · simp at e

theorem copy_run (hT : TypesOk P T) {t u : Nat} {ty : TypeId} {d x a : AV} {vd vx : Value} (S : Sim w0 μ h w) (hd : VR μ d vd) (hx : VR μ x vx) (e : copyA T t d x h = some (a, h')) :
    OpTo P w0 μ w (Builtin.copy_ #[t, u] ty #[vd, vx]) a h' := by
  unfold copyA at e
  split at e
  · rename_i ti base n cap sz ht
    obtain ⟨dd, hu, hk⟩ := (hT _ _ ht).under
    split at e
    · rename_i el hk'
      rw [hk'] at hk; have hdd := TK.of_slc hk.symm; subst hdd
      split at e
      · simp at e
      · rename_i te hte
        have ke := hT _ _ hte
        split at e
        · simp at e
        · rename_i k new hcomes
          split at e
          · simp at e
          · rename_i hszb
            obtain ⟨l1, _, l4, l5⟩ := comes_run (P := P) S hx hcomes
            obtain ⟨vs, r1, r2⟩ := comes_take (P := P) (m := min k n) S hx hcomes (Nat.min_le_left _ _)
            obtain ⟨A, c0, rfl, hcap⟩ := hd.slc_len
            have hmin : Nat.min k n = min k n := rfl
            simp only at e
            split at e
            · rename_i hnil
              simp at e; obtain ⟨rfl, rfl⟩ := e
              rw [hnil] at r2; simp only [VRs] at r2; subst r2
              refine ⟨μ, w, _, ?_, Mu.le_refl _, S, by simp only [VR]; rfl⟩
              cases A <;> simp [Builtin.copy_, run_under hu, l1, ke.size, hmin, r1, Go.storeCells, goInt]
            · rename_i l b o hne
              split at e
              · rename_i h1 hst
                simp at e; obtain ⟨rfl, rfl⟩ := e
                simp only [VR] at hd
                obtain ⟨L, off, c1, hL, hv, hnc, hrm, hbase, hcp, hoff⟩ := hd
                simp at hv; obtain ⟨rfl, rfl⟩ := hv
                have hoff' : off = L.base + o := by
                  rcases hoff with ⟨h0, _⟩ | h1
                  · subst h0; simp at hne
                  · exact h1
                subst hoff'
                obtain ⟨w', s1, s2⟩ := run_storeCells (P := P) S hL r2 hst
                refine ⟨μ, w', _, ?_, Mu.le_refl _, s2, by simp only [VR]; rfl⟩
                simp [Builtin.copy_, run_under hu, l1, ke.size, hmin, r1, s1, goInt]
              · simp at e
            · simp at e
    · simp at e
  · simp at e

theorem len_run (hT : TypesOk P T) {t : Nat} {ty : TypeId} {rest : List TypeId} {x a : AV} {vx : Value} (S : Sim w0 μ h w) (hx : VR μ x vx) (e : lenA T t x h = some a) :
    ∃ v, (Builtin.len_ (t :: rest).toArray ty #[vx]).run P w = .ok v w ∧ ∀ ν, VR ν a v := by
  unfold lenA at e
  split at e
  · simp at e
  · rename_i ti ht
    obtain ⟨dd, hu, hk⟩ := (hT _ _ ht).under
    split at e
    · rename_i s hk'
      rw [hk'] at hk; have hd := TK.of_str hk.symm; subst hd
      simp only [VR] at hx; subst hx
      simp at e; subst e
      exact ⟨.int .i64 s.length, by simp [Builtin.len_, run_under hu, size_mk, goInt], fun ν => by simp [VR]⟩
    · rename_i n el hk'
      rw [hk'] at hk; have hd := TK.of_arr hk.symm; subst hd
      simp at e; subst e
      exact ⟨.int .i64 n, by simp [Builtin.len_, run_under hu, goInt], fun ν => by simp [VR]⟩
    · rename_i el b n cap sz hk'
      rw [hk'] at hk; have hd := TK.of_slc hk.symm; subst hd
      obtain ⟨A, c0, rfl, hcap⟩ := hx.slc_len
      simp at e; subst e
      exact ⟨.int .i64 n, by simp [Builtin.len_, run_under hu, goInt], fun ν => by simp [VR]⟩
    · rename_i k1 k2 hk'
      rw [hk'] at hk; have hd := TK.of_map hk.symm; subst hd
      simp only [VR] at hx; subst hx
      simp at e; subst e
      exact ⟨.int .i64 0, by simp [Builtin.len_, run_under hu, goInt], fun ν => by simp [VR]⟩
    · rename_i k1 k2 r hk'
      rw [hk'] at hk; have hd := TK.of_map hk.symm; subst hd
      simp only [VR] at hx; obtain ⟨L, hL, rfl⟩ := hx
      split at e
      · rename_i es ck hb
        simp at e; subst e
        obtain ⟨L', q1, q2⟩ := S.at_ r _ hb
        rw [hL] at q1; simp at q1; subst q1
        obtain ⟨_, es', q3, q4, _⟩ := q2
        refine ⟨.int .i64 es.length, ?_, fun ν => by simp [VR]⟩
        have : (getObj L.blk).run P w = .ok (.map es' ck) w := by simp [getObj, Sem.run, q3]
        simp [Builtin.len_, run_under hu, goInt, this, q4]
      · simp at e
    · simp at e

theorem min_run {x a : AV} {vx : Value} : ∀ {l : List AV} {vl : List Value}, VR μ x vx → VRs μ l vl → minA x l = some a → ∃ v, (vl.foldlM Builtin.min2 vx).run P w = .ok v w ∧ VR μ a v
  | [], vl, hx, hl, e => by
    simp only [VRs] at hl; subst hl
    simp [minA] at e; subst e
    exact ⟨vx, by simp, hx⟩
  | y :: l, vl, hx, hl, e => by
    simp only [VRs] at hl
    obtain ⟨vy, vl', hy, hl, rfl⟩ := hl
    cases x with
    | int k a1 => cases y with
      | int k' b1 =>
        simp only [VR] at hx hy; subst hx hy
        simp only [minA] at e
        obtain ⟨v, r1, r2⟩ := min_run (x := .int k (if b1 < a1 then b1 else a1)) (vx := .int k (if b1 < a1 then b1 else a1)) (by simp [VR]) hl e
        exact ⟨v, by simp [Builtin.min2, r1], r2⟩
      | _ => simp [minA] at e
    | _ => simp [minA] at e

theorem max_run {x a : AV} {vx : Value} : ∀ {l : List AV} {vl : List Value}, VR μ x vx → VRs μ l vl → maxA x l = some a → ∃ v, (vl.foldlM Builtin.max2 vx).run P w = .ok v w ∧ VR μ a v
  | [], vl, hx, hl, e => by
    simp only [VRs] at hl; subst hl
    simp [maxA] at e; subst e
    exact ⟨vx, by simp, hx⟩
  | y :: l, vl, hx, hl, e => by
    simp only [VRs] at hl
    obtain ⟨vy, vl', hy, hl, rfl⟩ := hl
    cases x with
    | int k a1 => cases y with
      | int k' b1 =>
        simp only [VR] at hx hy; subst hx hy
        simp only [maxA] at e
        obtain ⟨v, r1, r2⟩ := max_run (x := .int k (if b1 > a1 then b1 else a1)) (vx := .int k (if b1 > a1 then b1 else a1)) (by simp [VR]) hl e
        refine ⟨v, ?_, r2⟩
        simp only [List.foldlM_cons, Builtin.max2, Sem.run_bind, Sem.run_pure, Result.andThen_ok]; exact r1
      | _ => simp [maxA] at e
    | _ => simp [maxA] at e

theorem bytesOf_eq : ∀ {l : List AV} {m : List UInt8}, bytesOf l = some m → ∃ ns : List Int, l = ns.map (AV.int .u8) ∧ m = ns.map (fun n => UInt8.ofNat n.toNat)
  | [], m, e => by simp [bytesOf] at e; subst e; exact ⟨[], rfl, rfl⟩
  | a :: l, m, e => by
    unfold bytesOf at e
    split at e
    · rename_i h; cases h
    · rename_i n l' h
      simp at h; obtain ⟨rfl, rfl⟩ := h
      split at e
      · rename_i m' hm
        simp at e; subst e
        obtain ⟨ns, rfl, rfl⟩ := bytesOf_eq hm
        exact ⟨n :: ns, rfl, rfl⟩
      · simp at e
    · simp at e

theorem VRs.ints : ∀ {ns : List Int} {vs : List Value}, VRs μ (ns.map (AV.int .u8)) vs → vs = ns.map (Value.int .u8)
  | [], vs, e => by simpa [VRs] using e
  | n :: ns, vs, e => by
    simp only [List.map_cons, VRs] at e
    obtain ⟨v, vs', hv, hvs, rfl⟩ := e
    simp only [VR] at hv; subst hv
    rw [VRs.ints hvs]; rfl

theorem foldl_push (ns : List Int) : ∀ (s : ByteArray), ns.foldl (fun r n => r.push (UInt8.ofNat n.toNat)) s = ⟨(s.data.toList ++ ns.map (fun n => UInt8.ofNat n.toNat)).toArray⟩ := by
  induction ns with
  | nil => intro s; simp
  | cons n ns ih =>
    intro s
    simp only [List.foldl_cons, ih]
    simp [ByteArray.push]

theorem push_modify (a : Array Obj) (x : Obj) (f : Obj → Obj) : (a.push x).modify a.size f = a.push (f x) := by
  apply Array.ext
  · simp
  · intro i h1 h2
    rw [Array.getElem_modify, Array.getElem_push, Array.getElem_push]
    by_cases hi : i < a.size
    · simp [hi]; omega
    · have : a.size = i := by simp at h2; omega
      subst this
      simp

theorem conv_run (hT : TypesOk P T) {s d : Nat} {x a : AV} {vx : Value} (S : Sim w0 μ h w) (hx : VR μ x vx) (e : convA T s d x h = some (a, h')) : OpTo P w0 μ w (convert s d vx) a h' := by
  unfold convA at e
  split at e
  · rename_i si di hs hd
    obtain ⟨ds, hus, hks⟩ := (hT _ _ hs).under
    obtain ⟨dd, hud, hkd⟩ := (hT _ _ hd).under
    split at e
    · rename_i k k' n hk'
      rw [hk'] at hkd; have hdd := TK.of_int hkd.symm; subst hdd
      simp only [VR] at hx; subst hx
      simp at e; obtain ⟨rfl, rfl⟩ := e
      exact OpTo.plain S (v := .int k (k.wrap n)) (by simp [convert, run_under hus, run_under hud, Conv.intToInt]) (by simp [VR])
    · rename_i l hk'
      rw [hk'] at hkd; have hdd := TK.of_str hkd.symm; subst hdd
      have hx' := hx
      simp only [VR] at hx; subst hx
      simp at e; obtain ⟨rfl, rfl⟩ := e
      exact OpTo.plain S (by simp [convert, run_under hus, run_under hud]) hx'
    · rename_i el l hk'
      rw [hk'] at hkd; have hdd := TK.of_slc hkd.symm; subst hdd
      simp only [VR] at hx; subst hx
      split at e
      · rename_i te hte
        split at e
        · rename_i hu8
          obtain ⟨de, hue, hke⟩ := (hT _ _ hte).under
          rw [hu8] at hke; have hde := TK.of_int hke.symm; subst hde
          simp at e; obtain ⟨rfl, rfl⟩ := e
          have hq := cut_ge l.length 0 el (w.tape w.drawn (.appendCap l.length 0 el))
          let q := (Question.appendCap l.length 0 el).cut (w.tape w.drawn (.appendCap l.length 0 el))
          let arr : Array Value := (l.map fun b => Value.int .u8 b.toNat).toArray ++ Array.replicate (q - l.length) (.int .u8 0)
          have hasz : arr.size = q := by simp [arr]; omega
          let w1 : World := { w with drawn := w.drawn + 1 }
          obtain ⟨m1, m2⟩ := (S.heap (w' := w1) rfl ⟨rfl, rfl, rfl⟩).add (.cells (l.map fun b => .int .u8 b.toNat) true) (.cells arr el (arr.size, arr.size + 1)) arr.size (fun ν w' hν hw => by
            refine ⟨arr, el, _, hw, rfl, by simp; omega, fun i a ha => ?_, fun _ => ⟨(S.heap (w' := w1) rfl ⟨rfl, rfl, rfl⟩).fresh, fun i hi => by replace hi : i < arr.size := hi; simp; omega⟩⟩
            simp only [List.getElem?_map] at ha
            cases hs : l[i]? with
            | none => rw [hs] at ha; simp at ha
            | some b =>
              rw [hs] at ha; simp at ha; subst ha
              have hi : i < l.length := (List.getElem?_eq_some_iff.1 hs).1
              refine ⟨.int .u8 b.toNat, ?_, by simp [VR]⟩
              simp only [arr, Nat.zero_add]
              rw [Array.getElem?_append_left (by simpa using hi)]
              simp [hs])
          refine ⟨_, _, _, ?_, m1, m2, VR.newSlc μ _ _ _ 1 l.length q none hq (by omega) (by simp)⟩
          have hfo : (Question.appendCap l.length 0 el).forced = false := rfl
          have hmk : (⟨l.toArray⟩ : ByteArray).data.map (fun b => Value.int .u8 b.toNat) = (l.map fun b => Value.int .u8 b.toNat).toArray := by simp
          have e1 : (convert s d (.string ⟨l.toArray⟩)).run P w = (Conv.stringToBytes el ⟨l.toArray⟩).run P w := by
            simp [convert, run_under hus, run_under hud, run_under hue]
          rw [e1]
          simp only [Conv.stringToBytes, Sem.run_bind, run_choose, size_mk, hfo, Bool.false_eq_true, if_false, Result.andThen_ok, hmk, newRow, run_newObj, Sem.run_pure, markStringish, run_shape]
          have hsh : ({ w1 with heap := w1.heap.push (.cells arr el) } : World).shape? w1.heap.size = some (el, arr.size) := by
            simp [World.shape?]
          simp only [World.shape?] at hsh ⊢
          simp only [Array.getElem?_push_size, run_freeze, Result.andThen_ok]
          have hfr : (({ heap := w.heap.push (.cells arr el), tape := w.tape, drawn := w.drawn + 1, os := w.os, output := w.output } : World).freeze ⟨w.heap.size, arr.size, none⟩ 1) = { heap := w1.heap.push (.cells arr el (arr.size, arr.size + 1)), tape := w1.tape, drawn := w1.drawn, os := w1.os, output := w1.output } := by
            simp only [World.freeze]
            rw [if_neg (by simp)]
            rw [push_modify]
            rfl
          exact congrArg (fun x => Result.ok (Value.slice (some ⟨w.heap.size, 0, none⟩) l.length q) x) hfr
        · simp at e
      · simp at e
    · rename_i el b n cap sz hk1 hk2
      rw [hk1] at hks; have hds := TK.of_slc hks.symm; subst hds
      rw [hk2] at hkd; have hdd := TK.of_str hkd.symm; subst hdd
      split at e
      · rename_i te hte
        split at e
        · rename_i hu8
          obtain ⟨de, hue, hke⟩ := (hT _ _ hte).under
          rw [hu8] at hke; have hde := TK.of_int hke.symm; subst hde
          obtain ⟨A, c0, rfl, hcap⟩ := hx.slc_len
          have e1 := run_convert_bytes_string w s d el A n c0 hus hue hud
          split at e
          · simp at e; obtain ⟨rfl, rfl⟩ := e
            simp only [VR] at hx; obtain ⟨_, _, _, hv⟩ := hx; simp at hv; obtain ⟨rfl, rfl⟩ := hv
            exact OpTo.plain S (v := .string .empty) (by rw [e1]; simp [Conv.bytesToString]) (by simp only [VR]; rfl)
          · rename_i b o
            simp only [VR] at hx
            obtain ⟨L, off, c1, hL, hv, hnc, hrm, hbase, hcp, hoff⟩ := hx
            simp at hv; obtain ⟨rfl, rfl⟩ := hv
            split at e
            · rename_i hn0; subst hn0
              simp at e; obtain ⟨rfl, rfl⟩ := e
              refine OpTo.plain S (v := .string .empty) ?_ (by simp only [VR]; rfl)
              rw [e1, run_bytesToString w _ 0 c0 [] (by simp [Go.loadCells, loadCellsFrom])]; rfl
            · rename_i hn0
              have hoff' : off = L.base + o := by
                rcases hoff with ⟨h0, _⟩ | h1
                · exact absurd h0 hn0
                · exact h1
              subst hoff'
              split at e
              · rename_i l hl
                split at e
                · rename_i m hm
                  simp at e; obtain ⟨rfl, rfl⟩ := e
                  obtain ⟨ns, rfl, rfl⟩ := bytesOf_eq hm
                  obtain ⟨vs, r1, r2⟩ := run_cells (P := P) S hL hl
                  have := VRs.ints r2; subst this
                  refine OpTo.plain S (v := .string ⟨(ns.map fun n => UInt8.ofNat n.toNat).toArray⟩) ?_ (by simp only [VR])
                  rw [e1, run_bytesToString w _ n c0 ns (r1 w rfl), foldl_push]
                  simp
                · simp at e
              · simp at e
        · simp at e
      · simp at e
    · simp at e
  · simp at e

end Go.Am

/-
  The abstract machine: maps, capacities, zeros that are appended: what these come to in the model.
-/
namespace Go.Am
variable {P : Program} {T : TT} {w0 : Frz} {w : World} {μ : Mu} {h h' : Heap}

/-- A map's entries. -/
def EsR (μ : Mu) : List (AV × AV × Nat) → List MapEntry → Prop
  | [], l => l = []
  | e :: es, l => ∃ m ms, l = m :: ms ∧ VR μ e.1 m.key ∧ VR μ e.2.1 m.val ∧ m.born = e.2.2 ∧ EsR μ es ms

theorem EsR.of : ∀ {es : List (AV × AV × Nat)} {l : List MapEntry}, l.length = es.length → (∀ (i : Nat) k v (b : Nat), es[i]? = some (k, v, b) → ∃ e : MapEntry, l[i]? = some e ∧ VR μ k e.key ∧ VR μ v e.val ∧ e.born = b) → EsR μ es l
  | [], l, h1, _ => by simpa [EsR] using h1
  | (k, v, b) :: es, l, h1, h2 => by
    obtain ⟨e, e1, e2, e3, e4⟩ := h2 0 k v b rfl
    cases l with
    | nil => simp at e1
    | cons m ms =>
      simp only [List.getElem?_cons_zero, Option.some.injEq] at e1
      subst e1
      exact ⟨_, _, rfl, e2, e3, e4, EsR.of (by simpa using h1) fun i k v b hi => by simpa using h2 (i + 1) k v b (by simpa using hi)⟩

theorem EsR.get : ∀ {es : List (AV × AV × Nat)} {l : List MapEntry}, EsR μ es l → l.length = es.length ∧ ∀ (i : Nat) k v (b : Nat), es[i]? = some (k, v, b) → ∃ e : MapEntry, l[i]? = some e ∧ VR μ k e.key ∧ VR μ v e.val ∧ e.born = b
  | [], l, h => by simp only [EsR] at h; subst h; simp
  | e :: es, l, h => by
    obtain ⟨m, ms, rfl, h1, h2, h3, h4⟩ := h
    obtain ⟨g1, g2⟩ := h4.get
    refine ⟨by simp [g1], fun i k v b hi => ?_⟩
    cases i with
    | zero =>
      simp only [List.getElem?_cons_zero, Option.some.injEq] at hi
      subst hi
      exact ⟨m, rfl, h1, h2, h3⟩
    | succ i => simpa using g2 i k v b (by simpa using hi)

theorem EsR.set {es : List (AV × AV × Nat)} {l : List MapEntry} (r : EsR μ es l) (i : Nat) {k v : AV} {b : Nat} {m : MapEntry} (h1 : VR μ k m.key) (h2 : VR μ v m.val) (h3 : m.born = b) : EsR μ (es.set i (k, v, b)) (l.set i m) := by
  obtain ⟨g1, g2⟩ := r.get
  refine EsR.of (by simpa using g1) fun j k' v' b' hj => ?_
  rw [List.getElem?_set] at hj ⊢
  by_cases hij : i = j
  · subst hij
    simp only [if_true] at hj ⊢
    split at hj
    · rename_i hlt
      simp only [Option.some.injEq, Prod.mk.injEq] at hj
      obtain ⟨rfl, rfl, rfl⟩ := hj
      rw [if_pos (by omega)]
      exact ⟨m, rfl, h1, h2, h3⟩
    · simp at hj
  · rw [if_neg hij] at hj ⊢
    exact g2 j k' v' b' hj

theorem EsR.push {es : List (AV × AV × Nat)} {l : List MapEntry} (r : EsR μ es l) {k v : AV} {b : Nat} {m : MapEntry} (h1 : VR μ k m.key) (h2 : VR μ v m.val) (h3 : m.born = b) : EsR μ (es ++ [(k, v, b)]) (l ++ [m]) := by
  obtain ⟨g1, g2⟩ := r.get
  refine EsR.of (by simpa using g1) fun j k' v' b' hj => ?_
  rw [List.getElem?_append] at hj ⊢
  by_cases hlt : j < es.length
  · rw [if_pos hlt] at hj
    rw [if_pos (by omega)]
    exact g2 j k' v' b' hj
  · rw [if_neg hlt] at hj
    rw [if_neg (by omega), g1]
    have h0 : j - es.length = 0 := by
      have := (List.getElem?_eq_some_iff.1 hj).1
      simp at this; omega
    rw [h0] at hj ⊢
    simp only [List.getElem?_cons_zero, Option.some.injEq, Prod.mk.injEq] at hj ⊢
    obtain ⟨rfl, rfl, rfl⟩ := hj
    exact ⟨m, rfl, h1, h2, h3⟩

theorem map_at (S : Sim w0 μ h w) {r : Nat} {es : List (AV × AV × Nat)} {clock : Nat} {L : Loc} (hg : h.get r = some (.map es clock)) (hL : μ r = some L) :
    w0.old L.blk = none ∧ ∃ es' : Array MapEntry, w.heap[L.blk]? = some (.map es' clock) ∧ EsR μ es es'.toList := by
  obtain ⟨L', q1, q2⟩ := S.at_ r _ hg
  rw [hL] at q1; simp at q1; subst q1
  obtain ⟨q0, es', q3, q4, q5⟩ := q2
  exact ⟨q0, es', q3, EsR.of (by simpa using q4) fun i k v b hi => by
    obtain ⟨e, e1, e2⟩ := q5 i k v b hi
    exact ⟨e, by simpa using e1, e2⟩⟩

theorem mapTypes_ok (hT : TypesOk P T) {t : Nat} {ki : TK} {et : Nat} (e : mapTypes T t = some (ki, et)) : ∃ kt dk, P.underlying t = some (.map kt et) ∧ P.underlying kt = some dk ∧ ki = TK.of dk ∧ ((∃ k, dk = .int k) ∨ dk = .string ∨ dk = .bool) := by
  unfold mapTypes at e
  split at e
  · rename_i ti ht
    obtain ⟨d, hu, hk⟩ := (hT _ _ ht).under
    split at e
    · rename_i kt et' hk'
      rw [hk'] at hk; have hd := TK.of_map hk.symm; subst hd
      split at e
      · rename_i tk htk
        obtain ⟨dk, huk, hkk⟩ := (hT _ _ htk).under
        split at e
        · rename_i k hk2
          simp only [Option.some.injEq, Prod.mk.injEq] at e; obtain ⟨rfl, rfl⟩ := e
          rw [hk2] at hkk; have hd2 := TK.of_int hkk.symm; subst hd2
          exact ⟨kt, _, hu, huk, rfl, .inl ⟨_, rfl⟩⟩
        · rename_i hk2
          simp only [Option.some.injEq, Prod.mk.injEq] at e; obtain ⟨rfl, rfl⟩ := e
          rw [hk2] at hkk; have hd2 := TK.of_str hkk.symm; subst hd2
          exact ⟨kt, _, hu, huk, rfl, .inr (.inl rfl)⟩
        · rename_i hk2
          simp only [Option.some.injEq, Prod.mk.injEq] at e; obtain ⟨rfl, rfl⟩ := e
          rw [hk2] at hkk; have hd2 := TK.of_bool hkk.symm; subst hd2
          exact ⟨kt, _, hu, huk, rfl, .inr (.inr rfl)⟩
        · simp at e
      · simp at e
    · simp at e
  · simp at e

theorem keyEq_run {dk : TypeDesc} {a b : AV} {va vb : Value} {r : Bool} (e : keyEq (TK.of dk) a b = some r) (ha : VR μ a va) (hb : VR μ b vb) : Instr.sameNow dk va vb = some r ∧ (r = true → va = vb ∧ Instr.sameBits 10000 va vb = true) := by
  unfold keyEq at e
  split at e
  · rename_i k1 k a' k' b' hk
    have hd := TK.of_int hk; subst hd
    simp only [VR] at ha hb; subst ha hb
    split at e
    · rename_i hkk; subst hkk
      simp only [Option.some.injEq] at e; subst e
      refine ⟨by simp [Instr.sameNow], fun h => ?_⟩
      have : a' = b' := by simpa using h
      subst this
      exact ⟨rfl, by simp [Instr.sameBits]⟩
    · simp at e
  · rename_i a' b' hk
    have hd := TK.of_str hk; subst hd
    simp only [VR] at ha hb; subst ha hb
    simp only [Option.some.injEq] at e; subst e
    refine ⟨by simp [Instr.sameNow, beq_toListBytes], fun h => ?_⟩
    have : a' = b' := by simpa using h
    subst this
    exact ⟨rfl, by simp [Instr.sameBits, beq_toListBytes]⟩
  · rename_i a' b' hk
    have hd := TK.of_bool hk; subst hd
    simp only [VR] at ha hb; subst ha hb
    simp only [Option.some.injEq] at e; subst e
    refine ⟨by simp [Instr.sameNow], fun h => ?_⟩
    have : a' = b' := by simpa using h
    subst this
    exact ⟨rfl, by simp [Instr.sameBits]⟩
  · simp at e

theorem findA_run {dk : TypeDesc} {k : AV} {vk : Value} (hk : VR μ k vk) : ∀ {es : List (AV × AV × Nat)} {l : List MapEntry} {i : Nat} {r : Option (Nat × AV × Nat)}, EsR μ es l → findA (TK.of dk) k es i = some r →
    (r = none → Instr.findNow dk vk l i = some none) ∧ ∀ j v b, r = some (j, v, b) → ∃ m : MapEntry, Instr.findNow dk vk l i = some (some (j, m.val)) ∧ i ≤ j ∧ l[j - i]? = some m ∧ VR μ v m.val ∧ m.born = b ∧ vk = m.key ∧ Instr.sameBits 10000 vk m.key = true
  | [], l, i, r, hr, e => by
    simp only [EsR] at hr; subst hr
    simp only [findA, Option.some.injEq] at e; subst e
    exact ⟨fun _ => rfl, by simp⟩
  | x :: es, l, i, r, hr, e => by
    obtain ⟨m, ms, rfl, h1, h2, h3, h4⟩ := hr
    simp only [findA] at e
    split at e
    · rename_i hq
      obtain ⟨s1, s2⟩ := keyEq_run hq hk h1
      obtain ⟨s3, s4⟩ := s2 rfl
      simp only [Option.some.injEq] at e; subst e
      refine ⟨by simp, fun j v b hj => ?_⟩
      simp only [Option.some.injEq, Prod.mk.injEq] at hj
      obtain ⟨rfl, hx⟩ := hj
      obtain ⟨x1, x2, x3⟩ := x
      simp only [Prod.mk.injEq] at hx
      obtain ⟨rfl, rfl⟩ := hx
      exact ⟨m, by simp [Instr.findNow, s1], Nat.le_refl _, by simp, h2, h3, s3, s4⟩
    · rename_i hq
      obtain ⟨s1, _⟩ := keyEq_run hq hk h1
      obtain ⟨i1, i2⟩ := findA_run hk h4 e
      refine ⟨fun h => by simp [Instr.findNow, s1, i1 h], fun j v b hj => ?_⟩
      obtain ⟨m', q1, q2, q3, q4⟩ := i2 j v b hj
      refine ⟨m', by simp [Instr.findNow, s1, q1], by omega, ?_, q4⟩
      rw [show j - i = (j - (i + 1)) + 1 by omega]
      simpa using q3
    · simp at e

theorem checkKey_run {kt : Nat} {dk : TypeDesc} (hu : P.underlying kt = some dk) (hd : (∃ k, dk = .int k) ∨ dk = .string ∨ dk = .bool) (em : Bool) (v : Value) (w : World) : (Instr.checkKey em 10000 kt v).run P w = .ok () w := by
  show (Instr.checkKey em (9999 + 1) kt v).run P w = .ok () w
  unfold Instr.checkKey
  simp only [Sem.run_bind, run_under hu, Result.andThen_ok]
  rcases hd with ⟨k, rfl⟩ | rfl | rfl <;> simp

theorem zeroOf_run (hT : TypesOk P T) {t : Nat} {z : AV} (e : zeroOf T t = some z) : ∃ zv, (∀ w, (zeroValue t).run P w = .ok zv w) ∧ ∀ μ, VR μ z zv := by
  unfold zeroOf at e
  split at e
  · rename_i ti ht
    have k := hT _ _ ht
    obtain ⟨i, i1, i2, i3, zv, i4, i5⟩ := k.info
    have hz : ∀ w, (zeroValue t).run P w = .ok zv w := fun w => by simp [zeroValue, run_info i1, i4]
    obtain ⟨f1, f2⟩ := k.zform i zv i1 i4
    refine ⟨zv, hz, fun μ => ?_⟩
    split at e
    · rename_i ha
      simp only [Option.some.injEq] at e; subst e
      obtain ⟨cs, rfl⟩ := f1 ha
      simp only [VR]
      exact ⟨cs, VRs.ofLeafs (by simpa [Value.cells] using i5), rfl⟩
    · rename_i ha
      have f2 := f2 (by simpa using ha)
      split at e
      · rename_i v hv
        simp only [Option.some.injEq] at e; subst e
        have hc : zv.cells = #[zv] := by
          cases zv <;> first | rfl | exact absurd rfl (f2 _)
        rw [hc, hv] at i5
        simp only [ofLeafs] at i5
        split at i5
        · rename_i a m h1 h2
          simp only [Option.some.injEq, List.cons.injEq] at i5
          obtain ⟨rfl, _⟩ := i5
          exact VR.ofLeaf h1
        · simp at i5
      · simp at e
  · simp at e

theorem entries_run (S : Sim w0 μ h w) {x : AV} {vx : Value} {es : List (AV × AV × Nat)} (hx : VR μ x vx) (e : entriesA x h = some es) :
    ∃ es' : Array MapEntry, EsR μ es es'.toList ∧ (vx = .map none ∧ es' = #[] ∨ ∃ r ck, vx = .map (some r) ∧ w.heap[r]? = some (.map es' ck)) := by
  unfold entriesA at e
  split at e
  · simp only [Option.some.injEq] at e; subst e
    simp only [VR] at hx; subst hx
    exact ⟨#[], by simp [EsR], .inl ⟨rfl, rfl⟩⟩
  · rename_i r
    simp only [VR] at hx; obtain ⟨L, hL, rfl⟩ := hx
    split at e
    · rename_i es0 ck hg
      simp only [Option.some.injEq] at e; subst e
      obtain ⟨_, es', q1, q2⟩ := map_at S hg hL
      exact ⟨es', q2, .inr ⟨_, _, rfl, q1⟩⟩
    · simp at e
  · simp at e

theorem run_getMap {w : World} {r : Nat} {es : Array MapEntry} {ck : Nat} (hb : w.heap[r]? = some (.map es ck)) : (getObj r).run P w = .ok (.map es ck) w := by simp [getObj, Sem.run, hb]
theorem run_setMap {w : World} {r : Nat} {es : Array MapEntry} {ck : Nat} (o : Obj) (hb : w.heap[r]? = some (.map es ck)) : (setObj r o).run P w = .ok () { w with heap := w.heap.setIfInBounds r o } := by simp [setObj, Sem.run, hb]

theorem lookup_run (hT : TypesOk P T) (S : Sim w0 μ h w) {t : Nat} {x k a : AV} {vx vk : Value} {ok : Bool} (hx : VR μ x vx) (hk : VR μ k vk) (e : lookupA T t x k ok h = some a) : ∃ v, (Instr.lookup t vx vk ok).run P w = .ok v w ∧ VR μ a v := by
  unfold lookupA at e
  split at e
  · rename_i ki et es hm he
    obtain ⟨kt, dk, hu, huk, rfl, hd⟩ := mapTypes_ok hT hm
    obtain ⟨es', r1, r2⟩ := entries_run S hx he
    have hck := fun em => checkKey_run (P := P) huk hd em vk w
    split at e
    · rename_i j v b hf
      simp only [Option.some.injEq] at e
      obtain ⟨m, q1, _, _, q4, _⟩ := (findA_run hk r1 hf).2 j v b rfl
      refine ⟨if ok then .tuple #[m.val, .bool true] else m.val, ?_, ?_⟩
      · rcases r2 with ⟨rfl, rfl⟩ | ⟨r, ck, rfl, hb⟩
        · cases ok <;> simp [Instr.lookup, run_under hu, hck, Instr.findKey, run_under huk, q1]
        · cases ok <;> simp [Instr.lookup, run_under hu, run_getMap (P := P) hb, hck, Instr.findKey, run_under huk, q1]
      · subst e
        cases ok
        · exact q4
        · simp only [if_true, VR, VRs]; exact ⟨_, ⟨_, _, q4, ⟨_, _, rfl, rfl, rfl⟩, rfl⟩, rfl⟩
    · rename_i hf
      split at e
      · rename_i z hz
        simp only [Option.some.injEq] at e
        obtain ⟨zv, z1, z2⟩ := zeroOf_run (P := P) hT hz
        have q1 := (findA_run hk r1 hf).1 rfl
        refine ⟨if ok then .tuple #[zv, .bool false] else zv, ?_, ?_⟩
        · rcases r2 with ⟨rfl, rfl⟩ | ⟨r, ck, rfl, hb⟩
          · cases ok <;> simp [Instr.lookup, run_under hu, hck, Instr.findKey, run_under huk, q1, z1]
          · cases ok <;> simp [Instr.lookup, run_under hu, run_getMap (P := P) hb, hck, Instr.findKey, run_under huk, q1, z1]
        · subst e
          cases ok
          · exact z2 μ
          · simp only [if_true, VR, VRs]; exact ⟨_, ⟨_, _, z2 μ, ⟨_, _, rfl, rfl, rfl⟩, rfl⟩, rfl⟩
      · simp at e
    · simp at e
  · simp at e

theorem mapUpdate_run (hT : TypesOk P T) (S : Sim w0 μ h w) {t : Nat} {m k x : AV} {vm vk vx : Value} (hm : VR μ m vm) (hk : VR μ k vk) (hx : VR μ x vx) (e : mapUpdateA T t m k x h = some h') : ∃ w', (Instr.mapUpdate t vm vk vx).run P w = .ok () w' ∧ Sim w0 μ h' w' := by
  unfold mapUpdateA at e
  split at e
  · rename_i ki et r hmt
    obtain ⟨kt, dk, hu, huk, rfl, hd⟩ := mapTypes_ok hT hmt
    simp only [VR] at hm; obtain ⟨L, hL, rfl⟩ := hm
    split at e
    · rename_i es clock hg
      obtain ⟨q0, es', q1, q2⟩ := map_at S hg hL
      have hck := fun em => checkKey_run (P := P) huk hd em vk w
      have hlt := (Array.getElem?_eq_some_iff.1 q1).1
      have turn : ∀ (y : List (AV × AV × Nat)) (y' : Array MapEntry) (c : Nat), EsR μ y y'.toList → Sim w0 μ (h.put r (.map y c)) { w with heap := w.heap.setIfInBounds L.blk (.map y' c) } := by
        intro y y' c hy
        refine S.turn (.map y c) hg hL rfl (by simp) (fun k hk => ?_) ?_ ⟨rfl, rfl, rfl⟩
        · show (w.heap.setIfInBounds L.blk _)[k]? = _
          rw [Array.getElem?_setIfInBounds, if_neg (fun e => hk e.symm)]
        · obtain ⟨g1, g2⟩ := hy.get
          refine ⟨q0, y', ?_, by simpa using g1, fun i k v b hi => ?_⟩
          · show (w.heap.setIfInBounds L.blk _)[L.blk]? = _
            rw [Array.getElem?_setIfInBounds, if_pos rfl, if_pos hlt]
          · obtain ⟨e, e1, e2⟩ := g2 i k v b hi
            exact ⟨e, by simpa using e1, e2⟩
      split at e
      · rename_i i v b hf
        simp only [Option.some.injEq] at e; subst e
        obtain ⟨me, p1, _, p3, _, p5, p6, p7⟩ := (findA_run hk q2 hf).2 i v b rfl
        have p3' : es'[i]? = some me := by simpa using p3
        refine ⟨_, ?_, turn _ (es'.modify i fun e => { e with key := vk, val := vx }) clock ?_⟩
        · unfold Instr.mapUpdate
          simp only [Sem.run_bind, run_under hu, Result.andThen_ok, run_getMap (P := P) q1, hck, Instr.findKey, run_under huk, p1, Sem.run_pure, p3', Option.map_some, Option.getD_some]
          unfold Instr.keyThatStays
          rw [p6] at p7
          rw [← p6] at p7 ⊢
          simp only [p7, if_true, Sem.run_pure, Result.andThen_ok]
          exact run_setMap _ q1
        · have hs : (es'.modify i fun e => { e with key := vk, val := vx }).toList = es'.toList.set i { me with key := vk, val := vx } := by
            refine List.ext_getElem? fun j => ?_
            rw [Array.getElem?_toList, Array.getElem?_modify, List.getElem?_set]
            by_cases hij : i = j
            · subst hij
              have hl := (Array.getElem?_eq_some_iff.1 p3').1
              rw [if_pos rfl, if_pos rfl, if_pos (by simpa using hl), p3']; rfl
            · rw [if_neg hij, if_neg hij, Array.getElem?_toList]
          rw [hs]
          exact q2.set i hk hx p5
      · rename_i hf
        simp only [Option.some.injEq] at e; subst e
        have p1 := (findA_run hk q2 hf).1 rfl
        refine ⟨_, ?_, turn _ (es'.push { key := vk, val := vx, born := clock }) (clock + 1) ?_⟩
        · unfold Instr.mapUpdate
          simp only [Sem.run_bind, run_under hu, Result.andThen_ok, run_getMap (P := P) q1, hck, Instr.findKey, run_under huk, p1, Sem.run_pure]
          exact run_setMap _ q1
        · rw [Array.toList_push]
          exact q2.push hk hx rfl
      · simp at e
    · simp at e
  · simp at e

theorem makeMap_run (S : Sim w0 μ h w) {t : Nat} {r : Option Value} (hr : ∀ v, r = some v → (∃ k n, v = .int k n) ∧ ∃ kt et, P.underlying t = some (.map kt et)) : OpTo P w0 μ w (Instr.makeMap t r) (.map (some h.nxt)) (h.add (.map [] 0)) := by
  obtain ⟨m1, m2⟩ := S.add (.map [] 0) (.map #[] 0) 0 (fun ν w' hν hw => ⟨S.fresh, #[], hw, rfl, by simp⟩)
  refine ⟨_, _, _, ?_, m1, m2, by simp only [VR]; exact ⟨_, Mu.upd_same _ _ _, rfl⟩⟩
  cases r with
  | none => simp [Instr.makeMap]
  | some v =>
    obtain ⟨⟨k, n, rfl⟩, kt, et, hu⟩ := hr v rfl
    simp [Instr.makeMap, run_under hu, asInt, asIntOf]

theorem cap_run (hT : TypesOk P T) {t : Nat} {ty : TypeId} {rest : List TypeId} {ti : TI} {el : Nat} {a : Option (Nat × Nat)} {n c sz : Nat} {vx : Value} (hx : VR μ (.slc a n (some c) sz) vx) (ht : T t = some ti) (hk : ti.kind = .slc el) :
    (Builtin.cap_ (t :: rest).toArray ty #[vx]).run P w = .ok (.int .i64 c) w := by
  obtain ⟨d, hu, hk2⟩ := (hT _ _ ht).under
  rw [hk] at hk2; have hd := TK.of_slc hk2.symm; subst hd
  obtain ⟨A, c0, rfl, hcap⟩ := hx.slc_len
  have := hcap c rfl
  subst this
  simp [Builtin.cap_, run_under hu, goInt]

theorem appendZ_run (hT : TypesOk P T) {t u : Nat} {ty : TypeId} {s x a : AV} {vs vx : Value} {k0 : IntKind} (S : Sim w0 μ h w) (hs : VR μ s vs) (hx : VR μ x vx) (huu : P.underlying u = some (.int k0))
    (e : appendZ T t s x h = some (a, h')) : OpTo P w0 μ w (Builtin.append_ #[t, u] ty #[vs, vx]) a h' := by
  unfold appendZ at e
  split at e
  · rename_i ti base sz kx m ht
    obtain ⟨d, hu, hk⟩ := (hT _ _ ht).under
    simp only [VR] at hx; subst hx
    split at e
    · rename_i el hk'
      rw [hk'] at hk; have hd := TK.of_slc hk.symm; subst hd
      split at e
      · simp at e
      · rename_i te hte
        have ke := hT _ _ hte
        obtain ⟨inf, i1, i2, i3, _⟩ := ke.info
        obtain ⟨A, c0, rfl, hcap⟩ := hs.slc_len
        have hc0 := hcap 0 rfl
        subst hc0
        split at e
        · simp at e
        · split at e
          · rename_i hm0
            subst hm0
            simp only [Option.some.injEq, Prod.mk.injEq] at e; obtain ⟨rfl, rfl⟩ := e
            refine OpTo.plain S ?_ hs
            have hw0 : IntKind.i64.wrap 0 = 0 := by decide
            cases A with
            | none => simp [Builtin.append_, run_under hu, run_under huu, ke.size, asInt, asIntOf, hw0, run_info i1]
            | some b => simp [Builtin.append_, run_under hu, run_under huu, ke.size, asInt, asIntOf, hw0, run_info i1, Go.storeCells]
          · split at e
            · rename_i hb
              obtain ⟨b1, b2, b3, b4, b5⟩ := hb
              simp only [Option.some.injEq, Prod.mk.injEq] at e; obtain ⟨rfl, rfl⟩ := e
              obtain ⟨z0, hz0, hz02⟩ := ke.zero'
              have hzr : VRs μ (zeroRow te.zero (m.toNat * te.size)) ((Array.range (m.toNat * te.size)).map (z0.cells[· % z0.cells.size]!)).toList := zeroRow_rel (VRs.ofLeafs hz02) _ (.inr (by have := ke.zlen; omega))
              have hq := cut_ge (m.toNat) 0 el (w.tape w.drawn (.appendCap m.toNat 0 el))
              have hgr := grow_run (P := P) ke S (need := m.toNat) (zeroRow te.zero (m.toNat * te.size)) _ hzr (by simp [zeroRow]) _ hq
              obtain ⟨z, hz, hgr⟩ := hgr
              have hzz : z = z0 := by
                have h1 := hz w
                rw [hz0 w] at h1
                simp only [Result.ok.injEq] at h1
                exact h1.1.symm
              subst hzz
              obtain ⟨g1, g2, g3, g4⟩ := hgr (w.drawn + 1)
              refine ⟨_, _, _, ?_, g2, g3, g4⟩
              have hw : IntKind.i64.wrap m = m := by
                have h3 : m % (2 ^ 64 : Int) = m := Int.emod_eq_of_lt (by omega) (by omega)
                simp only [IntKind.wrap, IntKind.bits, IntKind.signed, h3]
                simp; omega
              have hzl : z.cells.size = te.size := by
                have := (VRs.ofLeafs (μ := μ) hz02).len
                have h2 := ke.zlen
                simp at this; omega
              have hmul : m.toNat * te.bytes ≤ 16777216 * 1048576 := Nat.mul_le_mul (by omega) b4
              have hmI : ¬ (m * (inf.bytes : Int) > 2 ^ 48) := by
                rw [i3]
                have : m * (te.bytes : Int) = ((m.toNat * te.bytes : Nat) : Int) := by
                  rw [Int.natCast_mul, Int.toNat_of_nonneg (by omega)]
                have h48 : (2 : Int) ^ 48 = 281474976710656 := by decide
                omega
              have hnb : ¬ (Builtin.nextslicecap m.toNat 0 * inf.bytes > 2 ^ 48) := by
                have h1 := nextcap_le (need := m.toNat) (old := 0) (by omega)
                rw [i3]
                have h2 : Builtin.nextslicecap m.toNat 0 * te.bytes ≤ (2 * m.toNat + 192) * te.bytes := Nat.mul_le_mul_right _ h1
                have h3 : (2 * m.toNat + 192) * te.bytes = 2 * (m.toNat * te.bytes) + 192 * te.bytes := by rw [Nat.add_mul, Nat.mul_assoc]
                omega
              have hfo : (Question.appendCap m.toNat 0 el).forced = false := rfl
              have hbytes : ¬ inf.bytes = 0 := by rw [i3]; exact b3
              have hns : ¬ (m.toNat * te.size = 0) := by
                have := Nat.mul_pos (show 0 < m.toNat by omega) b5
                omega
              have hneg : ¬ (m < 0) := by omega
              have hmx : ¬ ((m.toNat : Int) > IntKind.i64.max) := by
                have : IntKind.i64.max = 9223372036854775807 := by decide
                omega
              have hmn : m.toNat ≠ 0 := by omega
              have hold : ∀ d, (Builtin.firstCells te.size 0 (.slice A 0 0)).run P { w with drawn := d } = .ok #[] { w with drawn := d } := fun d => by
                cases A with
                | none => simp [Builtin.firstCells]
                | some b => simp [Builtin.firstCells, Go.loadCells, loadCellsFrom]
              have hzc : Builtin.zeroCells z.cells m.toNat = (Array.range (m.toNat * te.size)).map (z.cells[· % z.cells.size]!) := by
                simp [Builtin.zeroCells, hzl]
              have hnd := hold (w.drawn + 1)
              have hmI' : ¬ (281474976710656 < m * (inf.bytes : Int)) := by
                have h48 : (2 : Int) ^ 48 = 281474976710656 := by decide
                omega
              have hm1 : ¬ (m ≤ 0) := by omega
              have hmx2 : ¬ (9223372036854775807 < max m 0) := by omega
              have hnb2 : ¬ (281474976710656 < Builtin.nextslicecap m.toNat 0 * inf.bytes) := by
                have h48 : (2 : Nat) ^ 48 = 281474976710656 := by decide
                omega
              rw [← hzc] at g1
              simp [Builtin.append_, run_under hu, run_under huu, ke.size, asInt, asIntOf, hw, hneg, run_info i1, hmI', hm1, hmx2, hnb2, hmn, hns, hfo, hbytes, hz, show ¬ te.size = 0 by omega]
              rw [show w.drew = ({ w with drawn := w.drawn + 1 } : World) from rfl, hnd]
              simp only [Result.andThen_ok]
              have g2' := g1
              simp only [Array.toArray_toList] at g2'
              rw [Array.empty_append]
              erw [g2']
              have harr : (List.map (fun x => z.cells[x % z.cells.size]!) (List.range (m.toNat * te.size))).toArray = Array.map (fun x => z.cells[x % z.cells.size]!) (Array.range (m.toNat * te.size)) := by
                apply Array.ext'
                simp
              simp [hzc, harr]
            · simp at e
    · simp at e
  · simp at e

end Go.Am
