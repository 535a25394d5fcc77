/-
  The abstract machine: memory. What loads and stores come to in the model.
-/
import Derived.Test.YtenpjkinpecnfaaAmB
import Derived.Laws.Cells
import Derived.Laws.Entries
namespace Go.Am
variable {P : Program} {T : TT} {w0 : Frz} {w : World} {μ : Mu} {h : Heap}

theorem add_flat (b o n : Nat) : (⟨b, o, none⟩ : Addr).add n = ⟨b, o + n, none⟩ := by
  unfold Addr.add; split
  · rename_i e; subst e; rfl
  · rfl

theorem run_under {t : Nat} {d : TypeDesc} (e : P.underlying t = some d) (w : World) : (underlying t).run P w = .ok d w := by
  simp [underlying, e]

theorem run_info {t : Nat} {i : TypeInfo} (e : P.info? t = some i) (w : World) : (typeInfo t).run P w = .ok i w := by
  simp [typeInfo, e]

theorem TypeOk.size {t : Nat} {ti : TI} (k : TypeOk P t ti) (w : World) : (sizeOf t).run P w = .ok ti.size w := by
  obtain ⟨i, e1, e2, e3, e4⟩ := k.info
  simp [sizeOf, run_info e1, e2]

theorem TypeOk.zero' {t : Nat} {ti : TI} (k : TypeOk P t ti) : ∃ z, (∀ w, (zeroValue t).run P w = .ok z w) ∧ ofLeafs z.cells.toList = some ti.zero := by
  obtain ⟨i, e1, e2, e3, z, e4, e5⟩ := k.info
  refine ⟨z, fun w => ?_, e5⟩
  simp [zeroValue, run_info e1, e4]

theorem TypeOk.isAgg' {t : Nat} {ti : TI} (k : TypeOk P t ti) (w : World) : (isAgg t).run P w = .ok ti.kind.isAgg w := by
  obtain ⟨d, e1, e2⟩ := k.under
  simp only [isAgg, Sem.run_bind, run_under e1, Result.andThen_ok, e2]
  cases d <;> rfl

theorem Sim.cells {b : Nat} {cs : List AV} {wr : Bool} {L : Loc} (S : Sim w0 μ h w) (hb : h.get b = some (.cells cs wr)) (hL : μ b = some L) :
    ∃ arr t fz, w.heap[L.blk]? = some (.cells arr t fz) ∧ arr.size = L.room ∧ L.base + cs.length ≤ L.room ∧
      (∀ i a, cs[i]? = some a → ∃ v, arr[L.base + i]? = some v ∧ VR μ a v) ∧ (wr = true → w0.old L.blk = none ∧ ∀ i, i < L.room → ¬ (fz.1 ≤ i ∧ i < fz.2)) := by
  obtain ⟨L', e1, e2⟩ := S.at_ b _ hb
  rw [hL] at e1; simp at e1; subst e1; exact e2

theorem cell_of_heap {b o : Nat} {arr : Array Value} {t : TypeId} {fz : Nat × Nat} (e : w.heap[b]? = some (.cells arr t fz)) : w.cell? ⟨b, o, none⟩ = arr[o]? := by
  simp [World.cell?, e]

/-- Cells that are loaded. -/
theorem run_cells {b o n : Nat} {l : List AV} {L : Loc} (S : Sim w0 μ h w) (hL : μ b = some L) (hl : loadCells h b o n = some l) :
    ∃ vs : List Value, (∀ w1 : World, w1.heap = w.heap → (Go.loadCells ⟨L.blk, L.base + o, none⟩ n).run P w1 = .ok vs.toArray w1) ∧ VRs μ l vs := by
  unfold Am.loadCells at hl
  split at hl
  · rename_i cs wr hb
    split at hl
    · rename_i hn
      simp at hl; subst hl
      obtain ⟨arr, t, fz, h1, h2, h3, h4, h5⟩ := S.cells hb hL
      have hex : ∀ j, j < n → ∃ v, arr[L.base + o + j]? = some v ∧ VR μ (cs.getD (o + j) undefA) v := fun j hj => by
        obtain ⟨v, e1, e2⟩ := h4 (o + j) cs[o + j] (List.getElem?_eq_getElem (by omega))
        refine ⟨v, by rw [← e1]; congr 1; omega, ?_⟩
        rwa [List.getD_eq_getElem?_getD, List.getElem?_eq_getElem (by omega : o + j < cs.length)]
      let vs : List Value := (List.range n).map fun j => (arr[L.base + o + j]?).getD undef
      refine ⟨vs, ?_, ?_⟩
      · intro w1 hw1
        have := run_loadCells_list (P := P) w1 ⟨L.blk, L.base + o, none⟩ vs (fun j v e => by
          simp only [vs, List.getElem?_map] at e
          have hj : j < n := by
            rcases Nat.lt_or_ge j n with k | k
            · exact k
            · simp [List.getElem?_eq_none (by simpa using k : (List.range n).length ≤ j)] at e
          obtain ⟨u, e1, _⟩ := hex j hj
          simp [hj, e1] at e; subst e
          rw [add_flat, cell_of_heap (hw1 ▸ h1)]; exact e1)
        simpa [vs] using this
      · refine VRs.of_get (by simp [vs]; omega) fun i a e => ?_
        rw [List.getElem?_take] at e
        split at e
        · rename_i hi
          rw [List.getElem?_drop] at e
          obtain ⟨u, e1, e2⟩ := hex i hi
          refine ⟨u, by simp [vs, hi, e1], ?_⟩
          rwa [List.getD_eq_getElem?_getD, e] at e2
        · simp at e
    · simp at hl
  · simp at hl

theorem run_cell {b o : Nat} {cs : List AV} {wr : Bool} {a : AV} {L : Loc} (S : Sim w0 μ h w) (hL : μ b = some L) (hb : h.get b = some (.cells cs wr)) (ha : cs[o]? = some a) :
    ∃ v, (Go.load ⟨L.blk, L.base + o, none⟩).run P w = .ok v w ∧ VR μ a v := by
  obtain ⟨arr, t, fz, h1, h2, h3, h4, h5⟩ := S.cells hb hL
  obtain ⟨v, e1, e2⟩ := h4 o a ha
  exact ⟨v, by rw [run_load, cell_of_heap h1, e1], e2⟩

theorem run_loadVar (hT : TypesOk P T) {t b o : Nat} {a : AV} {L : Loc} (S : Sim w0 μ h w) (hL : μ b = some L) (ha : loadVar T h t b o = some a) :
    ∃ v, (Go.loadVar t ⟨L.blk, L.base + o, none⟩).run P w = .ok v w ∧ VR μ a v := by
  unfold Am.loadVar at ha
  split at ha
  · rename_i ti ht
    have k := hT _ _ ht
    split at ha
    · rename_i hg
      split at ha
      · rename_i l hl
        simp at ha; subst ha
        obtain ⟨vs, e1, e2⟩ := run_cells (P := P) S hL hl
        refine ⟨.agg vs.toArray, ?_, by simp only [VR]; exact ⟨_, by simpa using e2, rfl⟩⟩
        simp [Go.loadVar, k.isAgg', hg, k.size, e1 w rfl]
      · simp at ha
    · rename_i hg
      split at ha
      · rename_i cs wr hb
        obtain ⟨v, e1, e2⟩ := run_cell (P := P) S hL hb ha
        have hg' : ti.kind.isAgg = false := by simpa using hg
        refine ⟨v, ?_, e2⟩
        simp only [Go.loadVar, Sem.run_bind, k.isAgg', hg', Result.andThen_ok, Bool.false_eq_true, if_false]
        exact e1
      · simp at ha
  · simp at ha

/-- One cell is stored. -/
theorem run_store1 {b o : Nat} {cs : List AV} {a : AV} {v : Value} {L : Loc} (S : Sim w0 μ h w) (hL : μ b = some L) (hb : h.get b = some (.cells cs true)) (ho : o < cs.length) (hv : VR μ a v) (hl : a.leaf = true) :
    ∃ w', (Go.store ⟨L.blk, L.base + o, none⟩ v).run P w = .ok () w' ∧ Sim w0 μ (h.put b (.cells (cs.set o a) true)) w' := by
  obtain ⟨arr, t, fz, h1, h2, h3, h4, h5⟩ := S.cells hb hL
  have hcell : ∃ u, w.cell? ⟨L.blk, L.base + o, none⟩ = some u := by
    obtain ⟨u, e1, _⟩ := h4 o cs[o] (List.getElem?_eq_getElem ho)
    exact ⟨u, by rw [cell_of_heap h1]; exact e1⟩
  obtain ⟨u, hu⟩ := hcell
  have hfz : w.frozen? ⟨L.blk, L.base + o, none⟩ = false := by
    have := (h5 rfl).2 (L.base + o) (by omega)
    simp only [World.frozen?, h1]
    simpa using this
  have hone : v.oneCell' = true := by
    obtain ⟨k1, k2⟩ := hv.leaf hl
    cases v with
    | agg x => exact absurd rfl (k1 x)
    | tuple x => exact absurd rfl (k2 x)
    | _ => rfl
  refine ⟨w.setCell ⟨L.blk, L.base + o, none⟩ v, by rw [run_store P w _ v _ hone, hu]; simp [hfz], ?_⟩
  have hlt : L.blk < w.heap.size := (Array.getElem?_eq_some_iff.1 h1).1
  have hnew : (w.setCell ⟨L.blk, L.base + o, none⟩ v).heap[L.blk]? = some (.cells (arr.setIfInBounds (L.base + o) v) t fz) := by
    simp only [World.setCell, Array.getElem?_modify, if_true, h1, Option.map_some]
    simp
  refine S.turn (.cells (cs.set o a) true) hb hL rfl (by simp [World.setCell]) (fun k hk => ?_) ?_ ⟨rfl, rfl, rfl⟩
  · simp only [World.setCell, Array.getElem?_modify]
    rw [if_neg (fun e => hk e.symm)]
  · refine ⟨_, t, fz, hnew, by simpa using h2, by simpa using h3, fun i x e => ?_, h5⟩
    rw [List.getElem?_set] at e
    split at e
    · rename_i hi; subst hi
      simp at e; subst e
      exact ⟨v, by rw [Array.getElem?_setIfInBounds]; simp; omega, hv⟩
    · rename_i hi
      obtain ⟨y, e1, e2⟩ := h4 i x e
      exact ⟨y, by rw [Array.getElem?_setIfInBounds, if_neg (by omega)]; exact e1, e2⟩

/-- Heaps that read alike. -/
def Heap.Same (h k : Heap) : Prop := h.nxt = k.nxt ∧ ∀ b, h.get b = k.get b

theorem Sim.same {h k : Heap} (S : Sim w0 μ h w) (e : Heap.Same h k) : Sim w0 μ k w := by
  obtain ⟨e1, e2⟩ := e
  refine ⟨fun b x hb => S.at_ b x (by rw [e2]; exact hb), fun b c x y L M k1 k2 => S.apart b c x y L M (by rw [e2]; exact k1) (by rw [e2]; exact k2), S.old, fun b x L o e => S.hid b x L o (by rw [e2]; exact e), fun b L hb => by rw [← e1]; exact S.dom b L hb, fun b hb => by rw [← e2]; exact S.live b (by rw [e1]; exact hb), fun b hb => by rw [← e1]; exact S.rsv b hb, S.side⟩

theorem setCells_len : ∀ (vs : List AV) (cs : List AV) (o : Nat), (setCells cs o vs).length = cs.length
  | [], cs, o => rfl
  | v :: vs, cs, o => by rw [setCells, setCells_len vs]; simp

theorem Heap.put_get_self {b : Nat} {x : Blk} (e : h.get b = some x) : Heap.Same h (h.put b x) := by
  refine ⟨rfl, fun c => ?_⟩
  rw [Heap.get_put]; split
  · rename_i k; subst k; exact e
  · rfl

theorem Heap.put_put (h : Heap) (b : Nat) (x y : Blk) : Heap.Same ((h.put b x).put b y) (h.put b y) := by
  refine ⟨rfl, fun c => ?_⟩
  simp only [Heap.get_put]; split <;> rfl

theorem run_stores {b : Nat} {L : Loc} (hL : μ b = some L) : ∀ (as : List AV) (vs : List Value) (o i : Nat) (cs : List AV) (h : Heap) (w : World), Sim w0 μ h w → h.get b = some (.cells cs true) → o + i + as.length ≤ cs.length →
    VRs μ as vs → (∀ a ∈ as, a.leaf = true) → ∃ w', (Go.storeCells ⟨L.blk, L.base + o, none⟩ vs i).run P w = .ok () w' ∧ Sim w0 μ (h.put b (.cells (setCells cs (o + i) as) true)) w'
  | [], vs, o, i, cs, h, w, S, hb, hlen, hv, hl => by
    simp only [VRs] at hv; subst hv
    exact ⟨w, by simp [Go.storeCells], by simpa [setCells] using S.same (Heap.put_get_self hb)⟩
  | a :: as, vs, o, i, cs, h, w, S, hb, hlen, hv, hl => by
    simp only [VRs] at hv
    obtain ⟨v, vs', hv1, hv2, rfl⟩ := hv
    obtain ⟨w1, e1, S1⟩ := run_store1 (P := P) S hL hb (o := o + i) (by simp at hlen; omega) hv1 (hl a (by simp))
    obtain ⟨w2, e2, S2⟩ := run_stores hL as vs' o (i + 1) _ _ w1 S1 (by rw [Heap.get_put, if_pos rfl]) (by simp at hlen ⊢; omega) hv2 (fun x hx => hl x (by simp [hx]))
    refine ⟨w2, ?_, ?_⟩
    · simp only [Go.storeCells, Sem.run_bind, add_flat]
      rw [show L.base + o + i = L.base + (o + i) by omega, e1]
      exact e2
    · rw [setCells]
      rw [show o + (i + 1) = o + i + 1 by omega] at S2
      exact S2.same (Heap.put_put _ _ _ _)

theorem run_storeCells {b o : Nat} {as : List AV} {vs : List Value} {h' : Heap} {L : Loc} (S : Sim w0 μ h w) (hL : μ b = some L) (hv : VRs μ as vs) (hs : storeCells h b o as = some h') :
    ∃ w', (Go.storeCells ⟨L.blk, L.base + o, none⟩ vs).run P w = .ok () w' ∧ Sim w0 μ h' w' := by
  unfold Am.storeCells at hs
  split at hs
  · rename_i cs hb
    split at hs
    · rename_i hc
      simp at hs; subst hs
      obtain ⟨w', e1, e2⟩ := run_stores (P := P) hL as vs o 0 cs h w S hb (by simpa using hc.1) hv (by simpa [List.all_eq_true] using hc.2)
      exact ⟨w', e1, by simpa using e2⟩
    · simp at hs
  · simp at hs

theorem run_storeVar (hT : TypesOk P T) {t b o : Nat} {a : AV} {v : Value} {h' : Heap} {L : Loc} (S : Sim w0 μ h w) (hL : μ b = some L) (hv : VR μ a v) (hs : storeVar T h t b o a = some h') :
    ∃ w', (Go.storeVar t ⟨L.blk, L.base + o, none⟩ v).run P w = .ok () w' ∧ Sim w0 μ h' w' := by
  unfold Am.storeVar at hs
  split at hs
  · rename_i ti ht
    have k := hT _ _ ht
    split at hs
    · rename_i hc
      have hcl := hv.cells
      obtain ⟨w', e1, e2⟩ := run_storeCells (P := P) S hL hcl hs
      refine ⟨w', ?_, e2⟩
      have hsz : v.cells.size = ti.size := by have := hcl.len; simp at this; omega
      simp [Go.storeVar, k.size, hsz, e1]
    · simp at hs
  · simp at hs

/-- A new variable. -/
theorem Sim.addCells (S : Sim w0 μ h w) (cs : List AV) (arr : Array Value) (t : TypeId) (hl : cs.length ≤ arr.size) (hv : ∀ (i : Nat) (a : AV), cs[i]? = some a → ∃ v, arr[i]? = some v ∧ VR μ a v) :
    μ.le (μ.upd h.nxt ⟨w.heap.size, 0, arr.size⟩) ∧ Sim w0 (μ.upd h.nxt ⟨w.heap.size, 0, arr.size⟩) (h.add (.cells cs true)) { w with heap := w.heap.push (.cells arr t) } :=
  S.add (.cells cs true) (.cells arr t) arr.size fun ν w' hν hw => ⟨arr, t, (0, 0), hw, rfl, by simpa using hl,
    fun i a e => let ⟨v, e1, e2⟩ := hv i a e; ⟨v, by simpa using e1, VR.mono hν _ _ e2⟩, fun _ => ⟨S.fresh, fun i _ => by simp⟩⟩

theorem VRs.arr {as : List AV} {arr : Array Value} (k : VRs μ as arr.toList) : ∀ (i : Nat) (a : AV), as[i]? = some a → ∃ v, arr[i]? = some v ∧ VR μ a v := fun i a e => by
  obtain ⟨v, e1, e2⟩ := k.get e
  exact ⟨v, by simpa using e1, e2⟩

theorem run_part (hT : TypesOk P T) {t off : Nat} {cs : List AV} {ds : Array Value} {a : AV} (hv : VRs μ cs ds.toList) (ha : part T t cs off = some a) :
    ∃ v, (∀ w, (Go.part t ds off).run P w = .ok v w) ∧ VR μ a v := by
  unfold Am.part at ha
  split at ha
  · rename_i ti ht
    have k := hT _ _ ht
    split at ha
    · rename_i hg
      split at ha
      · rename_i hn
        simp at ha; subst ha
        refine ⟨.agg (ds.extract off (off + ti.size)), fun w => by simp [Go.part, k.isAgg', hg, k.size], ?_⟩
        simp only [VR]
        refine ⟨_, ?_, rfl⟩
        have := (hv.drop off).take ti.size
        simpa [Array.toList_extract, List.extract] using this
      · simp at ha
    · rename_i hg
      obtain ⟨v, e1, e2⟩ := hv.get ha
      have hg' : ti.kind.isAgg = false := by simpa using hg
      have e1' : ds[off]? = some v := by simpa using e1
      exact ⟨v, fun w => by simp [Go.part, k.isAgg', hg', e1'], e2⟩
  · simp at ha

end Go.Am
