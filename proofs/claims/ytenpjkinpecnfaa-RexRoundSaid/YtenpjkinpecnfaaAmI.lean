/-
  The abstract machine: what is appended, copied, converted: what these come to in the model.
-/
import Derived.Test.YtenpjkinpecnfaaAmH
namespace Go.Am
variable {P : Program} {T : TT} {w0 : Frz} {w : World} {μ : Mu} {h h' : Heap}

theorem loadCells_len {b o n : Nat} {l : List AV} (e : loadCells h b o n = some l) : l.length = n := by
  unfold Am.loadCells at e
  split at e
  · split at e
    · simp at e; subst e; simp; omega
    · simp at e
  · simp at e

theorem comes_run {size k : Nat} {x : AV} {vx : Value} {new : List AV} (S : Sim w0 μ h w) (hx : VR μ x vx) (e : comes size x h = some (k, new)) :
    (Builtin.lenOf vx).run P w = .ok k w ∧ (∃ vs : List Value, (∀ w1 : World, w1.heap = w.heap → (Builtin.firstCells size k vx).run P w1 = .ok vs.toArray w1) ∧ VRs μ new vs) ∧ (∀ a ∈ new, a.leaf = true) ∧ new.length = k * size := by
  unfold comes at e
  split at e
  · rename_i b o n cap sz
    split at e
    · simp at e
    · rename_i hsz
      have hsz : sz = size := by simpa using hsz
      subst hsz
      have hx0 := hx
      simp only [VR] at hx
      obtain ⟨L, off, c, hL, rfl, hn, hroom, hbase, hcap, hoff⟩ := hx
      split at e
      · rename_i hn0
        simp at e; obtain ⟨rfl, rfl⟩ := e
        subst hn0
        exact ⟨by simp [Builtin.lenOf], ⟨[], fun w1 _ => by simp [Builtin.firstCells, Go.loadCells, loadCellsFrom], by simp [VRs]⟩, by simp, by simp⟩
      · rename_i hn0
        split at e
        · rename_i l hl
          split at e
          · rename_i hleaf
            simp at e; obtain ⟨rfl, rfl⟩ := e
            have : off = L.base + o := by
              rcases hoff with ⟨h0, _⟩ | h1
              · exact absurd h0 hn0
              · exact h1
            subst this
            obtain ⟨vs, r1, r2⟩ := run_cells (P := P) S hL hl
            exact ⟨by simp [Builtin.lenOf], ⟨vs, fun w1 hw1 => by simp [Builtin.firstCells, r1 w1 hw1], r2⟩, by simpa [List.all_eq_true] using hleaf, loadCells_len hl⟩
          · simp at e
        · simp at e
  · rename_i n cap sz
    simp only [VR] at hx
    obtain ⟨c, rfl, hn, rfl⟩ := hx
    split at e
    · rename_i hn0
      simp at e; obtain ⟨rfl, rfl⟩ := e
      subst hn0
      exact ⟨by simp [Builtin.lenOf], ⟨[], fun w1 _ => by simp [Builtin.firstCells], by simp [VRs]⟩, by simp, by simp⟩
    · simp at e
  · rename_i s
    simp only [VR] at hx; subst hx
    split at e
    case isFalse => simp at e
    rename_i hs1; subst hs1
    simp at e; obtain ⟨rfl, rfl⟩ := e
    refine ⟨by simp [Builtin.lenOf, size_mk], ⟨s.map fun b => .int .u8 b.toNat, ?_, ?_⟩, by simp [AV.leaf], by simp⟩
    · have : (⟨s.toArray⟩ : ByteArray).extract 0 s.length = ⟨s.toArray⟩ := by
        apply ByteArray.ext
        simp
      intro w1 _; simp [Builtin.firstCells, this]
    · refine VRs.of_get (by simp) fun i a e => ?_
      simp only [List.getElem?_map] at e ⊢
      cases hs : s[i]? with
      | none => rw [hs] at e; simp at e
      | some b => rw [hs] at e; simp at e; subst e; exact ⟨_, rfl, by simp [VR]⟩
  · simp at e

theorem growBy_le (newLen : Nat) : ∀ (r c : Nat), c ≤ 2 * newLen + 192 → Builtin.growBy newLen r c ≤ 2 * newLen + 192
  | 0, c, hc => hc
  | r + 1, c, hc => by
    unfold Builtin.growBy
    split
    · exact hc
    · exact growBy_le newLen r _ (by omega)

theorem nextcap_le {need old : Nat} (h : old < need) : Builtin.nextslicecap need old ≤ 2 * need + 192 := by
  unfold Builtin.nextslicecap
  split
  · omega
  · split
    · omega
    · exact growBy_le _ _ _ (by omega)

/-- A block's row goes on in a new one's name, where it lies. -/
theorem Sim.move {w' : World} (S : Sim w0 μ h w) {b : Nat} {x : Blk} (y : Blk) {L : Loc} (off : Nat) (hb : h.get b = some x) (hL : μ b = some L) (hx : x.mine = true)
    (_hs : w'.heap.size = w.heap.size) (ho : ∀ k, k ≠ L.blk → w'.heap[k]? = w.heap[k]?) (hy : ∀ ν, μ.le ν → BlkAt ν w0.old w' ⟨L.blk, off, L.room⟩ y) (_hym : y.mine = true) (hsd : Side w w') :
    μ.le (μ.upd h.nxt ⟨L.blk, off, L.room⟩) ∧ Sim w0 (μ.upd h.nxt ⟨L.blk, off, L.room⟩) ((h.del b).add y) w' := by
  have hm := Mu.le_upd S.dom (Nat.le_refl _) ⟨L.blk, off, L.room⟩
  have hbl := Heap.lt_of_get S hb
  obtain ⟨L0, l1, l2⟩ := S.at_ b x hb
  rw [hL] at l1; simp at l1; subst l1
  refine ⟨hm, ?_, ?_, ?_, ?_, ?_, ?_, fun b hb => ?_, S.side.trans hsd⟩
  · intro c z e
    rw [Heap.get_add, Heap.del_nxt] at e
    split at e
    · rename_i hc; subst hc; simp at e; subst e; exact ⟨_, Mu.upd_same _ _ _, hy _ hm⟩
    · rename_i hc
      rw [Heap.get_del] at e
      split at e
      · cases e
      · rename_i hcb
        obtain ⟨M, m1, m2⟩ := S.at_ c z e
        exact ⟨M, by rw [Mu.upd_ne _ _ hc]; exact m1, m2.mono hm (ho _ (S.apart b c x z L M hb e hL m1 hx hcb).symm)⟩
  · intro c d z u M N e1 e2 e3 e4 hz hne
    rw [Heap.get_add, Heap.del_nxt, Heap.get_del] at e1 e2
    by_cases hc : h.nxt = c
    · subst hc
      rw [Mu.upd_same] at e3; simp at e3; subst e3
      rw [if_neg hne] at e2
      rw [Mu.upd_ne _ _ hne] at e4
      split at e2
      · cases e2
      · rename_i hbd
        exact S.apart b d x u L N hb e2 hL e4 hx hbd
    · rw [if_neg hc] at e1
      rw [Mu.upd_ne _ _ hc] at e3
      split at e1
      · cases e1
      · rename_i hbc
        by_cases hd : h.nxt = d
        · subst hd
          rw [Mu.upd_same] at e4; simp at e4; subst e4
          exact (S.apart b c x z L M hb e1 hL e3 hx hbc).symm
        · rw [if_neg hd] at e2
          rw [Mu.upd_ne _ _ hd] at e4
          split at e2
          · cases e2
          · exact S.apart c d z u M N e1 e2 e3 e4 hz hne
  · intro k q d hk
    have := l2.ge hx
    rw [ho k (by rintro rfl; rw [this] at hk; cases hk)]; exact S.old k q d hk
  · intro c z M q e1 e2
    rw [Heap.get_add, Heap.del_nxt, Heap.get_del] at e1
    by_cases hc : h.nxt = c
    · subst hc
      rw [Mu.upd_same] at e2; simp at e2; subst e2
      exact S.hid b x L q hb hL
    · rw [if_neg hc] at e1
      rw [Mu.upd_ne _ _ hc] at e2
      split at e1
      · cases e1
      · exact S.hid c z M q e1 e2
  · intro c M e
    by_cases hc : h.nxt = c
    · simp; omega
    · rw [Mu.upd_ne _ _ hc] at e; have := S.dom c M e; simp; omega
  · intro c hc
    simp at hc
    rw [Heap.get_add, Heap.del_nxt, if_neg (by omega), Heap.get_del, if_neg (by omega)]
    exact S.live c (by omega)
  · obtain ⟨r1, r2⟩ := S.rsv b hb
    exact ⟨by rw [Mu.upd_ne _ _ (by omega)]; exact r1, by simp; omega⟩

/-- Cells stored into a block of the world, no abstract block in mind. -/
theorem raw_stores {blk : Nat} {t : TypeId} {fz : Nat × Nat} : ∀ (vs : List Value) (o i : Nat) (arr : Array Value) (w : World), w.heap[blk]? = some (.cells arr t fz) → o + i + vs.length ≤ arr.size → (∀ j, j < arr.size → ¬ (fz.1 ≤ j ∧ j < fz.2)) →
    (∀ v ∈ vs, v.oneCell' = true) → ∃ w', (Go.storeCells ⟨blk, o, none⟩ vs i).run P w = .ok () w' ∧ Side w w' ∧ w'.heap.size = w.heap.size ∧ (∀ k, k ≠ blk → w'.heap[k]? = w.heap[k]?) ∧
      ∃ arr' : Array Value, w'.heap[blk]? = some (.cells arr' t fz) ∧ arr'.size = arr.size ∧ (∀ j, j < o + i → arr'[j]? = arr[j]?) ∧ (∀ (j : Nat) v, vs[j]? = some v → arr'[o + i + j]? = some v)
  | [], o, i, arr, w, hb, hl, hf, h1 => ⟨w, by simp [Go.storeCells], Side.refl _, rfl, fun _ _ => rfl, arr, hb, rfl, fun _ _ => rfl, by simp⟩
  | v :: vs, o, i, arr, w, hb, hl, hf, h1 => by
    simp at hl
    have hc : w.cell? ⟨blk, o + i, none⟩ = some arr[o + i] := by rw [cell_of_heap hb]; simp
    have hfz : w.frozen? ⟨blk, o + i, none⟩ = false := by
      have := hf (o + i) (by omega)
      simp only [World.frozen?, hb]
      simpa using this
    have hst : (Go.store ⟨blk, o + i, none⟩ v).run P w = .ok () (w.setCell ⟨blk, o + i, none⟩ v) := by
      rw [run_store P w _ v _ (h1 v (by simp)), hc]; simp [hfz]
    have hnew : (w.setCell ⟨blk, o + i, none⟩ v).heap[blk]? = some (.cells (arr.setIfInBounds (o + i) v) t fz) := by
      simp only [World.setCell, Array.getElem?_modify, if_true, hb, Option.map_some]
      simp
    obtain ⟨w', r1, r0, r2, r3, arr', a1, a2, a3, a4⟩ := raw_stores vs o (i + 1) (arr.setIfInBounds (o + i) v) (w.setCell ⟨blk, o + i, none⟩ v) hnew (by simp; omega) (by simpa using hf) (fun x hx => h1 x (by simp [hx]))
    refine ⟨w', ?_, Side.trans (b := w.setCell ⟨blk, o + i, none⟩ v) ⟨rfl, rfl, rfl⟩ r0, by rw [r2]; simp [World.setCell], fun k hk => ?_, arr', a1, by simpa using a2, fun j hj => ?_, fun j u hu => ?_⟩
    · simp only [Go.storeCells, Sem.run_bind, add_flat, hst, Result.andThen_ok]; exact r1
    · rw [r3 k hk]
      simp only [World.setCell, Array.getElem?_modify]
      rw [if_neg (fun e => hk e.symm)]
    · rw [a3 j (by omega), Array.getElem?_setIfInBounds, if_neg (by omega)]
    · cases j with
      | zero =>
        simp at hu; subst hu
        rw [a3 (o + i + 0) (by omega), Array.getElem?_setIfInBounds]; simp; omega
      | succ j =>
        simp at hu
        have := a4 j u hu
        rwa [show o + (i + 1) + j = o + i + (j + 1) by omega] at this

theorem leaf_one {as : List AV} {vs : List Value} (k : VRs μ as vs) (hl : ∀ a ∈ as, a.leaf = true) : ∀ v ∈ vs, v.oneCell' = true := by
  intro v hv
  obtain ⟨i, hi, rfl⟩ := List.getElem_of_mem hv
  have hlen := k.len
  obtain ⟨u, e1, e2⟩ := k.get (List.getElem?_eq_getElem (by omega : i < as.length))
  rw [List.getElem?_eq_getElem hi] at e1; simp at e1; subst e1
  obtain ⟨k1, k2⟩ := e2.leaf (hl _ (List.getElem_mem _))
  cases hvv : vs[i] with
  | agg x => exact absurd hvv (k1 x)
  | tuple x => exact absurd hvv (k2 x)
  | _ => rfl

theorem World.pushDrawn (w : World) (n : Nat) (o : Obj) : ({ { w with drawn := n } with heap := ({ w with drawn := n } : World).heap.push o } : World) = { { w with heap := w.heap.push o } with drawn := n } := rfl

/-- The new row of a slice that had no room. -/
theorem grow_run {te : TI} {el : Nat} (ke : TypeOk P el te) (S : Sim w0 μ h w) {need : Nat} (cs : List AV) (vs : List Value) (hv : VRs μ cs vs) (hlen : cs.length = need * te.size) (q : Nat) (hq : need ≤ q) :
    ∃ z : Value, (∀ w, (zeroValue el).run P w = .ok z w) ∧
    ∀ n : Nat, let arr := vs.toArray ++ Builtin.zeroCells z.cells (q - need)
      let w1 : World := { { w with drawn := n } with heap := w.heap.push (.cells arr el) }
      (newRow el arr).run P { w with drawn := n } = .ok ⟨w.heap.size, 0, none⟩ w1 ∧
      μ.le (μ.upd h.nxt ⟨w.heap.size, 0, arr.size⟩) ∧ Sim w0 (μ.upd h.nxt ⟨w.heap.size, 0, arr.size⟩) (h.add (.cells cs true)) w1 ∧
      VR (μ.upd h.nxt ⟨w.heap.size, 0, arr.size⟩) (.slc (some (h.nxt, 0)) need none te.size) (.slice (some ⟨w.heap.size, 0, none⟩) need q) := by
  obtain ⟨z, hz, hz2⟩ := ke.zero'
  refine ⟨z, hz, fun n => ?_⟩
  intro arr w1
  have hzl : z.cells.size = te.size := by
    have := (VRs.ofLeafs (μ := μ) hz2).len
    have h2 := ke.zlen
    simp at this; omega
  have hvl := hv.len
  have hasz : arr.size = q * te.size := by
    simp only [arr, Array.size_append, List.size_toArray, Builtin.zeroCells, Array.size_map, Array.size_range, hzl, hvl, hlen]
    rw [← Nat.add_mul]; congr 1; omega
  have hrow := newRow_sim (P := P) (S.heap (w' := { w with drawn := n }) rfl ⟨rfl, rfl, rfl⟩) cs arr el (by rw [hasz, hlen]; exact Nat.mul_le_mul_right _ hq) (fun i a e => by
    obtain ⟨v, e1, e2⟩ := hv.get e
    have hi : i < vs.length := (List.getElem?_eq_some_iff.1 e1).1
    refine ⟨v, ?_, e2⟩
    simp only [arr]
    rw [Array.getElem?_append_left (by simpa using hi)]
    simpa using e1)
  refine ⟨hrow.1, hrow.2.1, hrow.2.2, ?_⟩
  exact VR.newSlc μ _ _ _ _ _ _ none hq (by omega) (by simp)

end Go.Am
