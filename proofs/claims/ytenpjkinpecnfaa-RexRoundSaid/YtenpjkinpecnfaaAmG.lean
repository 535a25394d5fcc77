/-
  The abstract machine: slices made, cut, appended to: what these come to in the model.
-/
import Derived.Test.YtenpjkinpecnfaaAmF
namespace Go.Am
variable {P : Program} {T : TT} {w0 : Frz} {w : World} {μ : Mu} {h h' : Heap}

theorem zeroRow_rel {z : Array Value} {zero : List AV} (hz : VRs μ zero z.toList) (n : Nat) (h0 : n = 0 ∨ 0 < zero.length) : VRs μ (zeroRow zero n) ((Array.range n).map (z[· % z.size]!)).toList := by
  refine VRs.of_get (by simp [zeroRow]) fun i a e => ?_
  simp only [zeroRow, List.getElem?_map] at e
  rcases Nat.lt_or_ge i n with hi | hi
  · rw [List.getElem?_range hi] at e
    simp at e; subst e
    have hl : z.size = zero.length := by have := hz.len; simpa using this
    have hm : i % zero.length < zero.length := Nat.mod_lt _ (by omega)
    obtain ⟨v, e1, e2⟩ := hz.get (List.getElem?_eq_getElem hm)
    refine ⟨v, ?_, by rwa [List.getElem?_eq_getElem hm]⟩
    have e1' : z[i % zero.length]? = some v := by simpa using e1
    have e3 : z[i % zero.length]! = v := by simp [getElem!_def, e1']
    simp [hi, hl, e3]
  · simp [List.getElem?_eq_none (by simpa using hi : (List.range n).length ≤ i)] at e

theorem newRow_run (t : TypeId) (arr : Array Value) (w : World) : (newRow t arr).run P w = .ok ⟨w.heap.size, 0, none⟩ { w with heap := w.heap.push (.cells arr t) } := by simp [newRow]

theorem newRow_sim (S : Sim w0 μ h w) (cs : List AV) (arr : Array Value) (t : TypeId) (hl : cs.length ≤ arr.size) (hv : ∀ (i : Nat) (a : AV), cs[i]? = some a → ∃ v, arr[i]? = some v ∧ VR μ a v) :
    (newRow t arr).run P w = .ok ⟨w.heap.size, 0, none⟩ { w with heap := w.heap.push (.cells arr t) } ∧
    μ.le (μ.upd h.nxt ⟨w.heap.size, 0, arr.size⟩) ∧ Sim w0 (μ.upd h.nxt ⟨w.heap.size, 0, arr.size⟩) (h.add (.cells cs true)) { w with heap := w.heap.push (.cells arr t) } :=
  ⟨newRow_run t arr w, S.addCells cs arr t hl hv⟩

/-- Something newly made; id: its number. -/
def NewTo (P : Program) (μ : Mu) (w : World) (s : Sem Value) (a : AV) (id : Nat) (cs : List AV) : Prop :=
  ∃ v arr t, s.run P w = .ok v { w with heap := w.heap.push (.cells arr t) } ∧ cs.length ≤ arr.size ∧ (∀ (i : Nat) (a : AV), cs[i]? = some a → ∃ v, arr[i]? = some v ∧ VR μ a v) ∧
    VR (μ.upd id ⟨w.heap.size, 0, arr.size⟩) a v

theorem NewTo.op {s : Sem Value} {a : AV} {cs : List AV} (S : Sim w0 μ h w) (k : NewTo P μ w s a h.nxt cs) : OpTo P w0 μ w s a (h.add (.cells cs true)) := by
  obtain ⟨v, arr, t, e1, e2, e3, e4⟩ := k
  obtain ⟨m1, m2⟩ := S.addCells cs arr t e2 e3
  exact ⟨_, _, _, e1, m1, m2, e4⟩

theorem VR.newSlc (μ : Mu) (b blk room sz n c : Nat) (cap : Option Nat) (h1 : n ≤ c) (h2 : c * sz ≤ room) (h3 : ∀ c', cap = some c' → c = c') :
    VR (μ.upd b ⟨blk, 0, room⟩) (.slc (some (b, 0)) n cap sz) (.slice (some ⟨blk, 0, none⟩) n c) := by
  simp only [VR]
  exact ⟨_, 0, c, Mu.upd_same _ _ _, rfl, h1, by simpa using h2, by simp, h3, .inr (by simp)⟩

theorem alloc_new (hT : TypesOk P T) {t : Nat} {ti : TI} (ht : T t = some ti) (μ : Mu) (w : World) (id : Nat) : NewTo P μ w (Instr.alloc t true (.tuple #[])) (.ptr (some (id, 0))) id ti.zero := by
  obtain ⟨z, hz, hz2⟩ := (hT _ _ ht).zero'
  have hr := VRs.ofLeafs (μ := μ) hz2
  refine ⟨_, z.cells, t, ?_, by have := hr.len; simp at this; omega, hr.arr, by simp only [VR]; exact ⟨_, Mu.upd_same _ _ _, rfl⟩⟩
  simp [Instr.alloc, hz, newVar, newRow_run]

theorem alloc_run (hT : TypesOk P T) {t : Nat} {ti : TI} (S : Sim w0 μ h w) (ht : T t = some ti) : OpTo P w0 μ w (Instr.alloc t true (.tuple #[])) (.ptr (some (h.nxt, 0))) (h.add (.cells ti.zero true)) :=
  (alloc_new hT ht μ w h.nxt).op S

theorem box_new {t : TypeId} {a : AV} {v : Value} (hv : VR μ a v) (w : World) (id : Nat) : NewTo P μ w (Instr.box t v) (.ptr (some (id, 0))) id a.cells := by
  have hr := hv.cells
  refine ⟨_, v.cells, t, ?_, by have := hr.len; simp at this; omega, hr.arr, by simp only [VR]; exact ⟨_, Mu.upd_same _ _ _, rfl⟩⟩
  simp [Instr.box, newVar, newRow_run]

theorem box_run {t : TypeId} {a : AV} {v : Value} (S : Sim w0 μ h w) (hv : VR μ a v) : OpTo P w0 μ w (Instr.box t v) (.ptr (some (h.nxt, 0))) (h.add (.cells a.cells true)) :=
  (box_new hv w h.nxt).op S

theorem buildSlice_new (hT : TypesOk P T) {t n : Nat} {ps : List (Nat × AV)} {qs : Array (Nat × Value)} {a : AV} (hp : PRs μ ps qs.toList) (e : buildSliceA T t n ps h = some (a, h')) (w : World) :
    ∃ cs, h' = h.add (.cells cs true) ∧ NewTo P μ w (Instr.buildSlice t n qs) a h.nxt cs := by
  unfold buildSliceA at e
  split at e
  · simp at e
  · rename_i ti ht
    obtain ⟨d, hu, hk⟩ := (hT _ _ ht).under
    split at e
    · rename_i el hk'
      rw [hk'] at hk; have hd := TK.of_slc hk.symm; subst hd
      split at e
      · simp at e
      · rename_i te hte
        have ke := hT _ _ hte
        obtain ⟨z, hz, hz2⟩ := ke.zero'
        split at e
        · simp at e
        · rename_i hlim
          split at e
          · rename_i cs hfill
            simp at e; obtain ⟨rfl, rfl⟩ := e
            have hzr : VRs μ (zeroRow te.zero (n * te.size)) ((Array.range (n * te.size)).map (z.cells[· % z.cells.size]!)).toList := zeroRow_rel (VRs.ofLeafs hz2) _ (by
              have := ke.zlen
              rcases Nat.eq_zero_or_pos te.size with h0 | h0
              · exact .inl (by rw [h0]; simp)
              · exact .inr (by omega))
            obtain ⟨ds', f1, f2⟩ := fill_rel (μ := μ) (pm := fun i => some (i * te.size, te.size)) (fun i p hp => hp) ps qs.toList _ cs _ hp hzr hfill
            have hlen : cs.length = n * te.size := by
              have hfl : ∀ (pl : Nat → Option (Nat × Nat)) (ps : List (Nat × AV)) (cs cs' : List AV), fillA pl cs ps = some cs' → cs'.length = cs.length := by
                intro pl ps
                induction ps with
                | nil => intro cs cs' h; simp [fillA] at h; rw [h]
                | cons p ps ih =>
                  intro cs cs' h
                  obtain ⟨i, a⟩ := p
                  simp only [fillA] at h
                  split at h
                  · simp at h
                  · split at h
                    · rw [ih _ _ h, setCells_len]
                    · simp at h
              rw [hfl _ _ _ _ hfill]; simp [zeroRow]
            have hsz : ds'.size = n * te.size := by have := f2.len; simp at this; omega
            have e1 := newRow_run (P := P) el ds' w
            refine ⟨_, rfl, _, ds', el, ?_, by omega, f2.arr, VR.newSlc μ _ _ _ _ n n (some n) (Nat.le_refl _) (by omega) (by simp)⟩
            have hlim' : ¬ (n * te.size > 2 ^ 24) := by simpa using hlim
            simp only [Instr.buildSlice, Sem.run_bind, run_under hu, Result.andThen_ok, ke.size, Sem.run_ite, if_neg hlim', Sem.run_pure]
            by_cases hz0 : n * te.size = 0
            · have hds0 : (Array.range (n * te.size)).map (z.cells[· % z.cells.size]!) = (Array.range (n * te.size)).map ((#[] : Array Value)[· % (#[] : Array Value).size]!) := by
                rw [hz0]; simp
              rw [hds0] at f1
              simp only [if_pos hz0]
              rw [f1]
              simp [e1]
            · simp only [if_neg hz0, Result.andThen_ok, hz]
              rw [f1]
              simp [e1]
          · simp at e
    · simp at e

theorem buildSlice_run (hT : TypesOk P T) {t n : Nat} {ps : List (Nat × AV)} {qs : Array (Nat × Value)} {a : AV} (S : Sim w0 μ h w) (hp : PRs μ ps qs.toList) (e : buildSliceA T t n ps h = some (a, h')) :
    OpTo P w0 μ w (Instr.buildSlice t n qs) a h' := by
  obtain ⟨cs, rfl, k⟩ := buildSlice_new hT hp e w
  exact k.op S

theorem makeSlice_new (hT : TypesOk P T) {t : Nat} {l c a : AV} {vl vc : Value} (hl : VR μ l vl) (hc : VR μ c vc) (e : makeSliceA T t l c h = some (a, h')) (w : World) :
    ∃ cs, h' = h.add (.cells cs true) ∧ NewTo P μ w (Instr.makeSlice t vl vc) a h.nxt cs := by
  unfold makeSliceA at e
  split at e
  · rename_i ti k1 l k2 c ht
    simp only [VR] at hl hc; subst hl hc
    obtain ⟨d, hu, hk⟩ := (hT _ _ ht).under
    split at e
    · rename_i el hk'
      rw [hk'] at hk; have hd := TK.of_slc hk.symm; subst hd
      split at e
      · simp at e
      · rename_i te hte
        have ke := hT _ _ hte
        obtain ⟨z, hz, hz2⟩ := ke.zero'
        obtain ⟨inf, i1, i2, i3, _⟩ := ke.info
        split at e
        · rename_i hb
          obtain ⟨b1, b2, b3, b4⟩ := hb
          simp at e; obtain ⟨rfl, rfl⟩ := e
          have hw : ∀ x : Int, 0 ≤ x → x ≤ 1073741824 → IntKind.i64.wrap x = x := fun x h1 h2 => by
            have h3 : x % (2 ^ 64 : Int) = x := Int.emod_eq_of_lt h1 (by omega)
            simp only [IntKind.wrap, IntKind.bits, IntKind.signed, h3]
            simp; omega
          have hwl := hw l b1 (by omega)
          have hwc := hw c (by omega) b3
          have hzr : VRs μ (zeroRow te.zero (c.toNat * te.size)) ((Array.range (c.toNat * te.size)).map (z.cells[· % z.cells.size]!)).toList := zeroRow_rel (VRs.ofLeafs hz2) _ (by
              have := ke.zlen
              rcases Nat.eq_zero_or_pos te.size with h0 | h0
              · exact .inl (by rw [h0]; simp)
              · exact .inr (by omega))
          have e1 := newRow_run (P := P) el ((Array.range (c.toNat * te.size)).map (z.cells[· % z.cells.size]!)) w
          refine ⟨_, rfl, _, _, el, ?_, by simp [zeroRow], hzr.arr, VR.newSlc μ _ _ _ _ l.toNat c.toNat (some c.toNat) (by omega) (by simp) (by simp)⟩
          have hi3 : (inf.bytes : Int) * c ≤ 140737488355328 := by rw [i3]; exact b4
          have hnot : (((decide (c < 0) || decide (2 ^ 48 < (inf.bytes : Int) * c)) || decide (l < 0)) || decide (c < l)) = false := by
            simp only [Bool.or_eq_false_iff, decide_eq_false_iff_not]
            refine ⟨⟨⟨by omega, ?_⟩, by omega⟩, by omega⟩
            have : (2 : Int) ^ 48 = 281474976710656 := by decide
            omega
          simp only [Instr.makeSlice, Sem.run_bind, run_under hu, Result.andThen_ok, asInt, asIntOf, Sem.run_pure, run_info i1, hwl, hwc, Sem.run_ite]
          simp only [gt_iff_lt, hnot]
          simp only [Bool.false_eq_true, if_false, Result.andThen_ok, run_askRoom, ke.size]
          by_cases hz0 : c.toNat * te.size = 0
          · have hds0 : (Array.range (c.toNat * te.size)).map (z.cells[· % z.cells.size]!) = (Array.range (c.toNat * te.size)).map ((#[] : Array Value)[· % (#[] : Array Value).size]!) := by
              rw [hz0]; simp
            simp only [if_pos hz0]
            rw [← hds0, e1]; rfl
          · simp only [if_neg hz0, Result.andThen_ok, hz]
            rw [e1]; rfl
        · simp at e
    · simp at e
  · simp at e

theorem makeSlice_run (hT : TypesOk P T) {t : Nat} {l c a : AV} {vl vc : Value} (S : Sim w0 μ h w) (hl : VR μ l vl) (hc : VR μ c vc) (e : makeSliceA T t l c h = some (a, h')) :
    OpTo P w0 μ w (Instr.makeSlice t vl vc) a h' := by
  obtain ⟨cs, rfl, k⟩ := makeSlice_new hT hl hc e w
  exact k.op S

end Go.Am
