/-
  The abstract machine: what is built, made, cut: what these come to in the model.
-/
import Derived.Test.YtenpjkinpecnfaaAmE
namespace Go.Am
variable {P : Program} {T : TT} {w0 : Frz} {w : World} {μ : Mu} {h h' : Heap}

/-! ### building -/
theorem setCells_eq (off : Nat) : ∀ (as : List AV) (cs : List AV) (j : Nat), setCells cs (off + j) as = (as.zipIdx j).foldl (fun c x => c.set (off + x.2) x.1) cs
  | [], cs, j => rfl
  | a :: as, cs, j => by
    simp only [setCells, List.zipIdx_cons, List.foldl_cons]
    exact setCells_eq off as _ (j + 1)

theorem foldl_set_rel (off : Nat) : ∀ (as : List AV) (vs : List Value) (cs : List AV) (ds : Array Value) (j : Nat), VRs μ as vs → VRs μ cs ds.toList →
    VRs μ ((as.zipIdx j).foldl (fun c x => c.set (off + x.2) x.1) cs) ((vs.zipIdx j).foldl (fun c x => c.setIfInBounds (off + x.2) x.1) ds).toList
  | [], vs, cs, ds, j, h1, h2 => by simp only [VRs] at h1; subst h1; simpa using h2
  | a :: as, vs, cs, ds, j, h1, h2 => by
    simp only [VRs] at h1
    obtain ⟨v, vs', hv, hvs, rfl⟩ := h1
    simp only [List.zipIdx_cons, List.foldl_cons]
    exact foldl_set_rel off as vs' _ _ (j + 1) hvs (by simpa using h2.set (off + j) hv)

/-- Two rows of parts. -/
def PRs (μ : Mu) : List (Nat × AV) → List (Nat × Value) → Prop
  | [], l => l = []
  | (i, a) :: as, l => ∃ v vs, VR μ a v ∧ PRs μ as vs ∧ l = (i, v) :: vs

theorem fill_rel {pl : Nat → Option (Nat × Nat)} {pm : Nat → Option (Nat × Nat)} (hp : ∀ i p, pl i = some p → pm i = some p) : ∀ (ps : List (Nat × AV)) (qs : List (Nat × Value)) (cs cs' : List AV) (ds : Array Value),
    PRs μ ps qs → VRs μ cs ds.toList → fillA pl cs ps = some cs' → ∃ ds', Instr.fill pm ds qs = some ds' ∧ VRs μ cs' ds'.toList
  | [], qs, cs, cs', ds, h1, h2, h3 => by simp only [PRs] at h1; subst h1; simp [fillA] at h3; subst h3; exact ⟨ds, rfl, h2⟩
  | (i, a) :: ps, qs, cs, cs', ds, h1, h2, h3 => by
    simp only [PRs] at h1
    obtain ⟨v, vs, hv, hvs, rfl⟩ := h1
    simp only [fillA] at h3
    split at h3
    · simp at h3
    · rename_i off size hpl
      split at h3
      · rename_i hc
        have hcl := hv.cells
        have hsz : v.cells.size = size := by have := hcl.len; simp at this; omega
        have hds : ds.size = cs.length := by have := h2.len; simpa using this
        have hrel : VRs μ (setCells cs off a.cells) (v.cells.zipIdx.foldl (fun c x => c.setIfInBounds (off + x.2) x.1) ds).toList := by
          have := foldl_set_rel off a.cells v.cells.toList cs ds 0 hcl h2
          have e1 := setCells_eq off a.cells cs 0
          simp only [Nat.add_zero] at e1
          rw [e1]
          rw [← Array.foldl_toList, Array.toList_zipIdx]
          exact this
        obtain ⟨ds', e1, e2⟩ := fill_rel hp ps vs _ cs' _ hvs hrel h3
        refine ⟨ds', ?_, e2⟩
        simp only [Instr.fill, hp _ _ hpl, hsz]
        rw [if_neg (by simp; omega)]
        exact e1
      · simp at h3

def sizesOf (P : Program) (gs : List Field) : List (Nat × Nat) := gs.map fun f => (f.offset, P.cellsOf f.type)

theorem run_sizes : ∀ (gs : List Field) (w : World), (∀ f ∈ gs, (P.info? f.type).isSome = true) →
    (gs.mapM fun f => (do pure (f.offset, ← sizeOf f.type) : Sem (Nat × Nat))).run P w = .ok (sizesOf P gs) w
  | [], w, _ => by simp [sizesOf]
  | g :: gs, w, hi => by
    obtain ⟨inf, hinf⟩ := Option.isSome_iff_exists.1 (hi g (by simp))
    have e1 := run_sizes gs w (fun f hf => hi f (by simp [hf]))
    rw [List.mapM_cons]
    simp only [Sem.run_bind, sizeOf, run_info hinf, Result.andThen_ok, Sem.run_pure]
    simp only [sizeOf] at e1
    rw [e1]
    simp [sizesOf, Program.cellsOf, hinf]

theorem build_run (hT : TypesOk P T) {t : Nat} {ps : List (Nat × AV)} {qs : Array (Nat × Value)} {a : AV} (hp : PRs μ ps qs.toList) (e : buildA T t ps = some a) :
    ∃ v, (∀ w, (Instr.build t qs).run P w = .ok v w) ∧ VR μ a v := by
  unfold buildA at e
  split at e
  · simp at e
  · rename_i ti ht
    have k := hT _ _ ht
    obtain ⟨z, hz, hz2⟩ := k.zero'
    obtain ⟨d, hu, hk⟩ := k.under
    split at e
    · rename_i fs hk'
      rw [hk'] at hk; obtain ⟨gs, hd, hfs⟩ := TK.of_strct hk.symm; subst hd
      split at e
      · rename_i cs hfill
        simp at e; subst e
        have hall := k.fields gs hu
        obtain ⟨ds', f1, f2⟩ := fill_rel (μ := μ) (pm := fun x => (sizesOf P gs.toList)[x]?) (fun i p hp => by
          split at hp
          · rename_i b ft off hi
            split at hp
            · rename_i fi hfi; simp at hp; subst hp
              subst hfs
              simp only [List.getElem?_map] at hi
              cases hg : gs.toList[i]? with
              | none => rw [hg] at hi; simp at hi
              | some g =>
                rw [hg] at hi; simp at hi
                obtain ⟨_, rfl, rfl⟩ := hi
                obtain ⟨j, j1, j2, _⟩ := (hT _ _ hfi).info
                simp only [sizesOf, List.getElem?_map, hg, Program.cellsOf, j1, j2, Option.map_some, Option.getD_some]
            · simp at hp
          · simp at hp) ps qs.toList ti.zero cs z.cells hp (VRs.ofLeafs hz2) hfill
        refine ⟨.agg ds', fun w => ?_, by simp only [VR]; exact ⟨ds', f2, rfl⟩⟩
        have hr := run_sizes gs.toList w hall
        simp only [Instr.build, Sem.run_bind, hz, Result.andThen_ok, run_under hu, Array.mapM_eq_mapM_toList, Sem.run_map, hr]
        simp
        rw [f1]; rfl
      · simp at e
    · rename_i n e1 hk'
      rw [hk'] at hk; have hd := TK.of_arr hk.symm; subst hd
      split at e
      · simp at e
      · rename_i te hte
        split at e
        · rename_i cs hfill
          simp at e; subst e
          obtain ⟨ds', f1, f2⟩ := fill_rel (μ := μ) (pm := fun i => some (i * te.size, te.size)) (fun i p hp => hp) ps qs.toList ti.zero cs z.cells hp (VRs.ofLeafs hz2) hfill
          refine ⟨.agg ds', fun w => ?_, by simp only [VR]; exact ⟨ds', f2, rfl⟩⟩
          simp [Instr.build, hz, run_under hu, (hT _ _ hte).size, f1]
        · simp at e
    · simp at e

end Go.Am
