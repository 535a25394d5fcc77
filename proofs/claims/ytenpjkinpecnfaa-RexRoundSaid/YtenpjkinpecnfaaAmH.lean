/-
  The abstract machine: slices cut and appended to, lengths, conversions: what these come to in the model.
-/
import Derived.Test.YtenpjkinpecnfaaAmG
namespace Go.Am
variable {P : Program} {T : TT} {w0 : Frz} {w : World} {μ : Mu} {h h' : Heap}

theorem VR.slc_len {a : Option (Nat × Nat)} {n : Nat} {cap : Option Nat} {sz : Nat} {v : Value} (k : VR μ (.slc a n cap sz) v) : ∃ b c, v = .slice b n c ∧ (∀ c', cap = some c' → c = c') := by
  cases a with
  | none => simp only [VR] at k; obtain ⟨c, rfl, _, rfl⟩ := k; exact ⟨none, c, rfl, by simp⟩
  | some p => obtain ⟨b, o⟩ := p; simp only [VR] at k; obtain ⟨L, off, c, _, rfl, _, _, _, hc, _⟩ := k; exact ⟨_, c, rfl, hc⟩

theorem sbound_run {x : AV} {vx : Value} {y m : Nat} (hx : VR μ x vx) (e : sbound x y = some m) (code : BoundsCode) (Y : Nat) (hY : y ≤ Y) : (∀ w, (Instr.sliceBound vx Y code).run P w = .ok m w) ∧ m ≤ y := by
  unfold sbound at e
  split at e
  · rename_i k i
    simp only [VR] at hx; subst hx
    split at e
    · rename_i hb; simp at e; subst e
      refine ⟨fun w => ?_, by omega⟩
      have : 0 ≤ i ∧ i ≤ (Y : Int) := ⟨hb.1, by omega⟩
      simp [Instr.sliceBound, asIntOf, this]
    · simp at e
  · simp at e

/-- Bounds of a slicing without a third index. -/
theorem sbounds_run {len C Len : Nat} {lo hi : Option AV} {vlo vhi : Option Value} {l g : Nat} (isSlice : Bool)
    (h1 : ∀ x, lo = some x → ∃ v, vlo = some v ∧ VR μ x v) (h1' : lo = none → vlo = none) (h2 : ∀ x, hi = some x → ∃ v, vhi = some v ∧ VR μ x v) (h2' : hi = none → vhi = none)
    (e : sbounds len lo hi = some (l, g)) (hC : hi.isSome = true → len ≤ C) (hL : hi = none → Len = len) : (∀ w, (Instr.sliceBounds isSlice Len C vlo vhi none).run P w = .ok (l, g, C) w) ∧ l ≤ g ∧ g ≤ len := by
  unfold sbounds at e
  split at e
  · simp at e
  · rename_i hh hh1
    split at e
    · simp at e
    · rename_i ll hl1
      simp at e; obtain ⟨rfl, rfl⟩ := e
      cases hi with
      | none =>
        have := h2' rfl; subst this
        have hL := hL rfl; subst hL
        simp at hh1; subst hh1
        cases lo with
        | none =>
          have := h1' rfl; subst this
          simp at hl1; subst hl1
          exact ⟨fun w => by simp [Instr.sliceBounds], Nat.zero_le _, Nat.le_refl _⟩
        | some x =>
          obtain ⟨v, rfl, hv⟩ := h1 x rfl
          simp only at hl1
          obtain ⟨r1, r2⟩ := sbound_run (P := P) hv hl1 .sliceB Len (Nat.le_refl _)
          exact ⟨fun w => by simp [Instr.sliceBounds, r1], r2, Nat.le_refl _⟩
      | some y =>
        obtain ⟨u, rfl, hu⟩ := h2 y rfl
        simp only at hh1
        obtain ⟨q1, q2⟩ := sbound_run (P := P) hu hh1 (if isSlice then .sliceAcap else .sliceAlen) C (hC rfl)
        cases lo with
        | none =>
          have := h1' rfl; subst this
          simp at hl1; subst hl1
          exact ⟨fun w => by simp [Instr.sliceBounds, q1], Nat.zero_le _, q2⟩
        | some x =>
          obtain ⟨v, rfl, hv⟩ := h1 x rfl
          simp only at hl1
          obtain ⟨r1, r2⟩ := sbound_run (P := P) hv hl1 .sliceB hh (Nat.le_refl _)
          exact ⟨fun w => by simp [Instr.sliceBounds, q1, r1], r2, q2⟩

theorem sbounds3_run {len C Len m : Nat} {lo hi : Option AV} {mx : AV} {vlo vhi : Option Value} {vm : Value} {l g : Nat} (isSlice : Bool)
    (h1 : ∀ x, lo = some x → ∃ v, vlo = some v ∧ VR μ x v) (h1' : lo = none → vlo = none) (h2 : ∀ x, hi = some x → ∃ v, vhi = some v ∧ VR μ x v) (hi' : hi.isSome = true)
    (hm : VR μ mx vm) (em : sbound mx len = some m) (e : sbounds m lo hi = some (l, g)) (hC : len ≤ C) : (∀ w, (Instr.sliceBounds isSlice Len C vlo vhi (some vm)).run P w = .ok (l, g, m) w) ∧ l ≤ g ∧ g ≤ m ∧ m ≤ len := by
  obtain ⟨m1, m2⟩ := sbound_run (P := P) hm em (if isSlice then .slice3Acap else .slice3Alen) C hC
  unfold sbounds at e
  split at e
  · simp at e
  · rename_i hh hh1
    split at e
    · simp at e
    · rename_i ll hl1
      simp at e; obtain ⟨rfl, rfl⟩ := e
      cases hi with
      | none => simp at hi'
      | some x =>
        obtain ⟨v, rfl, hv⟩ := h2 x rfl
        simp only at hh1
        obtain ⟨r1, r2⟩ := sbound_run (P := P) hv hh1 .slice3B m (Nat.le_refl _)
        cases lo with
        | none =>
          have := h1' rfl; subst this
          simp at hl1; subst hl1
          exact ⟨fun w => by simp [Instr.sliceBounds, m1, r1], Nat.zero_le _, r2, m2⟩
        | some x =>
          obtain ⟨v, rfl, hv⟩ := h1 x rfl
          simp only at hl1
          obtain ⟨q1, q2⟩ := sbound_run (P := P) hv hl1 .slice3C hh (Nat.le_refl _)
          exact ⟨fun w => by simp [Instr.sliceBounds, m1, r1, q1], q2, r2, m2⟩

/-- Cutting a slice: where it then lies. -/
theorem VR.cut {b : Option (Nat × Nat)} {n : Nat} {cap : Option Nat} {A : Option Addr} {c l g sz : Nat} (k : VR μ (.slc b n cap sz) (.slice A n c)) (hlg : l ≤ g) (hg : g ≤ c)
    (hgn : cap = none → g ≤ n) :
    (∀ c', cap = some c' → VR μ (.slc (if c' = l then b else b.map fun p => (p.1, p.2 + l * sz)) (g - l) (some (c' - l)) sz) (.slice (if c = l then A else A.map (·.add (l * sz))) (g - l) (c - l))) ∧
    (cap = none → VR μ (.slc (b.map fun p => (p.1, p.2 + l * sz)) (g - l) none sz) (.slice (if c = l then A else A.map (·.add (l * sz))) (g - l) (c - l))) := by
  cases b with
  | none =>
    simp only [VR] at k
    obtain ⟨c1, hc1, hnc, hv⟩ := k
    simp at hv; obtain ⟨rfl, rfl⟩ := hv
    refine ⟨fun c' hc' => ?_, fun hn => by rw [hn] at hc1; cases hc1⟩
    rw [hc1] at hc'; cases hc'
    simp [VR]; omega
  | some p =>
    obtain ⟨b, o⟩ := p
    simp only [VR] at k
    obtain ⟨L, off, c1, hL, hv, hn, hroom, hbase, hcap, hoff⟩ := k
    simp at hv; obtain ⟨rfl, rfl⟩ := hv
    have hmul : l * sz + (c - l) * sz = c * sz := by rw [← Nat.add_mul]; congr 1; omega
    refine ⟨fun c' hc' => ?_, fun hcn => ?_⟩
    · have := hcap c' hc'; subst this
      by_cases hcl : c = l
      · subst hcl
        simp only [if_true, VR]
        refine ⟨L, off, 0, hL, by simp, by omega, by omega, hbase, by simp, .inl ⟨by omega, .inr (by simp)⟩⟩
      · simp only [if_neg hcl, Option.map_some, VR, add_flat]
        refine ⟨L, off + l * sz, c - l, hL, rfl, by omega, by omega, by omega, by simp, ?_⟩
        rcases hoff with ⟨h0, h1 | h1⟩ | h1
        · rw [h1] at hc'; cases hc'
        · rw [h1] at hc'; cases hc'; omega
        · exact .inr (by omega)
    · have hgn' := hgn hcn
      by_cases hcl : c = l
      · subst hcl
        simp only [if_true, Option.map_some, VR]
        exact ⟨L, off, 0, hL, by simp, by omega, by omega, hbase, by simp, .inl ⟨by omega, by simp⟩⟩
      · simp only [if_neg hcl, Option.map_some, VR, add_flat]
        refine ⟨L, off + l * sz, c - l, hL, rfl, by omega, by omega, by omega, by simp, ?_⟩
        rcases hoff with ⟨h0, _⟩ | h1
        · exact .inl ⟨by omega, by simp⟩
        · exact .inr (by omega)

theorem VR.cut3 {b : Option (Nat × Nat)} {n : Nat} {cap : Option Nat} {A : Option Addr} {c l g m sz : Nat} (k : VR μ (.slc b n cap sz) (.slice A n c)) (hlg : l ≤ g) (hg : g ≤ m) (hm : m ≤ n) (hnc : n ≤ c) :
    VR μ (.slc (if m = l then b else b.map fun p => (p.1, p.2 + l * sz)) (g - l) (some (m - l)) sz) (.slice (if m = l then A else A.map (·.add (l * sz))) (g - l) (m - l)) := by
  cases b with
  | none =>
    simp only [VR] at k
    obtain ⟨c1, hc1, hnc, hv⟩ := k
    simp at hv; obtain ⟨rfl, rfl⟩ := hv
    simp [VR]; omega
  | some p =>
    obtain ⟨b, o⟩ := p
    simp only [VR] at k
    obtain ⟨L, off, c1, hL, hv, hn, hroom, hbase, hcap, hoff⟩ := k
    simp at hv; obtain ⟨rfl, rfl⟩ := hv
    have hmul : l * sz + (m - l) * sz = m * sz := by rw [← Nat.add_mul]; congr 1; omega
    have hle : m * sz ≤ c * sz := Nat.mul_le_mul_right _ (by omega)
    by_cases hcl : m = l
    · subst hcl
      simp only [if_true, VR]
      exact ⟨L, off, 0, hL, by simp, by omega, by omega, hbase, by simp, .inl ⟨by omega, .inr (by simp)⟩⟩
    · simp only [if_neg hcl, Option.map_some, VR, add_flat]
      refine ⟨L, off + l * sz, m - l, hL, rfl, by omega, by omega, by omega, by simp, ?_⟩
      rcases hoff with ⟨h0, _⟩ | h1
      · omega
      · exact .inr (by omega)

theorem VR.slc_le {b : Nat × Nat} {n : Nat} {cap : Option Nat} {sz : Nat} {A : Option Addr} {c : Nat} (k : VR μ (.slc (some b) n cap sz) (.slice A n c)) : n ≤ c := by
  obtain ⟨b, o⟩ := b
  simp only [VR] at k
  obtain ⟨L, off, c1, hL, hv, hn, _⟩ := k
  simp at hv; omega

theorem slice_run (hT : TypesOk P T) {t : Nat} {x a : AV} {vx : Value} {lo hi mx : Option AV} {vlo vhi vmx : Option Value} (hx : VR μ x vx)
    (h1 : ∀ x, lo = some x → ∃ v, vlo = some v ∧ VR μ x v) (h1' : lo = none → vlo = none) (h2 : ∀ x, hi = some x → ∃ v, vhi = some v ∧ VR μ x v) (h2' : hi = none → vhi = none)
    (h3 : ∀ x, mx = some x → ∃ v, vmx = some v ∧ VR μ x v) (h3' : mx = none → vmx = none) (e : sliceA T t x lo hi mx = some a) :
    ∃ v, (∀ w, (Instr.sliceAt t vx vlo vhi vmx).run P w = .ok v w) ∧ VR μ a v := by
  unfold sliceA at e
  split at e
  · simp at e
  · rename_i ti ht
    obtain ⟨d, hu, hk⟩ := (hT _ _ ht).under
    split at e
    · rename_i s hk'
      rw [hk'] at hk; have hd := TK.of_str hk.symm; subst hd
      simp only [VR] at hx; subst hx
      split at e
      · simp at e
      · have := h3' rfl; subst this
        split at e
        · rename_i l g hs
          simp at e; subst e
          obtain ⟨r1, r2, r3⟩ := sbounds_run (P := P) (C := s.length) (Len := s.length) false h1 h1' h2 h2' hs (fun _ => Nat.le_refl _) (fun _ => rfl)
          refine ⟨.string ⟨((s.drop l).take (g - l)).toArray⟩, fun w => ?_, by simp [VR]⟩
          simp only [Instr.sliceAt, Instr.slice, Sem.run_bind, run_under hu, Result.andThen_ok, size_mk]
          simp only [Option.isSome_none, Bool.false_eq_true, if_false, Sem.run_pure, Result.andThen_ok, r1, Sem.run_bind]
          congr 2
          apply ByteArray.ext
          simp
        · simp at e
    · rename_i el b n cap sz hk'
      rw [hk'] at hk; have hd := TK.of_slc hk.symm; subst hd
      split at e
      · simp at e
      · rename_i te hte
        have ke := hT _ _ hte
        split at e
        · simp at e
        · rename_i hszb
          obtain ⟨A, c, rfl, hcap⟩ := hx.slc_len
          have hsz : b = none ∨ sz = te.size := by
            cases b with
            | none => exact .inl rfl
            | some p => right; simpa using hszb
          have hadd : (fun l => (A.map (·.add (l * te.size)))) = (fun l => A.map (·.add (l * sz))) ∨ b = none := by
            rcases hsz with h | h
            · exact .inr h
            · left; rw [h]
          have hbm : ∀ l, (b.map fun p => (p.1, p.2 + l * te.size)) = (b.map fun p => (p.1, p.2 + l * sz)) := by
            intro l
            rcases hsz with h | h
            · subst h; rfl
            · rw [h]
          have hAm : ∀ l, (A.map (·.add (l * te.size))) = (A.map (·.add (l * sz))) := by
            intro l
            rcases hsz with h | h
            · subst h; simp only [VR] at hx; obtain ⟨_, _, _, hv⟩ := hx; simp at hv; rw [hv.1]; rfl
            · rw [h]
          split at e
          · have := h3' rfl; subst this
            split at e
            · simp at e
            · rename_i l g hs
              split at e
              · rename_i c'
                have hcc := hcap c' rfl; subst hcc
                split at e
                · rename_i hlc
                  simp at e; subst e
                  obtain ⟨r1, r2, r3⟩ := sbounds_run (P := P) (C := c) (Len := n) true h1 h1' h2 h2' hs (fun hh => by simp [hh]) (fun hh => by subst hh; simp)
                  refine ⟨.slice (if c = l then A else A.map (·.add (l * te.size))) (g - l) (c - l), fun w => ?_, ?_⟩
                  · simp [Instr.sliceAt, Instr.slice, run_under hu, r1, ke.size]
                  · rw [hbm, hAm]
                    exact (hx.cut r2 hlc.2 (by simp)).1 _ rfl
                · simp at e
              · simp at e; subst e
                cases b with
                | none => simp only [VR] at hx; obtain ⟨_, hx, _⟩ := hx; cases hx
                | some p =>
                  have hnc := hx.slc_le
                  obtain ⟨r1, r2, r3⟩ := sbounds_run (P := P) (C := c) (Len := n) true h1 h1' h2 h2' hs (fun _ => hnc) (fun _ => rfl)
                  replace r3 : g ≤ n := r3
                  refine ⟨.slice (if c = l then A else A.map (·.add (l * te.size))) (g - l) (c - l), fun w => ?_, ?_⟩
                  · simp [Instr.sliceAt, Instr.slice, run_under hu, r1, ke.size]
                  · rw [hAm]
                    have := hbm l
                    simp only [Option.map_some] at this ⊢
                    rw [this]
                    exact (hx.cut r2 (by omega) (fun _ => r3)).2 rfl
          · rename_i m
            obtain ⟨vm, rfl, hvm⟩ := h3 _ rfl
            split at e
            · simp at e
            · rename_i mm hmm
              split at e
              · simp at e
              · rename_i l g hs
                split at e
                · rename_i hhi
                  simp at e; subst e
                  have hnc : n ≤ c := by
                    cases b with
                    | none =>
                      simp only [VR] at hx; obtain ⟨c1, hc1, hnc, hv⟩ := hx; simp at hv; omega
                    | some p => exact hx.slc_le
                  obtain ⟨r1, r2, r3, r4⟩ := sbounds3_run (P := P) (C := c) (Len := n) true h1 h1' h2 hhi hvm hmm hs hnc
                  refine ⟨.slice (if mm = l then A else A.map (·.add (l * te.size))) (g - l) (mm - l), fun w => ?_, ?_⟩
                  · simp [Instr.sliceAt, Instr.slice, run_under hu, r1, ke.size]
                  · rw [hbm, hAm]
                    exact hx.cut3 r2 r3 r4 hnc
                · simp at e
    · simp at e

end Go.Am
