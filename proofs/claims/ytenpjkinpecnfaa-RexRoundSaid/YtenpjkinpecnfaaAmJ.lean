/-
  The abstract machine: append, copy: what these come to in the model.
-/
import Derived.Test.YtenpjkinpecnfaaAmI
namespace Go.Am
variable {P : Program} {T : TT} {w0 : Frz} {w : World} {μ : Mu} {h h' : Heap}

theorem cut_ge (need old el t : Nat) : need ≤ (Question.appendCap need old el).cut t := by simp [Question.cut]

/-- The call when there is no room. -/
theorem append_grows {t u : Nat} {ty : TypeId} {el : Nat} {du : TypeDesc} {te : TI} (hu : P.underlying t = some (.slice el)) (huu : P.underlying u = some du) (hni : ∀ k, du ≠ .int k) (ke : TypeOk P el te)
    (S : Sim w0 μ h w) {A : Option Addr} {n c k : Nat} {vx : Value} {old new : List AV} {vold vnew : List Value}
    (hl : ∀ w1 : World, (Builtin.lenOf vx).run P w1 = .ok k w1)
    (hold : ∀ d, (Builtin.firstCells te.size n (.slice A n c)).run P { w with drawn := d } = .ok vold.toArray { w with drawn := d }) (hov : VRs μ old vold) (hol : old.length = n * te.size)
    (hnew : ∀ d, (Builtin.firstCells te.size k vx).run P { w with drawn := d } = .ok vnew.toArray { w with drawn := d }) (hnv : VRs μ new vnew) (hnl : new.length = k * te.size)
    (hroom : ¬ n + k ≤ c) (hb0 : te.bytes ≠ 0) (hb1 : te.bytes ≤ 1048576) (hb2 : (n + k) * te.bytes ≤ roomA) (_hb3 : n + k ≤ roomA) :
    OpTo P w0 μ w (Builtin.append_ #[t, u] ty #[.slice A n c, vx]) (.slc (some (h.nxt, 0)) (n + k) none te.size) (h.add (.cells (old ++ new) true)) := by
  obtain ⟨inf, i1, i2, i3, _⟩ := ke.info
  have hq := cut_ge (n + k) c el (w.tape w.drawn (.appendCap (n + k) c el))
  have hgr := grow_run (P := P) ke S  (need := n + k) (old ++ new) (vold ++ vnew) (hov.append hnv) (by rw [List.length_append, hol, hnl, Nat.add_mul]) _ hq
  obtain ⟨z, hz, hgr⟩ := hgr
  obtain ⟨g1, g2, g3, g4⟩ := hgr (w.drawn + 1)
  refine ⟨_, _, _, ?_, g2, g3, g4⟩
  have hzi : (match du with | .int _ => true | _ => false) = false := by cases du <;> first | rfl | exact absurd rfl (hni _)
  have hnb : ¬ (Builtin.nextslicecap (n + k) c * inf.bytes > 2 ^ 48) := by
    have h1 := nextcap_le (need := n + k) (old := c) (by omega)
    rw [i3]
    have h2 : Builtin.nextslicecap (n + k) c * te.bytes ≤ (2 * (n + k) + 192) * te.bytes := Nat.mul_le_mul_right _ h1
    have h3 : (2 * (n + k) + 192) * te.bytes = 2 * ((n + k) * te.bytes) + 192 * te.bytes := by rw [Nat.add_mul, Nat.mul_assoc]
    unfold roomA at hb2
    omega
  have hfo : (Question.appendCap (n + k) c el).forced = false := rfl
  have hold1 := hold (w.drawn + 1)
  have hnew1 := hnew (w.drawn + 1)
  have happ : vold.toArray ++ vnew.toArray = (vold ++ vnew).toArray := by simp
  have hbytes : ¬ inf.bytes = 0 := by rw [i3]; exact hb0
  simp [Builtin.append_, run_under hu, run_under huu, hroom, hl, run_info i1, hbytes, hnb, hfo, ke.size]
  rw [show w.drew = ({ w with drawn := w.drawn + 1 } : World) from rfl, hold1]
  simp only [Result.andThen_ok, hnew1, hz]
  rw [← Array.append_assoc, happ]
  have g1' := g1
  simp only at g1'
  erw [g1]
  rfl

theorem append_room {t u : Nat} {ty : TypeId} {el : Nat} {du : TypeDesc} {te : TI} (hu : P.underlying t = some (.slice el)) (huu : P.underlying u = some du) (hni : ∀ k, du ≠ .int k) (ke : TypeOk P el te)
    {A : Option Addr} {n c k : Nat} {vx : Value} {vnew : List Value} {w' : World}
    (hl : (Builtin.lenOf vx).run P w = .ok k w) (hnew : (Builtin.firstCells te.size k vx).run P w = .ok vnew.toArray w) (hroom : n + k ≤ c)
    (hst : (∃ a, A = some a ∧ (Go.storeCells (a.add (n * te.size)) vnew).run P w = .ok () w') ∨ (A = none ∧ w' = w)) :
    (Builtin.append_ #[t, u] ty #[.slice A n c, vx]).run P w = .ok (.slice A (n + k) c) w' := by
  rcases hst with ⟨a, rfl, hst⟩ | ⟨rfl, rfl⟩
  · simp [Builtin.append_, run_under hu, run_under huu, hroom, hl, ke.size, hnew, hst]
  · simp [Builtin.append_, run_under hu, run_under huu, hroom, hl, ke.size, hnew]

theorem append_run (hT : TypesOk P T) {t u : Nat} {ty : TypeId} {s x a : AV} {vs vx : Value} {du : TypeDesc} (S : Sim w0 μ h w) (hs : VR μ s vs) (hx : VR μ x vx) (huu : P.underlying u = some du) (hni : ∀ k, du ≠ .int k)
    (e : appendA T t s x h = some (a, h')) : OpTo P w0 μ w (Builtin.append_ #[t, u] ty #[vs, vx]) a h' := by
  unfold appendA at e
  split at e
  · rename_i ti base n cap sz ht
    obtain ⟨d, hu, hk⟩ := (hT _ _ ht).under
    split at e
    · rename_i el hk'
      rw [hk'] at hk; have hd := TK.of_slc hk.symm; subst hd
      split at e
      · simp at e
      · rename_i te hte
        have ke := hT _ _ hte
        split at e
        · simp at e
        · rename_i hszb
          split at e
          · simp at e
          · rename_i k new hcomes
            obtain ⟨l1, ⟨vnew, l2, l3⟩, l4, l5⟩ := comes_run (P := P) S hx hcomes
            split at e
            · simp at e
            · rename_i hlim
              have hb3 : n + k ≤ roomA := by omega
              have hb0 : te.bytes ≠ 0 := by omega
              have hb1 : te.bytes ≤ 1048576 := by omega
              have hb2 : (n + k) * te.bytes ≤ roomA := by omega
              have hlw : ∀ w1 : World, (Builtin.lenOf vx).run P w1 = .ok k w1 := fun w1 => by
                cases vx <;> simp [Builtin.lenOf] at l1 ⊢ <;> exact l1
              have hnewd : ∀ d, (Builtin.firstCells te.size k vx).run P { w with drawn := d } = .ok vnew.toArray { w with drawn := d } := fun d => l2 _ rfl
              have l2 := l2 w rfl
              obtain ⟨A, c0, rfl, hcap⟩ := hs.slc_len
              split at e
              · rename_i c
                have hcc := hcap c rfl; subst hcc
                split at e
                · rename_i hroom
                  cases base with
                  | none =>
                    simp only at e
                    split at e
                    · rename_i hnil
                      simp at e; obtain ⟨rfl, rfl⟩ := e
                      have hs' := hs
                      simp only [VR] at hs
                      obtain ⟨_, _, hnc, hv⟩ := hs
                      simp at hv; obtain ⟨rfl, _⟩ := hv
                      refine ⟨μ, w, _, append_room hu huu hni ke l1 l2 hroom (.inr ⟨rfl, rfl⟩), Mu.le_refl _, S, ?_⟩
                      simp only [VR]; exact ⟨c0, rfl, hroom, rfl⟩
                    · simp at e
                  | some p =>
                    obtain ⟨b, o⟩ := p
                    have hsz : sz = te.size := by simpa using hszb
                    subst hsz
                    simp only [VR] at hs
                    obtain ⟨L, off, c1, hL, hv, hnc, hrm, hbase, hcp, hoff⟩ := hs
                    simp at hv; obtain ⟨rfl, rfl⟩ := hv
                    simp only at e
                    have hres : ∀ ν : Mu, μ.le ν → VR ν (.slc (some (b, o)) (n + k) (some c0) te.size) (.slice (some ⟨L.blk, off, none⟩) (n + k) c0) := fun ν hν => by
                      simp only [VR]
                      refine ⟨L, off, c0, hν _ _ hL, rfl, hroom, hrm, hbase, by simp, ?_⟩
                      rcases hoff with ⟨h0, h1 | h1⟩ | h1
                      · cases h1
                      · simp at h1; exact .inl ⟨by omega, .inr (by simp [h1])⟩
                      · exact .inr h1
                    cases new with
                    | nil =>
                      simp at e; obtain ⟨rfl, rfl⟩ := e
                      simp only [VRs] at l3; subst l3
                      exact ⟨μ, w, _, append_room hu huu hni ke l1 l2 hroom (.inl ⟨_, rfl, by simp [Go.storeCells]⟩), Mu.le_refl _, S, hres μ (Mu.le_refl _)⟩
                    | cons a1 as1 =>
                      simp only at e
                      split at e
                      · rename_i h1 hst
                        simp at e; obtain ⟨rfl, rfl⟩ := e
                        have hoff' : off = L.base + o := by
                          rcases hoff with ⟨h0, h1 | h1⟩ | h1
                          · cases h1
                          · simp at h1
                            have : k = 0 := by omega
                            subst this; simp at l5
                          · exact h1
                        subst hoff'
                        obtain ⟨w', r1, r2⟩ := run_storeCells (P := P) S hL l3 hst
                        refine ⟨μ, w', _, append_room hu huu hni ke l1 l2 hroom (.inl ⟨_, rfl, ?_⟩), Mu.le_refl _, r2, hres μ (Mu.le_refl _)⟩
                        rw [add_flat, show L.base + o + n * te.size = L.base + (o + n * te.size) by omega]; exact r1
                      · simp at e
                · rename_i hroom
                  cases base with
                  | none =>
                    simp only at e
                    split at e
                    · rename_i hn0
                      subst hn0
                      simp at e; obtain ⟨rfl, rfl⟩ := e
                      simp only [VR] at hs
                      obtain ⟨_, _, hnc, hv⟩ := hs
                      simp at hv; obtain ⟨rfl, _⟩ := hv
                      have := append_grows (P := P) (ty := ty) hu huu hni ke S (A := none) (n := 0) (c := c0) (old := []) (vold := []) hlw (fun d => by simp [Builtin.firstCells]) (by simp [VRs]) (by simp) hnewd l3 l5 hroom hb0 hb1 hb2 hb3
                      simpa using this
                    · simp at e
                  | some p =>
                    obtain ⟨b, o⟩ := p
                    have hsz : sz = te.size := by simpa using hszb
                    subst hsz
                    simp only [VR] at hs
                    obtain ⟨L, off, c1, hL, hv, hnc, hrm, hbase, hcp, hoff⟩ := hs
                    simp at hv; obtain ⟨rfl, rfl⟩ := hv
                    simp only at e
                    split at e
                    · rename_i hn0
                      subst hn0
                      simp at e; obtain ⟨rfl, rfl⟩ := e
                      have := append_grows (P := P) (ty := ty) hu huu hni ke S (A := some ⟨L.blk, off, none⟩) (n := 0) (c := c0) (old := []) (vold := []) hlw (fun d => by simp [Builtin.firstCells, Go.loadCells, loadCellsFrom]) (by simp [VRs]) (by simp) hnewd l3 l5 hroom hb0 hb1 hb2 hb3
                      simpa using this
                    · rename_i hn0
                      split at e
                      · rename_i old hold
                        simp at e; obtain ⟨rfl, rfl⟩ := e
                        have hoff' : off = L.base + o := by
                          rcases hoff with ⟨h0, _⟩ | h1
                          · exact absurd h0 hn0
                          · exact h1
                        subst hoff'
                        obtain ⟨vold, r1, r2⟩ := run_cells (P := P) S hL hold
                        exact append_grows (P := P) (ty := ty) hu huu hni ke S hlw (fun d => by simp [Builtin.firstCells, r1 { w with drawn := d } rfl]) r2 (loadCells_len hold) hnewd l3 l5 hroom hb0 hb1 hb2 hb3
                      · simp at e
              · split at e
                · rename_i hk0
                  subst hk0
                  simp at e; obtain ⟨rfl, rfl⟩ := e
                  have hn0 : new = [] := by simpa using l5
                  subst hn0
                  simp only [VRs] at l3; subst l3
                  cases base with
                  | none => simp only [VR] at hs; obtain ⟨_, hs, _⟩ := hs; cases hs
                  | some p =>
                    have hle := hs.slc_le
                    have hs' := hs
                    obtain ⟨b, o⟩ := p
                    simp only [VR] at hs
                    obtain ⟨L, off, c1, hL, hv, _⟩ := hs
                    simp at hv; obtain ⟨rfl, rfl⟩ := hv
                    exact ⟨μ, w, _, append_room hu huu hni ke l1 l2 (by omega) (.inl ⟨_, rfl, by simp [Go.storeCells]⟩), Mu.le_refl _, S, hs'⟩
                · rename_i hk0
                  cases base with
                  | none => simp at e
                  | some p =>
                    obtain ⟨b, o⟩ := p
                    have hsz : sz = te.size := by simpa using hszb
                    subst hsz
                    simp only [VR] at hs
                    obtain ⟨L, off, c1, hL, hv, hnc, hrm, hbase, hcp, hoff⟩ := hs
                    simp at hv; obtain ⟨rfl, rfl⟩ := hv
                    simp only at e
                    split at e
                    · rename_i cs hb
                      split at e
                      · rename_i hwin
                        simp at e; obtain ⟨rfl, rfl⟩ := e
                        obtain ⟨arr, tt, fz, h1, h2, h3, h4, h5⟩ := S.cells hb hL
                        -- the window, in either case
                        have hwl : ((cs.drop o).take (n * te.size)).length = n * te.size := by simp; omega
                        by_cases hroom : n + k ≤ c0
                        · -- in place
                          have hmul : (n + k) * te.size ≤ c0 * te.size := Nat.mul_le_mul_right _ hroom
                          have hvl := l3.len
                          have hadd : (n + k) * te.size = n * te.size + k * te.size := Nat.add_mul _ _ _
                          obtain ⟨w', r1, r0, r2, r3, arr', a1, a2, a3, a4⟩ := raw_stores (P := P) vnew (off + n * te.size) 0 arr w h1 (by omega) (by intro j hj; exact (h5 rfl).2 j (by omega)) (leaf_one l3 l4)
                          have hblk : ∀ ν, μ.le ν → BlkAt ν w0.old w' ⟨L.blk, off, L.room⟩ (.cells ((cs.drop o).take (n * te.size) ++ new) true) := fun ν hν => by
                            refine ⟨arr', tt, fz, a1, by show arr'.size = L.room; omega, by rw [List.length_append, hwl]; show off + (n * te.size + new.length) ≤ L.room; omega, fun i a ha => ?_, h5⟩
                            show ∃ v, arr'[off + i]? = some v ∧ VR ν a v
                            by_cases hi : i < n * te.size
                            · rw [List.getElem?_append_left (by omega), List.getElem?_take, if_pos hi, List.getElem?_drop] at ha
                              have hn0 : n ≠ 0 := by rintro rfl; simp at hi
                              have hoff' : off = L.base + o := by
                                rcases hoff with ⟨h0, _⟩ | h1
                                · exact absurd h0 hn0
                                · exact h1
                              obtain ⟨v, v1, v2⟩ := h4 (o + i) a ha
                              exact ⟨v, by rw [a3 _ (by omega), ← v1]; congr 1; omega, VR.mono hν _ _ v2⟩
                            · rw [List.getElem?_append_right (by omega), hwl] at ha
                              obtain ⟨v, v1, v2⟩ := l3.get ha
                              have := a4 (i - n * te.size) v v1
                              exact ⟨v, by rw [← this]; congr 1; omega, VR.mono hν _ _ v2⟩
                          obtain ⟨m1, m2⟩ := S.move _ off hb hL rfl r2 r3 hblk rfl r0
                          refine ⟨_, w', _, append_room hu huu hni ke l1 l2 hroom (.inl ⟨_, rfl, by rw [add_flat]; exact r1⟩), m1, m2, ?_⟩
                          simp only [VR]
                          exact ⟨_, off, c0, Mu.upd_same _ _ _, rfl, hroom, hrm, Nat.le_refl _, by simp, .inr (by simp)⟩
                        · -- elsewhere
                          have hold : ∃ vold : List Value, (∀ d, (Builtin.firstCells te.size n (.slice (some ⟨L.blk, off, none⟩) n c0)).run P { w with drawn := d } = .ok vold.toArray { w with drawn := d }) ∧ VRs μ ((cs.drop o).take (n * te.size)) vold := by
                            by_cases hn0 : n = 0
                            · subst hn0
                              exact ⟨[], fun d => by simp [Builtin.firstCells, Go.loadCells, loadCellsFrom], by simp [VRs]⟩
                            · have hoff' : off = L.base + o := by
                                rcases hoff with ⟨h0, _⟩ | h1
                                · exact absurd h0 hn0
                                · exact h1
                              subst hoff'
                              have hlc : loadCells h b o (n * te.size) = some ((cs.drop o).take (n * te.size)) := by
                                simp only [Am.loadCells, hb]; rw [if_pos hwin]
                              obtain ⟨vold, r1, r2⟩ := run_cells (P := P) S hL hlc
                              exact ⟨vold, fun d => by simp [Builtin.firstCells, r1 { w with drawn := d } rfl], r2⟩
                          obtain ⟨vold, o1, o2⟩ := hold
                          have := append_grows (P := P) (ty := ty) hu huu hni ke (S.del b) hlw o1 o2 hwl hnewd l3 l5 hroom hb0 hb1 hb2 hb3
                          simpa using this
                      · simp at e
                    · simp at e
    · simp at e
  · simp at e

end Go.Am
