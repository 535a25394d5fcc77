import Derived.Test.YtaockkmmjinhpaaFstS
import Derived.Test.YtaockkmmjinhpaaLlT
import Derived.Test.YtaockkmmjinhpaaAmUt
/-
  The document's sets, plain: rounds in which all three kinds of sets grow.
-/
namespace Go.Proofs.Ytaockkmmjinhpaa
open Go Go.Am
set_option maxRecDepth 100000
set_option linter.unusedSimpArgs false
set_option linter.unusedVariables false

/-- Three kinds of sets. -/
structure Tri where
  nu : List Bool
  fi : List (List Bool)
  fo : List (List Bool)
def Tri.msr (S : Tri) : Nat := cntF S.nu + (totF S.fi + totF S.fo)
structure Tri.Shape (tn n : Nat) (S : Tri) : Prop where
  nu : S.nu.length = n
  fi : Rows tn n S.fi
  fo : Rows (tn + 1) n S.fo
/-- What is in the sets must be in all that are closed. -/
def Tri.Sound (tn : Nat) (ps : List GProd) (S : Tri) : Prop := ∀ N Fi Fo, ClosedN ps N → ClosedF tn ps N Fi → ClosedO tn ps N Fi Fo → (∀ k, B1 S.nu k → N k) ∧ (∀ k x, B2 S.fi k x → Fi k x) ∧ ∀ k x, B2 S.fo k x → Fo k x
/-- What a round has come to, so far. -/
structure Adv3 (tn n : Nat) (ps : List GProd) (S S' : Tri) (gr : Bool) (Cl : Tri → Prop) : Prop where
  shape : S'.Shape tn n
  up : ∀ k x, B2 S.fo k x → B2 S'.fo k x
  snd : S.Sound tn ps → S'.Sound tn ps
  cnt : S'.msr ≤ S.msr ∧ (gr = true → S'.msr < S.msr)
  stop : gr = false → S' = S ∧ Cl S
section
variable {tn n : Nat} {ps : List GProd} {S S' S2 : Tri} {gr g2 : Bool} {Cl Cl' Cl2 : Tri → Prop}
theorem Adv3.refl (h : S.Shape tn n) : Adv3 tn n ps S S false (fun _ => True) := ⟨h, fun _ _ h => h, fun h => h, ⟨Nat.le_refl _, fun h => by cases h⟩, fun _ => ⟨rfl, trivial⟩⟩
theorem Adv3.weak (A : Adv3 tn n ps S S' gr Cl) (h : gr = false → S' = S → Cl S → Cl' S) : Adv3 tn n ps S S' gr Cl' := ⟨A.shape, A.up, A.snd, A.cnt, fun hg => ⟨(A.stop hg).1, h hg (A.stop hg).1 (A.stop hg).2⟩⟩
theorem Adv3.step (A : Adv3 tn n ps S S' gr Cl) (sh : S2.Shape tn n) (up : ∀ k x, B2 S'.fo k x → B2 S2.fo k x) (snd : S'.Sound tn ps → S2.Sound tn ps) (c : S2.msr ≤ S'.msr ∧ (g2 = true → S2.msr < S'.msr)) (st : g2 = false → S2 = S' ∧ Cl2 S') :
    Adv3 tn n ps S S2 (if g2 = true then true else gr) (fun s => Cl s ∧ Cl2 s) := by
  have hc := A.cnt
  refine ⟨sh, fun k x h => up k x (A.up k x h), fun h => snd (A.snd h), ⟨by omega, fun hg => ?_⟩, fun hg => ?_⟩
  · split at hg
    · rename_i h; have := c.2 h; omega
    · have := hc.2 hg; omega
  · split at hg
    · cases hg
    · rename_i h
      obtain ⟨s1, s2⟩ := A.stop hg
      obtain ⟨t1, t2⟩ := st (by simpa using h)
      exact ⟨t1.trans s1, s2, by rw [← s1]; exact t2⟩
theorem B2_set_up {f : List (List Bool)} {k m : Nat} {r ys : List Bool} (hr : f[k]? = some r) {k' x : Nat} (h1 : B2 f k' x) : B2 (f.set k (orT r ys m)) k' x := by
  have hgd : f.getD k [] = r := by rw [List.getD_eq_getElem?_getD, hr]; rfl
  unfold B2 at h1 ⊢
  rw [getD_setL]
  split
  · rename_i he
    rw [he.1, hgd] at h1
    have hxl : x < r.length := by
      rcases Nat.lt_or_ge x r.length with h | h
      · exact h
      · rw [getD_or h] at h1; cases h1
    rw [orT_getD r ys x hxl, h1, Bool.true_or]
  · exact h1
theorem B2_set_out {f : List (List Bool)} {k m : Nat} {r ys : List Bool} (hr : f[k]? = some r) {k' x : Nat} (hx : B2 (f.set k (orT r ys m)) k' x) : B2 f k' x ∨ (k' = k ∧ x < m ∧ ys.getD x false = true) := by
  have hgd : f.getD k [] = r := by rw [List.getD_eq_getElem?_getD, hr]; rfl
  unfold B2 at hx ⊢
  rw [getD_setL] at hx
  split at hx
  · rename_i he
    rcases orT_out hx with hx | ⟨hxm, hx⟩
    · exact .inl (by rw [he.1, hgd]; exact hx)
    · exact .inr ⟨he.1, hxm, hx⟩
  · exact .inl hx
theorem Rows.set {t n k : Nat} {f : List (List Bool)} {r : List Bool} (R : Rows t n f) (hr : r.length = t) : Rows t n (f.set k r) := ⟨by rw [List.length_set]; exact R.len, fun x hx => by
  rcases List.mem_or_eq_of_mem_set hx with hx | rfl
  · exact R.row x hx
  · exact hr⟩
/-- A nonterminal can be nothing. -/
theorem Adv3.nul {p : GProd} (A : Adv3 tn n ps S S' gr Cl) (hp : p ∈ ps) (hn : NullS (B1 S'.nu) p.right) (hl : S'.nu[p.left.toNat]? = some false) : Adv3 tn n ps S { S' with nu := S'.nu.set p.left.toNat true } true (fun _ => True) := by
  have h1 := cntF_set S'.nu p.left.toNat
  have h2 := h1.2 hl
  have := A.step (S2 := { S' with nu := S'.nu.set p.left.toNat true }) (g2 := true) (Cl2 := fun _ => True) ⟨by simp only; rw [List.length_set]; exact A.shape.nu, A.shape.fi, A.shape.fo⟩ (fun _ _ h => h) (fun hs N Fi Fo c1 c2 c3 => ?_) ⟨by unfold Tri.msr; simp only; omega, fun _ => by unfold Tri.msr; simp only; omega⟩ (fun h => by cases h)
  · exact this.weak fun h => by cases h
  · obtain ⟨x1, x2, x3⟩ := hs N Fi Fo c1 c2 c3
    refine ⟨fun k hk => ?_, x2, x3⟩
    simp only [B1] at hk
    rw [getD_set] at hk
    split at hk
    · rename_i he
      rw [he.1]
      exact c1 p hp (hn.mono x1)
    · exact x1 k hk
/-- More of what may begin. -/
theorem Adv3.fir {p : GProd} {r ys : List Bool} {m : Nat} (A : Adv3 tn n ps S S' gr Cl) (hp : p ∈ ps) (hr : S'.fi[p.left.toNat]? = some r) (hm : m ≤ tn) (hy : S'.Sound tn ps → ∀ x, x < m → ys.getD x false = true → ∀ N Fi Fo, ClosedN ps N → ClosedF tn ps N Fi → ClosedO tn ps N Fi Fo → RowP N Fi p.right x) :
    Adv3 tn n ps S { S' with fi := S'.fi.set p.left.toNat (orT r ys m) } (if grw r ys m = true then true else gr) (fun s => Cl s ∧ ∀ x, x < m → ys.getD x false = true → B2 s.fi p.left.toNat x) := by
  have hrl : r.length = tn := A.shape.fi.row r (List.mem_of_getElem? hr)
  have hgd : S'.fi.getD p.left.toNat [] = r := by rw [List.getD_eq_getElem?_getD, hr]; rfl
  have ht := totF_set S'.fi p.left.toNat (orT r ys m) r hr
  have hc := orT_cnt r ys m (by omega)
  refine A.step (S2 := { S' with fi := S'.fi.set p.left.toNat (orT r ys m) }) ⟨A.shape.nu, A.shape.fi.set (by rw [orT_len]; exact hrl), A.shape.fo⟩ (fun _ _ h => h) (fun hs N Fi Fo c1 c2 c3 => ?_) ⟨by unfold Tri.msr; simp only; omega, fun hg => by have := hc.2 hg; unfold Tri.msr; simp only; omega⟩ (fun hg => ?_)
  · obtain ⟨x1, x2, x3⟩ := hs N Fi Fo c1 c2 c3
    refine ⟨x1, fun k x hx => ?_, x3⟩
    rcases B2_set_out hr hx with hx | ⟨rfl, hxm, hx⟩
    · exact x2 k x hx
    · exact c2 p hp x (by omega) (hy hs x hxm hx N Fi Fo c1 c2 c3)
  · obtain ⟨g1, g2⟩ := grw_stop m hg
    refine ⟨by rw [g1, set_sameL hr], fun x hx hyx => ?_⟩
    unfold B2
    rw [hgd]
    exact g2 x hx hyx
/-- More of what may follow. -/
theorem Adv3.fol {k m : Nat} {r ys : List Bool} (A : Adv3 tn n ps S S' gr Cl) (hr : S'.fo[k]? = some r) (hm : m ≤ tn + 1) (hy : S'.Sound tn ps → ∀ x, x < m → ys.getD x false = true → ∀ N Fi Fo, ClosedN ps N → ClosedF tn ps N Fi → ClosedO tn ps N Fi Fo → Fo k x) :
    Adv3 tn n ps S { S' with fo := S'.fo.set k (orT r ys m) } (if grw r ys m = true then true else gr) (fun s => Cl s ∧ ∀ x, x < m → ys.getD x false = true → B2 s.fo k x) := by
  have hrl : r.length = tn + 1 := A.shape.fo.row r (List.mem_of_getElem? hr)
  have hgd : S'.fo.getD k [] = r := by rw [List.getD_eq_getElem?_getD, hr]; rfl
  have ht := totF_set S'.fo k (orT r ys m) r hr
  have hc := orT_cnt r ys m (by omega)
  refine A.step (S2 := { S' with fo := S'.fo.set k (orT r ys m) }) ⟨A.shape.nu, A.shape.fi, A.shape.fo.set (by rw [orT_len]; exact hrl)⟩ (fun k' x h => B2_set_up hr h) (fun hs N Fi Fo c1 c2 c3 => ?_) ⟨by unfold Tri.msr; simp only; omega, fun hg => by have := hc.2 hg; unfold Tri.msr; simp only; omega⟩ (fun hg => ?_)
  · obtain ⟨x1, x2, x3⟩ := hs N Fi Fo c1 c2 c3
    refine ⟨x1, x2, fun k' x hx => ?_⟩
    rcases B2_set_out hr hx with hx | ⟨rfl, hxm, hx⟩
    · exact x3 k' x hx
    · exact hy hs x hxm hx N Fi Fo c1 c2 c3
  · obtain ⟨g1, g2⟩ := grw_stop m hg
    refine ⟨by rw [g1, set_sameL hr], fun x hx hyx => ?_⟩
    unfold B2
    rw [hgd]
    exact g2 x hx hyx
end
theorem RowP.beg {tn x : Nat} {ps : List GProd} {S : Tri} {rs : List GSym} (hs : S.Sound tn ps) (hx : x < tn) (h : (begL tn S.nu S.fi rs).1.getD x false = true) {N : Nat → Prop} {Fi Fo : Nat → Nat → Prop} (c1 : ClosedN ps N) (c2 : ClosedF tn ps N Fi) (c3 : ClosedO tn ps N Fi Fo) : RowP N Fi rs x := by
  obtain ⟨x1, x2, _⟩ := hs N Fi Fo c1 c2 c3
  exact ((begL_row hx).1 h).mono x1 fun k hk => x2 k x hk
/-- What may stand behind a place, by the sets as they are. -/
def behY (tn : Nat) (f : List Bool) (nl : Bool) (L : List Bool) : List Bool := (List.range (tn + 1)).map fun t => f.getD t false || (nl && L.getD t false)
theorem behY_at {tn t : Nat} {f L : List Bool} {nl : Bool} (ht : t < tn + 1) : (behY tn f nl L).getD t false = (f.getD t false || (nl && L.getD t false)) := by
  rw [behY, List.getD_eq_getElem?_getD, List.getElem?_map, List.getElem?_range ht]; rfl
section
variable {tn n : Nat} {ps : List GProd} {S S' S2 : Tri} {gr g2 : Bool} {Cl Cl' Cl2 : Tri → Prop} {p : GProd} {s : GSym} {j : Nat}
theorem Adv3.tok (A : Adv3 tn n ps S S' gr Cl) (hj : p.right[j]? = some s) (ht : s.tok = true) : Adv3 tn n ps S S' gr (fun s => Cl s ∧ OkPos tn (B1 s.nu) (B2 s.fi) (B2 s.fo) p j) :=
  A.weak fun _ _ h => ⟨h, fun s' hs' ht' => by rw [hj] at hs'; cases hs'; rw [ht] at ht'; cases ht'⟩
theorem Adv3.beh {r L : List Bool} (A : Adv3 tn n ps S S' gr Cl) (hp : p ∈ ps) (hj : p.right[j]? = some s) (ht : s.tok = false) (hr : S'.fo[s.at_.toNat]? = some r) (hL : S'.fo[p.left.toNat]? = some L) :
    Adv3 tn n ps S { S' with fo := S'.fo.set s.at_.toNat (orT r (behY tn (begL tn S'.nu S'.fi (p.right.drop (j + 1))).1 (begL tn S'.nu S'.fi (p.right.drop (j + 1))).2 L) (tn + 1)) } (if grw r (behY tn (begL tn S'.nu S'.fi (p.right.drop (j + 1))).1 (begL tn S'.nu S'.fi (p.right.drop (j + 1))).2 L) (tn + 1) = true then true else gr)
      (fun s => Cl s ∧ OkPos tn (B1 s.nu) (B2 s.fi) (B2 s.fo) p j) := by
  have hgd : S'.fo.getD p.left.toNat [] = L := by rw [List.getD_eq_getElem?_getD, hL]; rfl
  have hbl := begL_len tn S'.nu S'.fi (p.right.drop (j + 1))
  have A2 := A.fol (k := s.at_.toNat) (m := tn + 1) (ys := behY tn (begL tn S'.nu S'.fi (p.right.drop (j + 1))).1 (begL tn S'.nu S'.fi (p.right.drop (j + 1))).2 L) hr (Nat.le_refl _) (fun hs x hx hyx N Fi Fo c1 c2 c3 => by
    rw [behY_at hx, Bool.or_eq_true, Bool.and_eq_true] at hyx
    obtain ⟨y1, y2⟩ := c3.2 p hp j s hj ht
    obtain ⟨x1, x2, x3⟩ := hs N Fi Fo c1 c2 c3
    rcases hyx with h | ⟨h1, h2⟩
    · have hxt : x < tn := by
        rcases Nat.lt_or_ge x tn with h3 | h3
        · exact h3
        · rw [getD_or (by omega)] at h; cases h
      exact y1 x hxt (RowP.beg hs hxt h c1 c2 c3)
    · exact y2 ((begL_null.1 h1).mono x1) x (by omega) (x3 _ x (by unfold B2; rw [hgd]; exact h2)))
  refine A2.weak fun hg hS h => ⟨h.1, fun s' hs' ht' => ?_⟩
  rw [hj] at hs'; cases hs'
  have hS2 : S' = S := by
    split at hg
    · cases hg
    · exact (A.stop hg).1
  rw [hS2] at h hgd
  refine ⟨fun x hx hrp => h.2 x (by omega) ?_, fun hnn x hx hl => h.2 x (by omega) ?_⟩
  · rw [behY_at (by omega), (begL_row hx).2 hrp, Bool.true_or]
  · unfold B2 at hl
    rw [hgd] at hl
    rw [behY_at (by omega), begL_null.2 hnn, hl, Bool.true_and, Bool.or_true]
end

theorem list_ext_B1 {n : Nat} {xs ys : List Bool} (hx : xs.length = n) (hy : ys.length = n) (h : ∀ k, xs.getD k false = true ↔ ys.getD k false = true) : xs = ys := by
  refine List.ext_getElem (by omega) fun i h1 h2 => ?_
  have := h i
  rw [List.getD_eq_getElem?_getD, List.getD_eq_getElem?_getD, List.getElem?_eq_getElem h1, List.getElem?_eq_getElem h2, Option.getD_some, Option.getD_some] at this
  exact Bool.eq_iff_iff.2 this
theorem list_ext_B2 {t n : Nat} {f f' : List (List Bool)} (R : Rows t n f) (R' : Rows t n f') (h : ∀ k x, B2 f k x ↔ B2 f' k x) : f = f' := by
  refine List.ext_getElem (by rw [R.len, R'.len]) fun i h1 h2 => ?_
  refine list_ext_B1 (R.row _ (List.getElem_mem h1)) (R'.row _ (List.getElem_mem h2)) fun x => ?_
  have := h i x
  unfold B2 at this
  rw [List.getD_eq_getElem?_getD (l := f), List.getD_eq_getElem?_getD (l := f'), List.getElem?_eq_getElem h1, List.getElem?_eq_getElem h2, Option.getD_some, Option.getD_some] at this
  exact this
theorem FolOk.unique {g : Gm} {fo fo' : List (List Bool)} (F : FolOk g fo) (F' : FolOk g fo') : fo = fo' := list_ext_B2 F.rows F'.rows fun k x => ⟨F.least _ F'.closed k x, F'.least _ F.closed k x⟩
/-- Where nothing comes any more the sets are the least ones. -/
theorem Tri.done {g : Gm} {S : Tri} (M : MayG g) (sh : S.Shape g.toks.length g.nts.length) (hs : S.Sound g.toks.length g.prods) (h0 : B2 S.fo 0 g.toks.length)
    (c1 : ClosedN g.prods (B1 S.nu)) (c2 : ClosedF g.toks.length g.prods (B1 S.nu) (B2 S.fi)) (c3 : ∀ p ∈ g.prods, ∀ j, OkPos g.toks.length (B1 S.nu) (B2 S.fi) (B2 S.fo) p j) :
    S.nu = nulL g.nts.length g.prods ∧ S.fi = firL g.toks.length g.nts.length g.prods ∧ FolOk g S.fo := by
  have hl := M.left
  have hN := nulL_ok hl
  have hF := firL_ok (t := g.toks.length) hl
  have tO : ∀ N Fi, ClosedO g.toks.length g.prods N Fi (fun _ _ => True) := fun N Fi => ⟨trivial, fun p _ j s _ _ => ⟨fun _ _ _ => trivial, fun _ _ _ _ => trivial⟩⟩
  have e1 : S.nu = nulL g.nts.length g.prods := list_ext_B1 sh.nu (nulL_len _ _) fun k => ⟨(hs _ (fun _ _ => True) (fun _ _ => True) hN.1 (fun _ _ _ _ _ => trivial) (tO _ _)).1 k, hN.2 _ c1 k⟩
  have e2 : S.fi = firL g.toks.length g.nts.length g.prods := list_ext_B2 sh.fi (firL_rows M) fun k x => ⟨(hs _ _ (fun _ _ => True) hN.1 hF.1 (tO _ _)).2.1 k x, hF.2 _ (by rw [← e1]; exact c2) k x⟩
  rw [e1, e2] at c3
  exact ⟨e1, e2, sh.fo, ⟨h0, c3⟩, fun Fo hFo k x hx => (hs _ _ Fo hN.1 hF.1 hFo).2.2 k x hx⟩

end Go.Proofs.Ytaockkmmjinhpaa

/-
  The document's sets: a row.
-/
namespace Go.Proofs.Ytaockkmmjinhpaa
open Go Go.Am
set_option maxRecDepth 100000
set_option maxHeartbeats 4000000
set_option linter.unusedSimpArgs false
set_option linter.unusedVariables false

/-- Sets, each in a block of its own; the list of them is frozen. -/
structure TbL (h : Heap) (v : AV) (m : Nat) (bl : List Nat) (rows : List (List Bool)) : Prop where
  lst : Lst h v (bl.map fun b => (⟨[rowV m b]⟩ : Opq 1))
  len : bl.length = rows.length
  row : ∀ (i b : Nat) (r : List Bool), bl[i]? = some b → rows[i]? = some r → r.length = m ∧ Bits h b (rowV m b) r
  nd : bl.Nodup
theorem TbL.upd {h h' : Heap} {v : AV} {m : Nat} {bl : List Nat} {rows : List (List Bool)} {S : Nat → Prop} (t : TbL h v m bl rows) (u : Upd S h h') (hb : ∀ b ∈ bl, ¬ S b) : TbL h' v m bl rows :=
  ⟨t.lst.pst u.pst, t.len, fun i b r h1 h2 => ⟨(t.row i b r h1 h2).1, (t.row i b r h1 h2).2.upd u (hb b (List.mem_of_getElem? h1))⟩, t.nd⟩
theorem TbL.ext {h h' : Heap} {v : AV} {m : Nat} {bl : List Nat} {rows : List (List Bool)} (t : TbL h v m bl rows) (e : Ext h h') : TbL h' v m bl rows := t.upd (e.upd fun _ => False) fun _ _ f => f
theorem TbL.lt {h : Heap} {v : AV} {m : Nat} {bl : List Nat} {rows : List (List Bool)} (t : TbL h v m bl rows) : ∀ b ∈ bl, b < h.nxt := fun b hb => by
  obtain ⟨i, hi, rfl⟩ := List.getElem_of_mem hb
  have hl := t.len
  exact (t.row i bl[i] rows[i] (List.getElem?_eq_getElem hi) (List.getElem?_eq_getElem (by omega))).2.2.1
theorem TbL.write {h h' : Heap} {v : AV} {m k : Nat} {bl : List Nat} {rows : List (List Bool)} {b : Nat} {r : List Bool} (t : TbL h v m bl rows) (hb : bl[k]? = some b) (u : Upd (· = b) h h') (hr : r.length = m) (B : Bits h' b (rowV m b) r) : TbL h' v m bl (rows.set k r) := by
  refine ⟨t.lst.pst u.pst, by rw [List.length_set]; exact t.len, fun i c x h1 h2 => ?_, t.nd⟩
  rw [List.getElem?_set] at h2
  by_cases e : k = i
  · subst e
    rw [hb] at h1
    cases h1
    rw [if_pos rfl] at h2
    split at h2
    · cases h2; exact ⟨hr, B⟩
    · cases h2
  · rw [if_neg e] at h2
    obtain ⟨x1, x2⟩ := t.row i c x h1 h2
    refine ⟨x1, x2.upd u fun hcb => e ?_⟩
    obtain ⟨k1, k2⟩ := List.getElem?_eq_some_iff.1 hb
    obtain ⟨i1, i2⟩ := List.getElem?_eq_some_iff.1 h1
    exact (List.getElem_inj t.nd).1 (k2.trans (hcb.symm.trans i2.symm))
theorem TbL.at_ {h : Heap} {m k : Nat} {bl : List Nat} {rows : List (List Bool)} {fa : Option (Nat × Nat)} {fn fz : Nat} {fc : Option Nat} (t : TbL h (.slc fa fn fc fz) m bl rows) (hk : k < rows.length) : ∃ b1 o1 cs1 kb row, fa = some (b1, o1) ∧ fz = 1 ∧ (k : Int) < (fn : Int) ∧ b1 < h.nxt ∧ h.get b1 = some (.cells cs1 false) ∧ cs1[o1 + k * 1]? = some (.slc (some (kb, 0)) m (some m) 1) ∧
    bl[k]? = some kb ∧ rows[k]? = some row ∧ row.length = m ∧ Bits h kb (.slc (some (kb, 0)) m (some m) 1) row := by
  have hkb : k < bl.length := by rw [t.len]; exact hk
  obtain ⟨fa', fn', fc', fz', e, hfn⟩ := t.lst.form
  simp only [AV.slc.injEq] at e
  obtain ⟨_, rfl, _, _⟩ := e
  rw [List.length_map] at hfn
  obtain ⟨b1, o1, cs1, l1, rfl, rfl, hb1, hg1, ⟨rfl, _⟩, hr1, ht1, hc1⟩ := t.lst.at_ (i := k) (x := ⟨[rowV m bl[k]]⟩) (by rw [List.getElem?_map, List.getElem?_eq_getElem hkb]; rfl) (k := 1) rfl
  obtain ⟨q1, q2⟩ := t.row k bl[k] rows[k] (List.getElem?_eq_getElem hkb) (List.getElem?_eq_getElem hk)
  exact ⟨b1, o1, cs1, bl[k], rows[k], rfl, rfl, by omega, hb1, hg1, hc1 0 (by decide), List.getElem?_eq_getElem hkb, List.getElem?_eq_getElem hk, q1, q2⟩
theorem orT_succ_set {xs ys : List Bool} {t : Nat} (ht : t < xs.length) : (orT xs ys t).set t ((orT xs ys t).getD t false || ys.getD t false) = orT xs ys (t + 1) := by
  rw [orT]
  cases hy : ys.getD t false with
  | true => rw [Bool.or_true, if_pos rfl]
  | false =>
    rw [Bool.or_false, if_neg (by simp)]
    refine List.ext_getElem? fun i => ?_
    rw [List.getElem?_set]
    by_cases e : t = i
    · subst e
      rw [if_pos rfl, if_pos (by rw [orT_len]; exact ht), List.getD_eq_getElem?_getD, List.getElem?_eq_getElem (by rw [orT_len]; exact ht)]; rfl
    · rw [if_neg e]

theorem RRow_uf {h : Heap} {nb : Nat} {tv nv pv fv ov rv : AV} {bl : List Nat} {g : Gm} {nu : List Bool} {fi : List (List Bool)} {rs : List GSym} (lt : Lst h tv g.toks) (sn : Lst h nv g.nts) (sp : Lst h pv g.prods)
    (B : Bits h nb (.slc (some (nb, 0)) nu.length (some nu.length) 1) nu) (tb : TbL h fv g.toks.length bl fi) (ho : ∃ a n c z, ov = .slc a n c z) (sr : Lst h rv rs) (hu : nu.length = g.nts.length) (hrow : fi.length = g.nts.length) (hs : ∀ s ∈ rs, SymOk g.toks.length g.nts.length s) (hr : rs.length ≤ 100) (M : MayG g) :
    UF T F 42 [.agg [.slc (some (nb, 0)) nu.length (some nu.length) 1, fv, ov], .agg [tv, nv, pv], rv] h fun v' h' => Ext h h' ∧ ∃ w, v' = .tup [w, .bool (begL g.toks.length nu fi rs).2] ∧ Lst h' w (begL g.toks.length nu fi rs).1 := by
  obtain ⟨ta, tn, tc, tz, rfl, htn⟩ := lt.form
  obtain ⟨na, nn, nc, nz, rfl, hnn⟩ := sn.form
  obtain ⟨pa, pn, pc, pz, rfl, hpn⟩ := sp.form
  obtain ⟨ra, rn, rc, rz, rfl, hrn⟩ := sr.form
  obtain ⟨fa, fn, fc, fz, rfl, _⟩ := tb.lst.form
  obtain ⟨oa, on, oc, oz, rfl⟩ := ho
  have hnl := M.nl
  have htl := M.tl
  rw [← htn] at tb hs ⊢
  obtain ⟨un, hun⟩ : ∃ un, un = nu.length := ⟨_, rfl⟩
  rw [← hun] at B ⊢
  have hnb := B.2.1
  refine UF.genq fun Q hQ => UF.of (F_42) (c := _) rfl ?_
  unfold Try.f42
  simp only [List.length, Nat.reduceSub, Nat.reduceAdd, List.replicate, List.cons_append, List.nil_append]
  simp (disch := omega) only [go_sem, seval]
  have e0 : Ext h ((h.add (.cells [.slc (some (nb, 0)) un (some un) 1, .slc fa fn fc fz, .slc oa on oc oz] true)).add (.cells [.slc ta tn tc tz, .slc na nn nc nz, .slc pa pn pc pz] true)) := (Ext.add _ _).trans (Ext.add _ _)
  have g0' : ((h.add (.cells [.slc (some (nb, 0)) un (some un) 1, .slc fa fn fc fz, .slc oa on oc oz] true)).add (.cells [.slc ta tn tc tz, .slc na nn nc nz, .slc pa pn pc pz] true)).get h.nxt = some (.cells [.slc (some (nb, 0)) un (some un) 1, .slc fa fn fc fz, .slc oa on oc oz] true) := by rw [get_add_lt (by simp), get_add_self]
  have gt' : ((h.add (.cells [.slc (some (nb, 0)) un (some un) 1, .slc fa fn fc fz, .slc oa on oc oz] true)).add (.cells [.slc ta tn tc tz, .slc na nn nc nz, .slc pa pn pc pz] true)).get (h.nxt + 1) = some (.cells [.slc ta tn tc tz, .slc na nn nc nz, .slc pa pn pc pz] true) := by
    have := get_add_self (h := h.add (.cells [.slc (some (nb, 0)) un (some un) 1, .slc fa fn fc fz, .slc oa on oc oz] true)) (x := .cells [.slc ta tn tc tz, .slc na nn nc nz, .slc pa pn pc pz] true)
    rwa [Heap.add_nxt] at this
  have n0 : ((h.add (.cells [.slc (some (nb, 0)) un (some un) 1, .slc fa fn fc fz, .slc oa on oc oz] true)).add (.cells [.slc ta tn tc tz, .slc na nn nc nz, .slc pa pn pc pz] true)).nxt = h.nxt + 2 := by simp
  generalize ((h.add (.cells [.slc (some (nb, 0)) un (some un) 1, .slc fa fn fc fz, .slc oa on oc oz] true)).add (.cells [.slc ta tn tc tz, .slc na nn nc nz, .slc pa pn pc pz] true)) = h0 at *
  simp (disch := omega) only [go_sem, seval, gt']
  refine mk_bits T_73 (by omega) ?_
  have e1 := e0.trans (Ext.add h0 (.cells ((List.replicate tn false).map AV.bool) true))
  have g0 : (h0.add (.cells ((List.replicate tn false).map AV.bool) true)).get h.nxt = some (.cells [.slc (some (nb, 0)) un (some un) 1, .slc fa fn fc fz, .slc oa on oc oz] true) := (get_add_lt (by omega)).trans g0'
  have B0 := bits_new (h := h0) (n := tn)
  have n1 : (h0.add (.cells ((List.replicate tn false).map AV.bool) true)).nxt = h.nxt + 3 := by simp [n0]
  rw [n0] at B0 ⊢
  simp (disch := omega) only [go_sem, seval]
  generalize (h0.add (.cells ((List.replicate tn false).map AV.bool) true)) = h1 at *
  have hbl := tb.lt
  refine LoopU_while (fun m st hh => ∃ (i : Nat) (zs : List Bool), i ≤ rs.length ∧ m = rs.length - i ∧ Upd (· = h.nxt + 2) h1 hh ∧ Bits hh (h.nxt + 2) (.slc (some (h.nxt + 2, 0)) tn (some tn) 1) zs ∧ zs.length = tn ∧ begL tn nu fi rs = begF nu fi (rs.drop i) zs ∧
      Keep st 66 [(2, .slc ra rn rc rz), (3, .ptr (some (h.nxt, 0))), (8, .slc (some (h.nxt + 2, 0)) tn (some tn) 1), (9, .int .i64 (i : Nat))]) rs.length
    ⟨0, _, by omega, by omega, Upd.refl _ _, B0, by simp, rfl, rfl, by simp [Has]⟩ ?_
  rintro m st hh ⟨i, zs, hi, rfl, u, Bz, hzl, hbg, hk⟩
  rw [hk.eq]
  obtain ⟨k2, k3, k8, k9, -⟩ := hk.2
  simp only [slotsFrom, Nat.reduceAdd] at k2 k3 k8 k9 ⊢
  simp only [k2, k3, k8, k9]
  have hnh := u.nxt
  have gh := (u.get h.nxt (by omega) (by omega)).trans g0
  by_cases hlt : (i : Int) < (rn : Int)
  · have hil : i < rs.length := by omega
    obtain ⟨b1, o1, cs1, l1, rfl, rfl, hb1, hg1, rfl, hr1, ht1, hc1⟩ := ((sr.ext e1).pst u.pst).at_ (i := i) (x := rs[i]) (List.getElem?_eq_getElem hil) (k := 2) rfl
    obtain ⟨s0, s1, s2⟩ := hs rs[i] (List.getElem_mem hil)
    rw [List.drop_eq_getElem_cons hil, begF] at hbg
    generalize rs[i] = s at *
    obtain ⟨k, hk0⟩ : ∃ k : Nat, s.at_ = k := ⟨s.at_.toNat, by omega⟩
    rw [hk0] at ht1 s1 s2 hbg
    rw [Int.toNat_natCast] at hbg
    have e2 : Ext hh ((hh.add (.cells [.bool false, .int .i64 0] true)).put hh.nxt (.cells [.bool s.tok, .int .i64 (k : Nat)] true)) := (Ext.add _ _).put (Nat.le_refl _)
    have g2 : ((hh.add (.cells [.bool false, .int .i64 0] true)).put hh.nxt (.cells [.bool s.tok, .int .i64 (k : Nat)] true)).get hh.nxt = some (.cells [.bool s.tok, .int .i64 (k : Nat)] true) := get_put_self
    have gh2 := (e2.get h.nxt (by omega)).trans gh
    simp (disch := omega) only [go_sem, seval, hlt, hg1, hr1, ht1, g2, Int.toNat_natCast]
    have u2 : Upd (· = h.nxt + 2) h1 ((hh.add (.cells [.bool false, .int .i64 0] true)).put hh.nxt (.cells [.bool s.tok, .int .i64 (k : Nat)] true)) := u.trans (e2.upd _)
    have B2 := Bz.ext e2
    have n2 : ((hh.add (.cells [.bool false, .int .i64 0] true)).put hh.nxt (.cells [.bool s.tok, .int .i64 (k : Nat)] true)).nxt = hh.nxt + 1 := by simp
    generalize ((hh.add (.cells [.bool false, .int .i64 0] true)).put hh.nxt (.cells [.bool s.tok, .int .i64 (k : Nat)] true)) = h2 at *
    cases htk : s.tok with
    | true =>
      rw [htk] at g2
      rw [htk, if_pos rfl] at hbg
      have q2 : (k : Int) < (tn : Int) := by have := s1 htk; omega
      have gB := B2.2.2
      have hroom : k * 1 + 1 ≤ (zs.map AV.bool).length := by simp; omega
      simp (disch := omega) only [go_sem, seval, g2, gh2, q2, gB, hroom, Int.toNat_natCast]
      have B3 := B2.set k true
      rw [Nat.mul_one]
      have u3 : Upd (· = h.nxt + 2) h2 (h2.put (h.nxt + 2) (.cells ((zs.map AV.bool).set k (.bool true)) true)) := Upd.put _ rfl fun cs e => by rw [gB] at e; simp at e
      obtain ⟨h9, l9, n9, L9, u9⟩ := B3.frz
      refine hQ _ _ h9 l9 ⟨((((e1.upd (h.nxt ≤ ·)).trans' u2 fun b e _ => by omega).trans' u3 fun b e _ => by omega).trans' u9 fun b e _ => by omega).ext fun b hb => by omega, _, by rw [hbg], by rw [hbg]; exact L9⟩
    | false =>
      rw [htk] at g2
      rw [htk, if_neg (by simp)] at hbg
      have hkn : k < fi.length := by have := s2 htk; omega
      have tb2 := (tb.ext e1).upd u2 fun b hb => by have := hbl b hb; omega
      obtain ⟨b5, o5, cs5, kb, row, rfl, rfl, q5, hb5, hg5, c5, hbk, hrow', hrl, Br⟩ := tb2.at_ hkn
      have hkb := hbl kb (List.mem_of_getElem? hbk)
      have hfi : fi.getD k [] = row := by rw [List.getD_eq_getElem?_getD, hrow']; rfl
      rw [hfi, hrl] at hbg
      have hn2 := u2.nxt
      simp (disch := omega) only [go_sem, seval, g2]
      refine LoopU_while (fun m st hx => ∃ (t : Nat), t ≤ tn ∧ m = tn - t ∧ Upd (· = h.nxt + 2) h2 hx ∧ Bits hx (h.nxt + 2) (.slc (some (h.nxt + 2, 0)) tn (some tn) 1) (orT zs row t) ∧
          Keep st 66 [(2, .slc (some (b1, o1)) rn rc 2), (3, .ptr (some (h.nxt, 0))), (8, .slc (some (h.nxt + 2, 0)) tn (some tn) 1), (9, .int .i64 (i : Nat)), (10, .ptr (some (hh.nxt, 0))), (11, .int .i64 (t : Nat))]) tn
        ⟨0, by omega, by omega, Upd.refl _ _, B2, rfl, by simp [Has]⟩ ?_
      clear hk k2 k3 k8 k9
      rintro m st hx ⟨t, ht, rfl, ux, Bx, hk⟩
      rw [hk.eq]
      obtain ⟨k2, k3, k8, k9, k10, k11, -⟩ := hk.2
      simp only [slotsFrom, Nat.reduceAdd] at k2 k3 k8 k9 k10 k11 ⊢
      simp only [k2, k3, k8, k9, k10, k11]
      have hnx := ux.nxt
      have g3 := (ux.get hh.nxt (by omega) (by omega)).trans g2
      have gx := (ux.get h.nxt (by omega) (by omega)).trans gh2
      have gB := Bx.2.2
      have hol := orT_len zs row t
      by_cases hltt : (t : Int) < (tn : Int)
      · have htl2 : t < tn := by omega
        have g5 := (ux.pst.frz _ _ hb5 hg5)
        have gR := (ux.get kb (by have := Br.2.1; omega) (by omega)).trans Br.2.2
        have cR : (row.map AV.bool)[t * 1]? = some (.bool (row.getD t false)) := by rw [Nat.mul_one, List.getElem?_map, List.getD_eq_getElem?_getD, List.getElem?_eq_getElem (by omega)]; rfl
        have cB : ((orT zs row t).map AV.bool)[t * 1]? = some (.bool ((orT zs row t).getD t false)) := by rw [Nat.mul_one, List.getElem?_map, List.getD_eq_getElem?_getD, List.getElem?_eq_getElem (by omega)]; rfl
        have hroom : t * 1 + 1 ≤ ((orT zs row t).map AV.bool).length := by simp; omega
        have hst := orT_succ_set (xs := zs) (ys := row) (t := t) (by omega)
        have uP : ∀ z, Upd (· = h.nxt + 2) hx (hx.put (h.nxt + 2) (.cells (((orT zs row t).map AV.bool).set t (.bool z)) true)) := fun z => Upd.put _ rfl fun cs e => by rw [gB] at e; simp at e
        have BP := fun z => Bx.set t z
        generalize (orT zs row t).getD t false = x at *
        generalize row.getD t false = y at *
        cases x with
        | true =>
          simp (disch := omega) only [go_sem, seval, hltt, gB, cB, hroom, Int.toNat_natCast]
          rw [Nat.mul_one]
          exact AgainK.mk (tn - (t + 1)) (by simp only; omega) ⟨t + 1, by omega, rfl, ux.trans (uP _), by rw [← hst]; exact BP _, rfl, by simp [Has]⟩
        | false =>
          simp (disch := omega) only [go_sem, seval, hltt, gB, cB, hroom, gx, g3, q5, g5, c5, gR, cR, Int.toNat_natCast]
          rw [Nat.mul_one]
          exact AgainK.mk (tn - (t + 1)) (by simp only; omega) ⟨t + 1, by omega, rfl, ux.trans (uP _), by rw [← hst]; exact BP _, rfl, by simp [Has]⟩
      · have hte : t = tn := by omega
        subst hte
        have Bn := ((B.ext e1).upd u2 (by omega)).upd ux (by omega)
        have gN := Bn.2.2
        have hkun : k < nu.length := by omega
        have cN : (nu.map AV.bool)[k * 1]? = some (.bool (nu.getD k false)) := by rw [Nat.mul_one, List.getElem?_map, List.getD_eq_getElem?_getD, List.getElem?_eq_getElem hkun]; rfl
        have q6 : (k : Int) < (un : Int) := by omega
        simp (disch := omega) only [go_sem, seval, hltt]
        cases hnk : nu.getD k false with
        | true =>
          rw [hnk] at cN
          rw [if_pos hnk] at hbg
          simp (disch := omega) only [go_sem, seval, hltt, gx, g3, q6, gN, cN, Int.toNat_natCast]
          exact AgainK.mk (rs.length - (i + 1)) (by simp only; omega) ⟨i + 1, _, by omega, rfl, u2.trans ux, Bx, by omega, hbg, rfl, by simp [Has]⟩
        | false =>
          rw [hnk] at cN
          rw [if_neg (by rw [hnk]; simp)] at hbg
          simp (disch := omega) only [go_sem, seval, hltt, gx, g3, q6, gN, cN, Int.toNat_natCast]
          obtain ⟨h9, l9, n9, L9, u9⟩ := Bx.frz
          refine hQ _ _ h9 l9 ⟨((((e1.upd (h.nxt ≤ ·)).trans' u2 fun b e _ => by omega).trans' ux fun b e _ => by omega).trans' u9 fun b e _ => by omega).ext fun b hb => by omega, _, by rw [hbg], by rw [hbg]; exact L9⟩
  · simp (disch := omega) only [go_sem, seval, hlt]
    have hie : i = rs.length := by omega
    subst hie
    rw [List.drop_length, begF] at hbg
    obtain ⟨h9, l9, n9, L9, u9⟩ := Bz.frz
    refine hQ _ _ h9 l9 ⟨(((e1.upd (h.nxt ≤ ·)).trans' u fun b e _ => by omega).trans' u9 fun b e _ => by omega).ext fun b hb => by omega, _, by rw [hbg], by rw [hbg]; exact L9⟩

end Go.Proofs.Ytaockkmmjinhpaa

/-
  The document's sets: what stands behind a place.
-/
namespace Go.Proofs.Ytaockkmmjinhpaa
open Go Go.Am
set_option maxRecDepth 100000
set_option maxHeartbeats 4000000
set_option linter.unusedSimpArgs false
set_option linter.unusedVariables false

theorem orT_at {xs ys : List Bool} {t : Nat} (ht : t < xs.length) : (orT xs ys t).getD t false = xs.getD t false := by
  rw [orT_getD xs ys t ht, show decide (t < t) = false by simp, Bool.false_and, Bool.or_false]
theorem orT_no {xs ys : List Bool} {t : Nat} (h : xs.getD t false = true ∨ ys.getD t false = false) (ht : t < xs.length) : orT xs ys (t + 1) = orT xs ys t ∧ grw xs ys (t + 1) = grw xs ys t := by
  rw [orT, grw]
  rcases h with h | h
  · refine ⟨?_, by rw [if_neg (by rw [orT_at ht, h]; simp)]⟩
    split
    · exact set_same (by rw [orT_at ht]; exact h)
    · rfl
  · rw [if_neg (by rw [h]; simp), if_neg (by rw [h]; simp)]
    exact ⟨rfl, rfl⟩
theorem orT_yes {xs ys : List Bool} {t : Nat} (ht : t < xs.length) (h : xs.getD t false = false) (h2 : ys.getD t false = true) : orT xs ys (t + 1) = (orT xs ys t).set t true ∧ grw xs ys (t + 1) = true := by
  rw [orT, grw, if_pos h2, if_pos ⟨h2, by rw [orT_at ht]; exact h⟩]
  exact ⟨rfl, rfl⟩

theorem behind_uf {h : Heap} {nb k : Nat} {tv nv pv fv ov rv xv : AV} {bl1 bl2 : List Nat} {g : Gm} {nu : List Bool} {fi fo : List (List Bool)} {p : GProd} {s : GSym} (lt : Lst h tv g.toks) (sn : Lst h nv g.nts) (sp : Lst h pv g.prods)
    (B : Bits h nb (.slc (some (nb, 0)) nu.length (some nu.length) 1) nu) (t1 : TbL h fv g.toks.length bl1 fi) (t2 : TbL h ov (g.toks.length + 1) bl2 fo) (sr : Lst h rv p.right) (hxv : ∃ a n c z, xv = .slc a n c z) (hu : nu.length = g.nts.length) (R1 : Rows g.toks.length g.nts.length fi) (R2 : Rows (g.toks.length + 1) g.nts.length fo)
    (hd : nb ∉ bl2 ∧ ∀ b ∈ bl1, b ∉ bl2) (hp : PrOk g.nts.length g.toks.length p) (hj : p.right[k]? = some s) (htk : s.tok = false) (M : MayG g) :
    UF T F 83 [.agg [.slc (some (nb, 0)) nu.length (some nu.length) 1, fv, ov], .agg [tv, nv, pv], .agg [.int .i64 p.left, rv, xv], .int .i64 (k : Nat)] h fun v' h' => Upd (· ∈ bl2) h h' ∧ ∃ r L, fo[s.at_.toNat]? = some r ∧ fo[p.left.toNat]? = some L ∧
      TbL h' ov (g.toks.length + 1) bl2 (fo.set s.at_.toNat (orT r (behY g.toks.length (begL g.toks.length nu fi (p.right.drop (k + 1))).1 (begL g.toks.length nu fi (p.right.drop (k + 1))).2 L) (g.toks.length + 1))) ∧
      v' = .bool (grw r (behY g.toks.length (begL g.toks.length nu fi (p.right.drop (k + 1))).1 (begL g.toks.length nu fi (p.right.drop (k + 1))).2 L) (g.toks.length + 1)) := by
  obtain ⟨ta, tn, tc, tz, rfl, htn⟩ := lt.form
  obtain ⟨na, nn, nc, nz, rfl, hnn⟩ := sn.form
  obtain ⟨pa, pn, pc, pz, rfl, hpn⟩ := sp.form
  obtain ⟨ra, rn, rc, rz, rfl, hrn⟩ := sr.form
  obtain ⟨fa, fn, fc, fz, rfl, _⟩ := t1.lst.form
  obtain ⟨oa, on, oc, oz, rfl, _⟩ := t2.lst.form
  obtain ⟨xa, xn, xc, xz, rfl⟩ := hxv
  have hnl := M.nl
  have htl := M.tl
  obtain ⟨⟨p1, p2⟩, p3, p4⟩ := hp
  obtain ⟨un, hun⟩ : ∃ un, un = nu.length := ⟨_, rfl⟩
  rw [← hun] at B ⊢
  have hnb := B.2.1
  obtain ⟨lf, hlf⟩ : ∃ lf : Nat, p.left = lf := ⟨p.left.toNat, by omega⟩
  have hkl : k < p.right.length := (List.getElem?_eq_some_iff.1 hj).1
  obtain ⟨y0, y1, y2⟩ := p4 s (List.mem_of_getElem? hj)
  obtain ⟨y, hy⟩ : ∃ y : Nat, s.at_ = y := ⟨s.at_.toNat, by omega⟩
  have hyn : y < fo.length := by rw [R2.len]; have := y2 htk; omega
  have hln : lf < fo.length := by rw [R2.len]; omega
  rw [hlf, hy, Int.toNat_natCast, Int.toNat_natCast]
  refine UF.gen fun Q hQ => UF.of (F_83) (c := _) rfl ?_
  unfold Try.f83
  simp only [List.length, Nat.reduceSub, Nat.reduceAdd, List.replicate, List.cons_append, List.nil_append]
  simp (disch := first | ((try simp only [heapN]) <;> omega) | fail) only [go_sem, seval]
  have e0 : Ext h (((h.add (.cells [.slc (some (nb, 0)) un (some un) 1, .slc fa fn fc fz, .slc oa on oc oz] true)).add (.cells [.slc ta tn tc tz, .slc na nn nc nz, .slc pa pn pc pz] true)).add (.cells [.int .i64 (lf : Nat), .slc ra rn rc rz, .slc xa xn xc xz] true)) := ((Ext.add _ _).trans (Ext.add _ _)).trans (Ext.add _ _)
  have gA : (((h.add (.cells [.slc (some (nb, 0)) un (some un) 1, .slc fa fn fc fz, .slc oa on oc oz] true)).add (.cells [.slc ta tn tc tz, .slc na nn nc nz, .slc pa pn pc pz] true)).add (.cells [.int .i64 (lf : Nat), .slc ra rn rc rz, .slc xa xn xc xz] true)).get h.nxt = some (.cells [.slc (some (nb, 0)) un (some un) 1, .slc fa fn fc fz, .slc oa on oc oz] true) := by rw [get_add_lt (by simp; omega), get_add_lt (by simp), get_add_self]
  have gB : (((h.add (.cells [.slc (some (nb, 0)) un (some un) 1, .slc fa fn fc fz, .slc oa on oc oz] true)).add (.cells [.slc ta tn tc tz, .slc na nn nc nz, .slc pa pn pc pz] true)).add (.cells [.int .i64 (lf : Nat), .slc ra rn rc rz, .slc xa xn xc xz] true)).get (h.nxt + 1) = some (.cells [.slc ta tn tc tz, .slc na nn nc nz, .slc pa pn pc pz] true) := by
    rw [get_add_lt (by simp)]
    have := get_add_self (h := h.add (.cells [.slc (some (nb, 0)) un (some un) 1, .slc fa fn fc fz, .slc oa on oc oz] true)) (x := .cells [.slc ta tn tc tz, .slc na nn nc nz, .slc pa pn pc pz] true)
    rwa [Heap.add_nxt] at this
  have gC : (((h.add (.cells [.slc (some (nb, 0)) un (some un) 1, .slc fa fn fc fz, .slc oa on oc oz] true)).add (.cells [.slc ta tn tc tz, .slc na nn nc nz, .slc pa pn pc pz] true)).add (.cells [.int .i64 (lf : Nat), .slc ra rn rc rz, .slc xa xn xc xz] true)).get (h.nxt + 2) = some (.cells [.int .i64 (lf : Nat), .slc ra rn rc rz, .slc xa xn xc xz] true) := by
    have := get_add_self (h := (h.add (.cells [.slc (some (nb, 0)) un (some un) 1, .slc fa fn fc fz, .slc oa on oc oz] true)).add (.cells [.slc ta tn tc tz, .slc na nn nc nz, .slc pa pn pc pz] true)) (x := .cells [.int .i64 (lf : Nat), .slc ra rn rc rz, .slc xa xn xc xz] true)
    rwa [Heap.add_nxt, Heap.add_nxt] at this
  have n0 : (((h.add (.cells [.slc (some (nb, 0)) un (some un) 1, .slc fa fn fc fz, .slc oa on oc oz] true)).add (.cells [.slc ta tn tc tz, .slc na nn nc nz, .slc pa pn pc pz] true)).add (.cells [.int .i64 (lf : Nat), .slc ra rn rc rz, .slc xa xn xc xz] true)).nxt = h.nxt + 3 := by simp
  generalize (((h.add (.cells [.slc (some (nb, 0)) un (some un) 1, .slc fa fn fc fz, .slc oa on oc oz] true)).add (.cells [.slc ta tn tc tz, .slc na nn nc nz, .slc pa pn pc pz] true)).add (.cells [.int .i64 (lf : Nat), .slc ra rn rc rz, .slc xa xn xc xz] true)) = h1 at *
  refine DrawU_of' (fun b => b = h.nxt ∨ b = h.nxt + 1 ∨ b = h.nxt + 2) [0, 0, 0, 4, 0, 16, 60, 127, 255, 511, 511, 1023, 4095] (by rfl) (by rfl) (fun b hb => by rcases hb with rfl | rfl | rfl <;> omega) ?_
  simp (disch := first | ((try simp only [heapN]) <;> omega) | fail) only [go_sem, seval]
  refine LoadK_ofU rfl (.inl rfl) ?_
  simp (disch := first | ((try simp only [heapN]) <;> omega) | fail) only [go_sem, seval, gA]
  refine LoadK_ofU rfl (.inr (.inl rfl)) ?_
  simp (disch := first | ((try simp only [heapN]) <;> omega) | fail) only [go_sem, seval, gB]
  refine LoadK_ofU rfl (.inr (.inr rfl)) ?_
  simp (disch := first | ((try simp only [heapN]) <;> omega) | fail) only [go_sem, seval, gC]
  refine lst_lo (i := k + 1) T_60 rfl T_66 rfl ((sr.ext e0).ext (Ext.bump _ _)) (by omega) ?_
  intro rv2 Lr
  have e01 := fun n => e0.trans (Ext.bump h1 n)
  simp (disch := first | ((try simp only [heapN]) <;> omega) | fail) only [go_sem, seval]
  rw [hun] at B ⊢
  refine callV_ofU F_42 rfl ((RRow_uf (lt.ext (e01 _)) (sn.ext (e01 _)) (sp.ext (e01 _)) (B.ext (e01 _)) (t1.ext (e01 _)) ⟨_, _, _, _, rfl⟩ Lr hu R1.len (fun s hs => p4 s (List.mem_of_mem_drop hs)) (by rw [List.length_drop]; omega) M).mono ?_)
  rintro v2 h2 ⟨e2, w, rfl, L2⟩
  rw [← hun] at B ⊢
  have e02 := (e01 _).trans e2
  have e12 := (Ext.bump h1 _).trans e2
  have hn2 := e12.nxt
  refine ⟨fun b hb => e12.get b (by rcases hb with rfl | rfl | rfl <;> omega), ?_⟩
  have gA2 := (e12.get _ (by omega)).trans gA
  have gB2 := (e12.get _ (by omega)).trans gB
  have gC2 := (e12.get _ (by omega)).trans gC
  obtain ⟨b3, o3, cs3, l3, rfl, rfl, hb3, hg3, rfl, hr3, ht3, hc3⟩ := (sr.ext e02).at_ (i := k) (x := s) hj (k := 2) rfl
  have c3 : cs3[o3 + k * 2 + 1]? = some (.int .i64 (y : Nat)) := by have := hc3 1 (by decide); rw [← hy]; simpa using this
  obtain ⟨b4, o4, cs4, yb, r, rfl, rfl, q4, hb4, hg4, c4, hyb, hrr, hrl, Br⟩ := (t2.ext e02).at_ hyn
  obtain ⟨b5, o5, cs5, lb, L, e5', _, q5, hb5, hg5, c5, hlb, hLL, hLl, BL⟩ := (t2.ext e02).at_ hln
  simp only [Option.some.injEq, Prod.mk.injEq] at e5'
  obtain ⟨rfl, rfl⟩ := e5'
  rw [hg4] at hg5
  simp only [Option.some.injEq, Blk.cells.injEq, and_true] at hg5
  subst hg5
  obtain ⟨wa, wn, wc, wz, rfl, hwn⟩ := L2.form
  have hbl3 := begL_len g.toks.length nu fi (p.right.drop (k + 1))
  obtain ⟨f, hf⟩ : ∃ f, f = (begL g.toks.length nu fi (p.right.drop (k + 1))).1 := ⟨_, rfl⟩
  obtain ⟨nl, hnl'⟩ : ∃ nl, nl = (begL g.toks.length nu fi (p.right.drop (k + 1))).2 := ⟨_, rfl⟩
  rw [← hf] at L2 hwn hbl3 hQ
  rw [← hnl'] at hQ ⊢
  have q3 : (k : Int) < (rn : Int) := by omega
  simp (disch := first | ((try simp only [heapN]) <;> omega) | fail) only [go_sem, seval]
  refine DrawU_quiet (by rfl) ?_
  simp (disch := first | ((try simp only [heapN]) <;> omega) | fail) only [go_sem, seval, gA2, gC2, hg3, c3, q3, q4, hg4, c4, Int.toNat_natCast]
  obtain ⟨Y, hY⟩ : ∃ Y, Y = behY g.toks.length f nl L := ⟨_, rfl⟩
  have hyt := t2.lt yb (List.mem_of_getElem? hyb)
  have hlt' := t2.lt lb (List.mem_of_getElem? hlb)
  have e03 := e02.trans (Ext.bump h2 11)
  have e23 := Ext.bump h2 11
  have n3 : (h2.bump 11).nxt = h2.nxt + 11 := rfl
  have Br3 := Br.ext e23
  have BL3 := BL.ext e23
  have gA3 := (e23.get _ (by omega)).trans gA2
  have gC3 := (e23.get _ (by omega)).trans gC2
  have g43 := (e23.get _ (by omega)).trans hg4
  have T3 := (t2.ext e02).ext e23
  have L3 := L2.ext e23
  have hb43 : b4 < (h2.bump 11).nxt := by omega
  generalize h2.bump 11 = h3 at *
  refine LoopU_while (fun m st hx => ∃ (t : Nat), t ≤ g.toks.length + 1 ∧ m = g.toks.length + 1 - t ∧ Upd (· = yb) h3 hx ∧ Bits hx yb (.slc (some (yb, 0)) (g.toks.length + 1) (some (g.toks.length + 1)) 1) (orT r Y t) ∧
      Keep st 76 [(4, .ptr (some (h.nxt, 0))), (6, .ptr (some (h.nxt + 1 + 1, 0))), (9, .bool (grw r Y t)), (10, .slc wa wn wc wz), (11, .bool nl), (12, .slc (some (yb, 0)) (g.toks.length + 1) (some (g.toks.length + 1)) 1), (13, .int .i64 (t : Nat))]) (g.toks.length + 1)
    ⟨0, by omega, by omega, Upd.refl _ _, Br3, rfl, by simp [Has, grw]⟩ ?_
  rintro m st hx ⟨t, ht, rfl, ux, Bx, hk⟩
  rw [hk.eq]
  obtain ⟨k4, k6, k9, k10, k11, k12, k13, -⟩ := hk.2
  simp only [slotsFrom, Nat.reduceAdd] at k4 k6 k9 k10 k11 k12 k13 ⊢
  simp only [k4, k6, k9, k10, k11, k12, k13]
  have hnx := ux.nxt
  by_cases hltt : (t : Int) < ((g.toks.length + 1 : Nat) : Int)
  · have htl2 : t < g.toks.length + 1 := by omega
    have gB := Bx.2.2
    have hol := orT_len r Y t
    have cB : ((orT r Y t).map AV.bool)[t * 1]? = some (.bool (r.getD t false)) := by rw [← orT_at (ys := Y) (by omega), Nat.mul_one, List.getElem?_map, List.getD_eq_getElem?_getD, List.getElem?_eq_getElem (by omega)]; rfl
    have hroom : t * 1 + 1 ≤ ((orT r Y t).map AV.bool).length := by simp; omega
    have gxA := (ux.get h.nxt (by omega) (by omega)).trans gA3
    have gxC := (ux.get (h.nxt + 1 + 1) (by omega) (by omega)).trans gC3
    have gx4 := ux.pst.frz _ _ hb43 g43
    obtain ⟨csL, gL, cL⟩ : ∃ cs, hx.get lb = some (.cells cs true) ∧ cs[t * 1]? = some (.bool (L.getD t false)) := by
      by_cases he : lb = yb
      · obtain ⟨i1, i2⟩ := List.getElem?_eq_some_iff.1 hlb
        obtain ⟨j1, j2⟩ := List.getElem?_eq_some_iff.1 hyb
        have hly : lf = y := (List.getElem_inj t2.nd).1 (i2.trans (he.trans j2.symm))
        rw [hly, hrr] at hLL
        cases hLL
        exact ⟨_, by rw [he]; exact gB, cB⟩
      · exact ⟨_, (ux.get lb BL3.2.1 he).trans BL3.2.2, by rw [Nat.mul_one, List.getElem?_map, List.getD_eq_getElem?_getD, List.getElem?_eq_getElem (by omega)]; rfl⟩
    have hYt : Y.getD t false = (f.getD t false || (nl && L.getD t false)) := by rw [hY]; exact behY_at htl2
    have uP : Upd (· = yb) hx (hx.put yb (.cells (((orT r Y t).map AV.bool).set t (.bool true)) true)) := Upd.put _ rfl fun cs e => by rw [gB] at e; simp at e
    have BP := Bx.set t true
    have no := orT_no (xs := r) (ys := Y) (t := t)
    have yes := orT_yes (xs := r) (ys := Y) (t := t) (by omega)
    have tno : (r.getD t false = true ∨ Y.getD t false = false) → Bits hx yb (.slc (some (yb, 0)) (g.toks.length + 1) (some (g.toks.length + 1)) 1) (orT r Y (t + 1)) ∧ grw r Y (t + 1) = grw r Y t := fun h => by
      obtain ⟨x1, x2⟩ := no h (by omega)
      rw [x1]; exact ⟨Bx, x2⟩
    have hft : t < g.toks.length → ∃ b7 o7 cs7, wa = some (b7, o7) ∧ wz = 1 ∧ hx.get b7 = some (.cells cs7 false) ∧ cs7[o7 + t * 1]? = some (.bool (f.getD t false)) := fun h => by
      obtain ⟨b7, o7, cs7, l7, rfl, rfl, hb7, hg7, rfl, hr7, ht7, hc7⟩ := (L3.pst ux.pst).at_ (i := t) (x := f[t]) (List.getElem?_eq_getElem (by omega)) (k := 1) rfl
      exact ⟨b7, o7, cs7, rfl, rfl, hg7, by rw [List.getD_eq_getElem?_getD, List.getElem?_eq_getElem (l := f) (by omega), Option.getD_some]; exact hc7 0 (by decide)⟩
    have hf0 : ¬ t < g.toks.length → f.getD t false = false := fun h => getD_or (by omega)
    generalize r.getD t false = x at *
    generalize L.getD t false = ll at *
    generalize f.getD t false = ft at *
    cases x with
    | true =>
      obtain ⟨B', g'⟩ := tno (.inl rfl)
      simp (disch := first | ((try simp only [heapN]) <;> omega) | fail) only [go_sem, seval, hltt, gB, cB, Int.toNat_natCast]
      exact AgainK.mk (g.toks.length + 1 - (t + 1)) (by simp only; omega) ⟨t + 1, by omega, rfl, ux, B', rfl, by simp [Has, g']⟩
    | false =>
      by_cases htn' : t < g.toks.length
      · obtain ⟨b7, o7, cs7, rfl, rfl, hg7, c7⟩ := hft htn'
        have q7 : (t : Int) < (wn : Int) := by omega
        cases ft with
        | true =>
          rw [Bool.true_or] at hYt
          obtain ⟨y1, y2⟩ := yes rfl hYt
          rw [← y1] at BP
          simp (disch := first | ((try simp only [heapN]) <;> omega) | fail) only [go_sem, seval, hltt, gB, cB, hg7, c7, q7, hroom, Int.toNat_natCast]
          rw [Nat.mul_one]
          exact AgainK.mk (g.toks.length + 1 - (t + 1)) (by simp only; omega) ⟨t + 1, by omega, rfl, ux.trans uP, BP, rfl, by simp [Has, y2]⟩
        | false =>
          rw [Bool.false_or] at hYt
          cases nl with
          | false =>
            obtain ⟨B', g'⟩ := tno (.inr (by rw [hYt, Bool.false_and]))
            simp (disch := first | ((try simp only [heapN]) <;> omega) | fail) only [go_sem, seval, hltt, gB, cB, hg7, c7, q7, Int.toNat_natCast]
            exact AgainK.mk (g.toks.length + 1 - (t + 1)) (by simp only; omega) ⟨t + 1, by omega, rfl, ux, B', rfl, by simp [Has, g']⟩
          | true =>
            cases ll with
            | false =>
              obtain ⟨B', g'⟩ := tno (.inr (by rw [hYt, Bool.and_false]))
              simp (disch := first | ((try simp only [heapN]) <;> omega) | fail) only [go_sem, seval, hltt, gB, cB, hg7, c7, q7, gxA, gxC, q5, gx4, c5, gL, cL, Int.toNat_natCast]
              exact AgainK.mk (g.toks.length + 1 - (t + 1)) (by simp only; omega) ⟨t + 1, by omega, rfl, ux, B', rfl, by simp [Has, g']⟩
            | true =>
              obtain ⟨y1, y2⟩ := yes rfl (by rw [hYt]; rfl)
              rw [← y1] at BP
              simp (disch := first | ((try simp only [heapN]) <;> omega) | fail) only [go_sem, seval, hltt, gB, cB, hg7, c7, q7, gxA, gxC, q5, gx4, c5, gL, cL, hroom, Int.toNat_natCast]
              rw [Nat.mul_one]
              exact AgainK.mk (g.toks.length + 1 - (t + 1)) (by simp only; omega) ⟨t + 1, by omega, rfl, ux.trans uP, BP, rfl, by simp [Has, y2]⟩
      · have q7 : ¬ (t : Int) < (wn : Int) := by omega
        rw [hf0 htn', Bool.false_or] at hYt
        cases nl with
        | false =>
          obtain ⟨B', g'⟩ := tno (.inr (by rw [hYt, Bool.false_and]))
          simp (disch := first | ((try simp only [heapN]) <;> omega) | fail) only [go_sem, seval, hltt, gB, cB, q7, Int.toNat_natCast]
          exact AgainK.mk (g.toks.length + 1 - (t + 1)) (by simp only; omega) ⟨t + 1, by omega, rfl, ux, B', rfl, by simp [Has, g']⟩
        | true =>
          cases ll with
          | false =>
            obtain ⟨B', g'⟩ := tno (.inr (by rw [hYt, Bool.and_false]))
            simp (disch := first | ((try simp only [heapN]) <;> omega) | fail) only [go_sem, seval, hltt, gB, cB, q7, gxA, gxC, q5, gx4, c5, gL, cL, Int.toNat_natCast]
            exact AgainK.mk (g.toks.length + 1 - (t + 1)) (by simp only; omega) ⟨t + 1, by omega, rfl, ux, B', rfl, by simp [Has, g']⟩
          | true =>
            obtain ⟨y1, y2⟩ := yes rfl (by rw [hYt]; rfl)
            rw [← y1] at BP
            simp (disch := first | ((try simp only [heapN]) <;> omega) | fail) only [go_sem, seval, hltt, gB, cB, q7, gxA, gxC, q5, gx4, c5, gL, cL, hroom, Int.toNat_natCast]
            rw [Nat.mul_one]
            exact AgainK.mk (g.toks.length + 1 - (t + 1)) (by simp only; omega) ⟨t + 1, by omega, rfl, ux.trans uP, BP, rfl, by simp [Has, y2]⟩
  · have hte : t = g.toks.length + 1 := by omega
    subst hte
    simp (disch := first | ((try simp only [heapN]) <;> omega) | fail) only [go_sem, seval, hltt]
    have Tw := T3.write hyb ux (by rw [orT_len]; exact hrl) Bx
    exact hQ _ _ ⟨(e03.upd (· ∈ bl2)).trans (ux.weak fun b _ e => by rw [e]; exact List.mem_of_getElem? hyb), r, L, hrr, hLL, by rw [← hY]; exact Tw, by rw [← hY]⟩

end Go.Proofs.Ytaockkmmjinhpaa

/-
  The document's sets: they are the least ones that are closed.
-/
namespace Go.Proofs.Ytaockkmmjinhpaa
open Go Go.Am
set_option maxRecDepth 100000
set_option maxHeartbeats 4000000
set_option linter.unusedSimpArgs false
set_option linter.unusedVariables false

theorem mk_at {n : Nat} (hn : n ≤ 1000000) (b : Nat) : makeSliceA T 73 (.int .i64 n) (.int .i64 n) ⟨b, .nil⟩ = some (.slc (some (b, 0)) n (some n) 1, (⟨b, .nil⟩ : Heap).add (.cells ((List.replicate n false).map AV.bool) true)) := by
  simp only [makeSliceA, T_73, T_4]
  rw [if_pos (by omega), Int.toNat_natCast, Nat.mul_one, zero_bools]
theorem get_at {b : Nat} {t : HT} {x : Blk} : ((⟨b, t⟩ : Heap).add x).get b = some x := get_add_self (h := ⟨b, t⟩)

theorem nodup2 {bl1 bl2 : List Nat} {x y : Nat} (h : (bl1 ++ bl2).Nodup) (hx : ∀ b ∈ bl1 ++ bl2, b < x) (hxy : x < y) : ((bl1 ++ [x]) ++ (bl2 ++ [y])).Nodup := by
  unfold List.Nodup at h ⊢
  simp only [List.pairwise_append, List.mem_append, List.mem_singleton, List.pairwise_singleton, true_and, forall_eq] at h hx ⊢
  obtain ⟨h1, h2, h3⟩ := h
  refine ⟨⟨h1, fun a ha => by have := hx a (.inl ha); omega⟩, ⟨h2, fun a ha => by have := hx a (.inr ha); omega⟩, fun a ha b hb => ?_⟩
  rcases ha with ha | rfl <;> rcases hb with hb | rfl
  · exact h3 a ha b hb
  · have := hx a (.inl ha); omega
  · have := hx b (.inr hb); omega
  · omega

/-- The sets, as they lie. -/
structure HS (h : Heap) (nb : Nat) (fv ov : AV) (tl n : Nat) (bl1 bl2 : List Nat) (S : Tri) : Prop where
  b : Bits h nb (.slc (some (nb, 0)) n (some n) 1) S.nu
  f : TbL h fv tl bl1 S.fi
  o : TbL h ov (tl + 1) bl2 S.fo
theorem HS.upd {h h' : Heap} {nb : Nat} {fv ov : AV} {tl n : Nat} {bl1 bl2 : List Nat} {S : Tri} {X : Nat → Prop} (H : HS h nb fv ov tl n bl1 bl2 S) (u : Upd X h h') (h0 : ¬ X nb) (h1 : ∀ b ∈ bl1, ¬ X b) (h2 : ∀ b ∈ bl2, ¬ X b) : HS h' nb fv ov tl n bl1 bl2 S := ⟨H.b.upd u h0, H.f.upd u h1, H.o.upd u h2⟩
theorem HS.ext {h h' : Heap} {nb : Nat} {fv ov : AV} {tl n : Nat} {bl1 bl2 : List Nat} {S : Tri} (H : HS h nb fv ov tl n bl1 bl2 S) (e : Ext h h') : HS h' nb fv ov tl n bl1 bl2 S := ⟨H.b.ext e, H.f.ext e, H.o.ext e⟩
/-- What a production asks for is there. -/
def Cls (tl : Nat) (p : GProd) (S : Tri) : Prop := ((NullS (B1 S.nu) p.right → B1 S.nu p.left.toNat) ∧ ∀ x, x < tl → RowP (B1 S.nu) (B2 S.fi) p.right x → B2 S.fi p.left.toNat x) ∧ ∀ j, OkPos tl (B1 S.nu) (B2 S.fi) (B2 S.fo) p j

theorem Reckon_uf {h : Heap} {tv nv pv : AV} {g : Gm} (lt : Lst h tv g.toks) (sn : Lst h nv g.nts) (sp : Lst h pv g.prods) (M : MayG g) : UF T F 35 [.agg [tv, nv, pv]] h fun v' h' => Ext h h' ∧ ∃ nb fv ov bl1 bl2 fo,
    v' = .agg [.slc (some (nb, 0)) (nulL g.nts.length g.prods).length (some (nulL g.nts.length g.prods).length) 1, fv, ov] ∧ Bits h' nb (.slc (some (nb, 0)) (nulL g.nts.length g.prods).length (some (nulL g.nts.length g.prods).length) 1) (nulL g.nts.length g.prods) ∧
    TbL h' fv g.toks.length bl1 (firL g.toks.length g.nts.length g.prods) ∧ TbL h' ov (g.toks.length + 1) bl2 fo ∧ FolOk g fo := by
  obtain ⟨ta, tn, tc, tz, rfl, htn⟩ := lt.form
  obtain ⟨na, nn, nc, nz, rfl, hnn⟩ := sn.form
  obtain ⟨pa, pn, pc, pz, rfl, hpn⟩ := sp.form
  have hnl := M.nl
  have htl := M.tl
  have hpl := M.pl
  refine UF.gen fun Q hQ => UF.of (F_35) (c := _) rfl ?_
  unfold Try.f35
  simp only [List.length, Nat.reduceSub, Nat.reduceAdd, List.replicate, List.cons_append, List.nil_append]
  simp (disch := first | ((try simp only [heapN]) <;> omega) | fail) only [go_sem, seval]
  have e0 : Ext h ((h.add (.cells [.slc ta tn tc tz, .slc na nn nc nz, .slc pa pn pc pz] true)).add (.cells [.slc none 0 (some 0) 0, .slc none 0 (some 0) 0, .slc none 0 (some 0) 0] true)) := (Ext.add _ _).trans (Ext.add _ _)
  have g0 : ((h.add (.cells [.slc ta tn tc tz, .slc na nn nc nz, .slc pa pn pc pz] true)).add (.cells [.slc none 0 (some 0) 0, .slc none 0 (some 0) 0, .slc none 0 (some 0) 0] true)).get h.nxt = some (.cells [.slc ta tn tc tz, .slc na nn nc nz, .slc pa pn pc pz] true) := by rw [get_add_lt (by simp), get_add_self]
  have r0 : ((h.add (.cells [.slc ta tn tc tz, .slc na nn nc nz, .slc pa pn pc pz] true)).add (.cells [.slc none 0 (some 0) 0, .slc none 0 (some 0) 0, .slc none 0 (some 0) 0] true)).get (h.nxt + 1) = some (.cells [.slc none 0 (some 0) 0, .slc none 0 (some 0) 0, .slc none 0 (some 0) 0] true) := by
    have := get_add_self (h := h.add (.cells [.slc ta tn tc tz, .slc na nn nc nz, .slc pa pn pc pz] true)) (x := .cells [.slc none 0 (some 0) 0, .slc none 0 (some 0) 0, .slc none 0 (some 0) 0] true)
    rwa [Heap.add_nxt] at this
  have n0 : ((h.add (.cells [.slc ta tn tc tz, .slc na nn nc nz, .slc pa pn pc pz] true)).add (.cells [.slc none 0 (some 0) 0, .slc none 0 (some 0) 0, .slc none 0 (some 0) 0] true)).nxt = h.nxt + 2 := by simp
  generalize ((h.add (.cells [.slc ta tn tc tz, .slc na nn nc nz, .slc pa pn pc pz] true)).add (.cells [.slc none 0 (some 0) 0, .slc none 0 (some 0) 0, .slc none 0 (some 0) 0] true)) = h0 at *
  refine mk_bits T_73 (by omega) ?_
  have e1 : Ext h0 (h0.add (.cells ((List.replicate nn false).map AV.bool) true)) := Ext.add _ _
  have B1 := bits_new (h := h0) (n := nn)
  have n1 : (h0.add (.cells ((List.replicate nn false).map AV.bool) true)).nxt = h.nxt + 3 := by simp [n0]
  rw [n0] at B1 ⊢
  generalize (h0.add (.cells ((List.replicate nn false).map AV.bool) true)) = h1 at *
  have gA := (e1.get _ (by omega)).trans g0
  have rA := (e1.get _ (by omega)).trans r0
  simp (disch := first | ((try simp only [heapN]) <;> omega) | fail) only [go_sem, seval]
  have e3 : Ext h1 ((h1.add (.cells [.slc none 0 (some 0) 0, .slc none 0 (some 0) 0, .slc none 0 (some 0) 0] true)).put h1.nxt (.cells [.slc (some (h.nxt + 2, 0)) nn (some nn) 1, .slc none 0 (some 0) 0, .slc none 0 (some 0) 0] true)) := (Ext.add _ _).put (Nat.le_refl _)
  have s3 : ((h1.add (.cells [.slc none 0 (some 0) 0, .slc none 0 (some 0) 0, .slc none 0 (some 0) 0] true)).put h1.nxt (.cells [.slc (some (h.nxt + 2, 0)) nn (some nn) 1, .slc none 0 (some 0) 0, .slc none 0 (some 0) 0] true)).get h1.nxt = some (.cells [.slc (some (h.nxt + 2, 0)) nn (some nn) 1, .slc none 0 (some 0) 0, .slc none 0 (some 0) 0] true) := get_put_self
  have n3 : ((h1.add (.cells [.slc none 0 (some 0) 0, .slc none 0 (some 0) 0, .slc none 0 (some 0) 0] true)).put h1.nxt (.cells [.slc (some (h.nxt + 2, 0)) nn (some nn) 1, .slc none 0 (some 0) 0, .slc none 0 (some 0) 0] true)).nxt = h1.nxt + 1 := by simp
  generalize ((h1.add (.cells [.slc none 0 (some 0) 0, .slc none 0 (some 0) 0, .slc none 0 (some 0) 0] true)).put h1.nxt (.cells [.slc (some (h.nxt + 2, 0)) nn (some nn) 1, .slc none 0 (some 0) 0, .slc none 0 (some 0) 0] true)) = h3 at *
  rw [n1] at s3 n3 ⊢
  have g3 := (e3.get _ (by omega)).trans gA
  have r3 := (e3.get _ (by omega)).trans rA
  have B3 := B1.ext e3
  have e03 := (e0.trans e1).trans e3
  refine LoopU_whileL (fun m st hh => ∃ (i : Nat) (fv ov : AV) (bl1 bl2 : List Nat), i ≤ nn ∧ m = nn - i ∧ Upd (· = h.nxt + 3) h3 hh ∧ hh.get (h.nxt + 3) = some (.cells [.slc (some (h.nxt + 2, 0)) nn (some nn) 1, fv, ov] true) ∧
      LFresh h3.nxt hh fv (bl1.map fun b => (⟨[rowV tn b]⟩ : Opq 1)) ∧ LFresh h3.nxt hh ov (bl2.map fun b => (⟨[rowV (tn + 1) b]⟩ : Opq 1)) ∧ bl1.length = i ∧ bl2.length = i ∧ (bl1 ++ bl2).Nodup ∧ (∀ b, fv.blk = some b → ov.blk ≠ some b ∧ b ∉ bl1 ∧ b ∉ bl2) ∧ (∀ b, ov.blk = some b → b ∉ bl1 ∧ b ∉ bl2) ∧
      (∀ b ∈ bl1, h3.nxt ≤ b ∧ Bits hh b (rowV tn b) (List.replicate tn false)) ∧ (∀ b ∈ bl2, h3.nxt ≤ b ∧ Bits hh b (rowV (tn + 1) b) (List.replicate (tn + 1) false)) ∧
      Keep st 139 [(1, .ptr (some (h.nxt, 0))), (2, .ptr (some (h.nxt + 1, 0))), (3, .ptr (some (h.nxt + 3, 0))), (4, .int .i64 (i : Nat))]) nn
    ⟨0, _, _, [], [], by omega, by omega, Upd.refl _ _, s3, LFresh.nil, LFresh.nil, rfl, rfl, by simp, by simp [AV.blk], by simp [AV.blk], by simp, by simp, rfl, by simp [Has]⟩ ?_
  rintro m st hh ⟨i, fv, ov, bl1, bl2, hi, rfl, u, sx, Fv, Ov, hb1, hb2, hnd, hs1, hs2, R1, R2, hk⟩
  obtain ⟨fa, fn, fc, fz, rfl, hfn⟩ := Fv.form
  obtain ⟨oa, on, oc, oz, rfl, hon⟩ := Ov.form
  rw [hk.eq]
  obtain ⟨k1, k2, k3, k4, -⟩ := hk.2
  simp only [slotsFrom, Nat.reduceAdd] at k1 k2 k3 k4 ⊢
  simp only [k1, k2, k3, k4]
  have hnh := u.nxt
  have gh := (u.get _ (by omega) (by omega)).trans g3
  by_cases hlt : (i : Int) < (nn : Int)
  · simp (disch := first | ((try simp only [heapN]) <;> omega) | fail) only [go_sem, seval, hlt, gh]
    refine DrawT_of' (fun b => b = h.nxt + 3 ∨ b = h.nxt) [0, 1, 0, 4, 12, 28, 60, 127, 0, 256, 0, 1024, 3072, 7168, 15360, 31744, 65535, 1023, 262143, 524287, 1048575] (by rfl) (by rfl) (fun b hb => by rcases hb with rfl | rfl <;> omega) ?_
    simp (disch := first | ((try simp only [heapN]) <;> omega) | fail) only [go_sem, seval]
    refine LoadK_ofT rfl (.inl rfl) ?_
    simp (disch := first | ((try simp only [heapN]) <;> omega) | fail) only [go_sem, seval, sx]
    refine LoadK_ofT rfl (.inr rfl) ?_
    have mk1 := mk_at (n := tn) (by omega)
    have mk2 : ∀ b, makeSliceA T 73 (.int .i64 ((tn : Int) + 1)) (.int .i64 ((tn : Int) + 1)) ⟨b, .nil⟩ = some (.slc (some (b, 0)) (tn + 1) (some (tn + 1)) 1, (⟨b, .nil⟩ : Heap).add (.cells ((List.replicate (tn + 1) false).map AV.bool) true)) := fun b => by
      rw [show ((tn : Int) + 1) = ((tn + 1 : Nat) : Int) by omega]
      exact mk_at (by omega) b
    simp (disch := first | ((try simp only [heapN]) <;> omega) | fail) only [go_sem, seval, gh, mk1, get_at]
    have eA : Ext hh (((hh.bump 21).put (hh.nxt + 5) (.cells ((List.replicate tn false).map AV.bool) true)).put (hh.nxt + 6) (.cells [.slc (some (hh.nxt + 5, 0)) tn (some tn) 1] true)) := ((Ext.bump _ _).put (by omega)).put (by omega)
    have a5 : (((hh.bump 21).put (hh.nxt + 5) (.cells ((List.replicate tn false).map AV.bool) true)).put (hh.nxt + 6) (.cells [.slc (some (hh.nxt + 5, 0)) tn (some tn) 1] true)).get (hh.nxt + 5) = some (.cells ((List.replicate tn false).map AV.bool) true) := (get_put_ne (by omega)).trans get_put_self
    have a6 : (((hh.bump 21).put (hh.nxt + 5) (.cells ((List.replicate tn false).map AV.bool) true)).put (hh.nxt + 6) (.cells [.slc (some (hh.nxt + 5, 0)) tn (some tn) 1] true)).get (hh.nxt + 6) = some (.cells [.slc (some (hh.nxt + 5, 0)) tn (some tn) 1] true) := get_put_self
    have nA : (((hh.bump 21).put (hh.nxt + 5) (.cells ((List.replicate tn false).map AV.bool) true)).put (hh.nxt + 6) (.cells [.slc (some (hh.nxt + 5, 0)) tn (some tn) 1] true)).nxt = hh.nxt + 21 := by simp
    generalize (((hh.bump 21).put (hh.nxt + 5) (.cells ((List.replicate tn false).map AV.bool) true)).put (hh.nxt + 6) (.cells [.slc (some (hh.nxt + 5, 0)) tn (some tn) 1] true)) = hA at *
    have FA := Fv.ext eA
    refine fappend (m := h3.nxt) (xs := bl1.map fun b => (⟨[rowV tn b]⟩ : Opq 1)) (y := (⟨[rowV tn (hh.nxt + 5)]⟩ : Opq 1)) T_74 rfl T_73 rfl (by decide) (by decide) FA (LSlc.lit (b := hh.nxt + 6) (ls := [[.slc (some (hh.nxt + 5, 0)) tn (some tn) 1]]) (by omega) a6 rfl (Reps.one (α := Opq 1) ⟨rfl, rfl, rfl⟩) rfl rfl) (by omega) (by rw [List.length_map]; simp [roomA]; omega) ?_
    intro v5 h5 F5 u5 b5
    obtain ⟨wa, wn, wc, wz, rfl, hwn⟩ := F5.form
    have hn5 := u5.nxt
    have k5 : ∀ b, b < hA.nxt → (AV.slc fa fn fc fz).blk ≠ some b → h5.get b = hA.get b := fun b hb hne => u5.get b hb fun e => hne e
    have k5' : ∀ b, b < hh.nxt → (AV.slc fa fn fc fz).blk ≠ some b → h5.get b = hh.get b := fun b hb hne => (k5 b (by omega) hne).trans (eA.get b hb)
    have nb3 : ∀ b, b < h3.nxt → (AV.slc fa fn fc fz).blk ≠ some b := fun b hb e => by have := Fv.blk e; omega
    have nbo : ∀ b, b < h3.nxt → (AV.slc oa on oc oz).blk ≠ some b := fun b hb e => by have := Ov.blk e; omega
    have sx5 := (k5' (h.nxt + 3) (by omega) (nb3 _ (by omega))).trans sx
    have gh5 := (k5' h.nxt (by omega) (nb3 _ (by omega))).trans gh
    simp (disch := first | ((try simp only [heapN]) <;> omega) | fail) only [go_sem, seval]
    refine ⟨.inl fun b hb => k5' b (by rcases hb with rfl | rfl <;> omega) (nb3 _ (by rcases hb with rfl | rfl <;> omega)), ?_⟩
    refine LoadK_ofT rfl (.inl rfl) ?_
    simp (disch := first | ((try simp only [heapN]) <;> omega) | fail) only [go_sem, seval, sx5]
    refine LoadK_ofT rfl (.inr rfl) ?_
    simp (disch := first | ((try simp only [heapN]) <;> omega) | fail) only [go_sem, seval, gh5, mk2, get_at]
    have uC : Upd (fun b => (AV.slc fa fn fc fz).blk = some b) hh ((h5.put (hh.nxt + 14) (.cells ((List.replicate (tn + 1) false).map AV.bool) true)).put (hh.nxt + 15) (.cells [.slc (some (hh.nxt + 14, 0)) (tn + 1) (some (tn + 1)) 1] true)) := (((eA.upd _).trans u5).putNew (by omega) _).putNew (by omega) _
    have kC : ∀ b, b ≠ hh.nxt + 14 → b ≠ hh.nxt + 15 → ((h5.put (hh.nxt + 14) (.cells ((List.replicate (tn + 1) false).map AV.bool) true)).put (hh.nxt + 15) (.cells [.slc (some (hh.nxt + 14, 0)) (tn + 1) (some (tn + 1)) 1] true)).get b = h5.get b := fun b h1 h2 => (get_put_ne (by omega)).trans (get_put_ne (by omega))
    have c14 : ((h5.put (hh.nxt + 14) (.cells ((List.replicate (tn + 1) false).map AV.bool) true)).put (hh.nxt + 15) (.cells [.slc (some (hh.nxt + 14, 0)) (tn + 1) (some (tn + 1)) 1] true)).get (hh.nxt + 14) = some (.cells ((List.replicate (tn + 1) false).map AV.bool) true) := (get_put_ne (by omega)).trans get_put_self
    have c15 : ((h5.put (hh.nxt + 14) (.cells ((List.replicate (tn + 1) false).map AV.bool) true)).put (hh.nxt + 15) (.cells [.slc (some (hh.nxt + 14, 0)) (tn + 1) (some (tn + 1)) 1] true)).get (hh.nxt + 15) = some (.cells [.slc (some (hh.nxt + 14, 0)) (tn + 1) (some (tn + 1)) 1] true) := get_put_self
    have nC : ((h5.put (hh.nxt + 14) (.cells ((List.replicate (tn + 1) false).map AV.bool) true)).put (hh.nxt + 15) (.cells [.slc (some (hh.nxt + 14, 0)) (tn + 1) (some (tn + 1)) 1] true)).nxt = h5.nxt := by simp
    generalize ((h5.put (hh.nxt + 14) (.cells ((List.replicate (tn + 1) false).map AV.bool) true)).put (hh.nxt + 15) (.cells [.slc (some (hh.nxt + 14, 0)) (tn + 1) (some (tn + 1)) 1] true)) = hC at *
    have OC := Ov.upd uC fun b _ e2 e1 => (hs1 b e1).1 e2
    have FC : LFresh h3.nxt hC (.slc wa wn wc wz) (bl1.map (fun b => (⟨[rowV tn b]⟩ : Opq 1)) ++ [(⟨[rowV tn (hh.nxt + 5)]⟩ : Opq 1)]) := by
      obtain ⟨ls, s1, s2⟩ := F5
      exact ⟨ls, s1.keep (by omega) fun c _ _ e => kC c (by have := b5 c e; omega) (by have := b5 c e; omega), opq_keep s2⟩
    refine fappend (m := h3.nxt) (xs := bl2.map fun b => (⟨[rowV (tn + 1) b]⟩ : Opq 1)) (y := (⟨[rowV (tn + 1) (hh.nxt + 14)]⟩ : Opq 1)) T_74 rfl T_73 rfl (by decide) (by decide) OC (LSlc.lit (b := hh.nxt + 15) (ls := [[.slc (some (hh.nxt + 14, 0)) (tn + 1) (some (tn + 1)) 1]]) (by omega) c15 rfl (Reps.one (α := Opq 1) ⟨rfl, rfl, rfl⟩) rfl rfl) (by omega) (by rw [List.length_map]; simp [roomA]; omega) ?_
    intro v7 h7 O7 u7 b7
    obtain ⟨ya, yn, yc, yz, rfl, hyn⟩ := O7.form
    have hn7 := u7.nxt
    have k7 : ∀ b, b < h5.nxt → (AV.slc oa on oc oz).blk ≠ some b → h7.get b = hC.get b := fun b hb hne => u7.get b (by omega) fun e => hne e
    have k75 : ∀ b, b < h3.nxt → h7.get b = h5.get b := fun b hb => (k7 b (by omega) (nbo b hb)).trans (kC b (by omega) (by omega))
    have sx7 := (k75 (h.nxt + 3) (by omega)).trans sx5
    simp (disch := first | ((try simp only [heapN]) <;> omega) | fail) only [go_sem, seval]
    refine ⟨.inl fun b hb => k75 b (by rcases hb with rfl | rfl <;> omega), ?_⟩
    simp (disch := first | ((try simp only [heapN]) <;> omega) | fail) only [go_sem, seval, sx7]
    refine ⟨.inr (by rfl), ?_⟩
    refine ⟨.inr (by rfl), ?_⟩
    have uF : Upd (· = h.nxt + 3) h7 ((h7.put (h.nxt + 3) (.cells [.slc (some (h.nxt + 2, 0)) nn (some nn) 1, .slc wa wn wc wz, .slc oa on oc oz] true)).put (h.nxt + 3) (.cells [.slc (some (h.nxt + 2, 0)) nn (some nn) 1, .slc wa wn wc wz, .slc ya yn yc yz] true)) := by
      have x1 : Upd (· = h.nxt + 3) h7 (h7.put (h.nxt + 3) (.cells [.slc (some (h.nxt + 2, 0)) nn (some nn) 1, .slc wa wn wc wz, .slc oa on oc oz] true)) := Upd.put _ rfl fun cs e => by rw [sx7] at e; simp at e
      exact x1.trans (Upd.put _ rfl fun cs e => by rw [get_put_self] at e; simp at e)
    have sF : ((h7.put (h.nxt + 3) (.cells [.slc (some (h.nxt + 2, 0)) nn (some nn) 1, .slc wa wn wc wz, .slc oa on oc oz] true)).put (h.nxt + 3) (.cells [.slc (some (h.nxt + 2, 0)) nn (some nn) 1, .slc wa wn wc wz, .slc ya yn yc yz] true)).get (h.nxt + 3) = some (.cells [.slc (some (h.nxt + 2, 0)) nn (some nn) 1, .slc wa wn wc wz, .slc ya yn yc yz] true) := get_put_self
    generalize ((h7.put (h.nxt + 3) (.cells [.slc (some (h.nxt + 2, 0)) nn (some nn) 1, .slc wa wn wc wz, .slc oa on oc oz] true)).put (h.nxt + 3) (.cells [.slc (some (h.nxt + 2, 0)) nn (some nn) 1, .slc wa wn wc wz, .slc ya yn yc yz] true)) = hF at *
    have fl : ∀ b, (AV.slc fa fn fc fz).blk = some b → b < hh.nxt := fun b e => Fv.lt e
    have ol : ∀ b, (AV.slc oa on oc oz).blk = some b → b < hh.nxt := fun b e => Ov.lt e
    have wl : ∀ b, (AV.slc wa wn wc wz).blk = some b → hh.nxt + 21 ≤ b ∧ b < h5.nxt := fun b e => ⟨by have := b5 b e; omega, F5.lt e⟩
    have yl : ∀ b, (AV.slc ya yn yc yz).blk = some b → h5.nxt ≤ b := fun b e => by have := b7 b e; omega
    have r1l : ∀ b ∈ bl1, b < hh.nxt := fun b hb => (R1 b hb).2.2.1
    have r2l : ∀ b ∈ bl2, b < hh.nxt := fun b hb => (R2 b hb).2.2.1
    have hnF := uF.nxt
    refine AgainK.mk (nn - (i + 1)) (by simp only; omega) ⟨i + 1, _, _, bl1 ++ [hh.nxt + 5], bl2 ++ [hh.nxt + 14], by omega, rfl, (((u.trans' uC fun b e hb => by have := Fv.blk e; omega).trans' u7 fun b e hb => by have := Ov.blk e; omega).trans uF), sF, ?_, ?_, by simp; omega, by simp; omega, nodup2 hnd (fun b hb => (List.mem_append.1 hb).elim (fun h => by have := r1l b h; omega) fun h => by have := r2l b h; omega) (by omega), fun b e => ⟨fun e2 => ?_, fun hb => ?_, fun hb => ?_⟩, fun b e => ⟨fun hb => ?_, fun hb => ?_⟩, fun b hb => ?_, fun b hb => ?_, rfl, by simp [Has]⟩
    · rw [List.map_append]
      exact (FC.upd u7 fun b _ e e2 => by have := wl b e; have := ol b e2; omega).upd uF fun b _ e e2 => by have := wl b e; omega
    · rw [List.map_append]
      exact O7.upd uF fun b _ e e2 => by have := yl b e; omega
    · have := wl b e; have := yl b e2; omega
    · have := wl b e
      rcases List.mem_append.1 hb with hb | hb
      · have := r1l b hb; omega
      · simp only [List.mem_singleton] at hb; omega
    · have := wl b e
      rcases List.mem_append.1 hb with hb | hb
      · have := r2l b hb; omega
      · simp only [List.mem_singleton] at hb; omega
    · have := yl b e
      rcases List.mem_append.1 hb with hb | hb
      · have := r1l b hb; omega
      · simp only [List.mem_singleton] at hb; omega
    · have := yl b e
      rcases List.mem_append.1 hb with hb | hb
      · have := r2l b hb; omega
      · simp only [List.mem_singleton] at hb; omega
    · rcases List.mem_append.1 hb with hb | hb
      · obtain ⟨x1, x2⟩ := R1 b hb
        exact ⟨x1, ((x2.upd uC fun e => (hs1 b e).2.1 hb).upd u7 fun e => (hs2 b e).1 hb).upd uF fun e => by omega⟩
      · simp only [List.mem_singleton] at hb
        subst hb
        refine ⟨by omega, by simp [rowV], by omega, (uF.get _ (by omega) (by omega)).trans ((k7 _ (by omega) fun e => by have := ol _ e; omega).trans ((kC _ (by omega) (by omega)).trans ((k5 _ (by omega) fun e => by have := fl _ e; omega).trans a5)))⟩
    · rcases List.mem_append.1 hb with hb | hb
      · obtain ⟨x1, x2⟩ := R2 b hb
        exact ⟨x1, ((x2.upd uC fun e => (hs1 b e).2.2 hb).upd u7 fun e => (hs2 b e).2 hb).upd uF fun e => by omega⟩
      · simp only [List.mem_singleton] at hb
        subst hb
        refine ⟨by omega, by simp [rowV], by omega, (uF.get _ (by omega) (by omega)).trans ((k7 _ (by omega) fun e => by have := ol _ e; omega).trans c14)⟩
  · simp (disch := first | ((try simp only [heapN]) <;> omega) | fail) only [go_sem, seval, hlt, gh]
    have hie : nn = i := by omega
    subst hie
    obtain ⟨h5, l5, n5, L1, u5⟩ := Fv.frz
    obtain ⟨h6, l6, n6, L2, u6⟩ := (Ov.upd u5 fun b _ e e2 => (hs1 b e2.2).1 e).frz
    refine LessE.mk (l6.trans l5) ?_
    have u56 : Upd (fun b => (AV.slc fa fn fc fz).blk = some b ∨ (AV.slc oa on oc oz).blk = some b) hh h6 := (u5.weak fun b _ e => .inl e.2).trans (u6.weak fun b _ e => .inr e.2)
    have t1 : TbL h6 (.slc fa fn fc fz) tn bl1 (List.replicate nn (List.replicate tn false)) := ⟨L1.pst u6.pst, by simp [hb1], fun j b r h1 h2 => by
      rw [List.getElem?_replicate] at h2
      split at h2 <;> cases h2
      have hb := List.mem_of_getElem? h1
      exact ⟨by simp, (R1 b hb).2.upd u56 fun e => e.elim (fun e => (hs1 b e).2.1 hb) fun e => (hs2 b e).1 hb⟩, (List.pairwise_append.1 hnd).1⟩
    have t2 : TbL h6 (.slc oa on oc oz) (tn + 1) bl2 (List.replicate nn (List.replicate (tn + 1) false)) := ⟨L2, by simp [hb2], fun j b r h1 h2 => by
      rw [List.getElem?_replicate] at h2
      split at h2 <;> cases h2
      have hb := List.mem_of_getElem? h1
      exact ⟨by simp, (R2 b hb).2.upd u56 fun e => e.elim (fun e => (hs1 b e).2.2 hb) fun e => (hs2 b e).2 hb⟩, (List.pairwise_append.1 hnd).2.1⟩
    have hd12 : ∀ b ∈ bl1, b ∉ bl2 := fun b h1 h2 => (List.pairwise_append.1 hnd).2.2 b h1 b h2 rfl
    have hr1 : ∀ b ∈ bl1, h3.nxt ≤ b := fun b hb => (R1 b hb).1
    have hr2 : ∀ b ∈ bl2, h3.nxt ≤ b := fun b hb => (R2 b hb).1
    have nf : ∀ b, b < h3.nxt → h6.get b = hh.get b := fun b hb => u56.get b (by omega) fun e => e.elim (fun e => by have := Fv.blk e; omega) fun e => by have := Ov.blk e; omega
    have s6 := (nf (h.nxt + 3) (by omega)).trans sx
    have g6 := (nf h.nxt (by omega)).trans gh
    have B6 : Bits h6 (h.nxt + 2) (.slc (some (h.nxt + 2, 0)) nn (some nn) 1) (List.replicate nn false) := (B3.upd u (by omega)).upd u56 fun e => e.elim (fun e => by have := Fv.blk e; omega) fun e => by have := Ov.blk e; omega
    have r6 := (nf (h.nxt + 1) (by omega)).trans ((u.get _ (by omega) (by omega)).trans r3)
    have u36 : Upd (· = h.nxt + 3) h3 h6 := u.trans' u56 fun b e hb => e.elim (fun e => by have := Fv.blk e; omega) fun e => by have := Ov.blk e; omega
    have hn6 := u36.nxt
    clear hk k1 k2 k3 k4 R1 R2 hs1 hs2 Fv Ov L1 L2 u5 u6 l5 l6 u56 B3 B1 gh sx nf u
    have hob := t2.lst
    obtain ⟨b4, o4, cs4, yb, r, rfl, rfl, q4, hb4, hg4, c4, hyb, hrr, hrl, Br⟩ := t2.at_ (k := 0) (by rw [List.length_replicate]; omega)
    rw [List.getElem?_replicate, if_pos (by omega)] at hrr
    cases hrr
    have gR := Br.2.2
    have q1 : (tn : Int) < ((tn + 1 : Nat) : Int) := by omega
    have hz : ((List.replicate (tn + 1) false).map AV.bool).length = tn + 1 := by simp
    have hyr := hr2 yb (List.mem_of_getElem? hyb)
    have hne4 : b4 ≠ yb := fun e => by rw [e, gR] at hg4; simp at hg4
    simp (disch := first | ((try simp only [heapN]) <;> omega) | fail) only [go_sem, seval]
    refine DrawU_of' (fun b => b = h.nxt + 3 ∨ b = b4 ∨ b = h.nxt) [0, 1, 3, 7, 0, 16, 48, 127, 255] (by rfl) (by rfl) (fun b hb => by rcases hb with rfl | rfl | rfl <;> omega) ?_
    simp (disch := first | ((try simp only [heapN]) <;> omega) | fail) only [go_sem, seval]
    refine LoadK_ofU rfl (.inl rfl) ?_
    simp (disch := first | ((try simp only [heapN]) <;> omega) | fail) only [go_sem, seval, s6, q4]
    refine LoadK_ofU rfl (.inr (.inl rfl)) ?_
    have c4' : cs4[o4]? = some (.slc (some (yb, 0)) (tn + 1) (some (tn + 1)) 1) := by simpa using c4
    simp (disch := first | ((try simp only [heapN]) <;> omega) | fail) only [go_sem, seval, hg4, c4']
    refine LoadK_ofU rfl (.inr (.inr rfl)) ?_
    simp (disch := first | ((try simp only [heapN]) <;> omega) | fail) only [go_sem, seval, g6, q1, Int.toNat_natCast]
    rw [gR]
    simp (disch := first | ((try simp only [heapN]) <;> omega) | fail) only [go_sem, seval, hz]
    rw [Nat.mul_one tn]
    refine ⟨fun b hb => (get_put_ne (by rcases hb with rfl | rfl | rfl; omega; exact hne4.symm; omega)).trans (bump_get ..), ?_⟩
    have uS : Upd (· = yb) h6 ((h6.bump 9).put yb (.cells (((List.replicate (tn + 1) false).map AV.bool).set tn (.bool true)) true)) := ((Ext.bump h6 9).upd _).trans (Upd.put _ rfl fun cs e => by rw [bump_get, gR] at e; simp at e)
    have BS := (Br.ext (Ext.bump h6 9)).set tn true
    have t2' := t2.write hyb uS (by simp) BS
    have t1' := t1.upd uS fun b hb e => hd12 b hb (by rw [e]; exact List.mem_of_getElem? hyb)
    have H7 : HS ((h6.bump 9).put yb (.cells (((List.replicate (tn + 1) false).map AV.bool).set tn (.bool true)) true)) (h.nxt + 2) (.slc fa fn fc fz) (.slc (some (b4, o4)) on oc 1) tn nn bl1 bl2 ⟨List.replicate nn false, List.replicate nn (List.replicate tn false), (List.replicate nn (List.replicate (tn + 1) false)).set 0 ((List.replicate (tn + 1) false).set tn true)⟩ := ⟨B6.upd uS (by omega), t1', t2'⟩
    have g7 := (uS.get h.nxt (by omega) (by omega)).trans g6
    have s7 := (uS.get (h.nxt + 3) (by omega) (by omega)).trans s6
    have r7 := (uS.get (h.nxt + 1) (by omega) (by omega)).trans r6
    have n7 := uS.nxt
    have l1 : ∀ b ∈ bl1, b < h6.nxt := t1.lt
    have l2 : ∀ b ∈ bl2, b < h6.nxt := t2.lt
    have u37 : Upd (fun b => h3.nxt ≤ b ∨ b = h.nxt + 3) h3 ((h6.bump 9).put yb (.cells (((List.replicate (tn + 1) false).map AV.bool).set tn (.bool true)) true)) := (u36.weak fun b _ e => .inr e).trans (uS.weak fun b _ e => .inl (by rw [e]; exact hyr))
    generalize ((h6.bump 9).put yb (.cells (((List.replicate (tn + 1) false).map AV.bool).set tn (.bool true)) true)) = h7 at *
    clear uS BS t1' t2' t1 t2 gR Br g6 s6 r6 hg4 c4 B6 u36
    have sh0 : Tri.Shape tn nn ⟨List.replicate nn false, List.replicate nn (List.replicate tn false), (List.replicate nn (List.replicate (tn + 1) false)).set 0 ((List.replicate (tn + 1) false).set tn true)⟩ := ⟨by simp, rows_rep tn nn, (rows_rep (tn + 1) nn).set (by simp)⟩
    have so0 : Tri.Sound tn g.prods ⟨List.replicate nn false, List.replicate nn (List.replicate tn false), (List.replicate nn (List.replicate (tn + 1) false)).set 0 ((List.replicate (tn + 1) false).set tn true)⟩ := fun N Fi Fo c1 c2 c3 => by
      refine ⟨fun k hk => ?_, fun k x hk => ?_, fun k x hk => ?_⟩
      · unfold B1 at hk
        rw [rep_getD] at hk; cases hk
      · have : ((List.replicate nn (List.replicate tn false)).getD k []).getD x false = false := by
          rw [List.getD_eq_getElem?_getD (l := List.replicate nn _), List.getElem?_replicate]
          split
          · exact rep_getD _ _
          · rfl
        unfold B2 at hk
        rw [this] at hk; cases hk
      · obtain ⟨rfl, rfl⟩ := (init_O (by omega)).1 hk
        exact c3.1
    have up0 : B2 (Tri.fo ⟨List.replicate nn false, List.replicate nn (List.replicate tn false), (List.replicate nn (List.replicate (tn + 1) false)).set 0 ((List.replicate (tn + 1) false).set tn true)⟩) 0 tn := (init_O (n := nn) (t := tn) (k := 0) (x := tn) (by omega)).2 ⟨rfl, rfl⟩
    generalize (⟨List.replicate nn false, List.replicate nn (List.replicate tn false), (List.replicate nn (List.replicate (tn + 1) false)).set 0 ((List.replicate (tn + 1) false).set tn true)⟩ : Tri) = S0 at *
    obtain ⟨W, hW⟩ : ∃ W : Nat → Prop, W = fun b => b = h.nxt + 2 ∨ b ∈ bl1 ∨ b ∈ bl2 := ⟨_, rfl⟩
    have W2 : W (h.nxt + 2) := by rw [hW]; exact .inl rfl
    have W3 : ∀ b ∈ bl1, W b := fun b hb => by rw [hW]; exact .inr (.inl hb)
    have W4 : ∀ b ∈ bl2, W b := fun b hb => by rw [hW]; exact .inr (.inr hb)
    have Wn : ∀ b, b < h7.nxt → b ≠ h.nxt + 2 → b < h3.nxt → ¬ W b := fun b _ h1 h2 hw => by
      rw [hW] at hw
      rcases hw with hw | hw | hw
      · exact h1 hw
      · have := hr1 b hw; omega
      · have := hr2 b hw; omega
    have Wo : ∀ b, h7.nxt ≤ b → ¬ W b := fun b h1 hw => by
      rw [hW] at hw
      rcases hw with hw | hw | hw
      · omega
      · have := l1 b hw; omega
      · have := l2 b hw; omega
    have p07 : Pst h h7 := e03.pst.trans u37.pst
    have e07 : Ext h h7 := ((e03.upd (h.nxt ≤ ·)).trans (u37.weak fun b _ e => by omega)).ext fun b hb => by omega
    have wn1 : ¬ W h.nxt := Wn _ (by omega) (by omega) (by omega)
    have wn2 : ¬ W (h.nxt + 1) := Wn _ (by omega) (by omega) (by omega)
    have wn3 : ¬ W (h.nxt + 3) := Wn _ (by omega) (by omega) (by omega)
    have wge : ∀ b, W b → h.nxt ≤ b := fun b hw => by
      rcases Nat.lt_or_ge b h.nxt with h1 | h1
      · exact absurd hw (Wn b (by omega) (by omega) (by omega))
      · exact h1
    have hleft := M.left
    refine LoopU_while (fun m st hh => ∃ (S : Tri) (mo : Bool), m = 2 * S.msr + (if mo = true then 1 else 0) ∧ S.Shape tn nn ∧ S.Sound tn g.prods ∧ B2 S.fo 0 tn ∧ (mo = false → ∀ (i : Nat) (p : GProd), g.prods[i]? = some p → Cls tn p S) ∧ Upd W h7 hh ∧ HS hh (h.nxt + 2) (.slc fa fn fc fz) (.slc (some (b4, o4)) on oc 1) tn nn bl1 bl2 S ∧
        Keep st 139 [(1, .ptr (some (h.nxt, 0))), (2, .ptr (some (h.nxt + 1, 0))), (3, .ptr (some (h.nxt + 3, 0))), (5, .bool mo)]) (2 * S0.msr + 1)
      ⟨S0, true, rfl, sh0, so0, up0, (by intro h; cases h), Upd.refl _ _, H7, rfl, by simp [Has]⟩ ?_
    rintro m st hh ⟨S, mo, rfl, shS, soS, upS, cl, u, HH, hk⟩
    rw [hk.eq]
    obtain ⟨k1, k2, k3, k5, -⟩ := hk.2
    simp only [slotsFrom, Nat.reduceAdd] at k1 k2 k3 k5 ⊢
    simp only [k1, k2, k3, k5]
    have hnh := u.nxt
    have gh := (u.get _ (by omega) wn1).trans g7
    have sh := (u.get _ (by omega) wn3).trans s7
    have rh := (u.get _ (by omega) wn2).trans r7
    cases mo with
    | false =>
      simp (disch := first | ((try simp only [heapN]) <;> omega) | fail) only [go_sem, seval, sh, rh]
      have uR : Upd (· = h.nxt + 1) hh (hh.put (h.nxt + 1) (.cells [.slc (some (h.nxt + 2, 0)) nn (some nn) 1, .slc fa fn fc fz, .slc (some (b4, o4)) on oc 1] true)) := Upd.put _ rfl fun cs e => by rw [rh] at e; simp at e
      have HR := HH.upd uR (by omega) (fun b hb => by have := hr1 b hb; omega) fun b hb => by have := hr2 b hb; omega
      have eR : Ext h (hh.put (h.nxt + 1) (.cells [.slc (some (h.nxt + 2, 0)) nn (some nn) 1, .slc fa fn fc fz, .slc (some (b4, o4)) on oc 1] true)) := ((((e07.upd (h.nxt ≤ ·)).trans (u.weak fun b _ e => wge b e)).trans (uR.weak fun b _ e => by omega)).ext fun b hb => by omega)
      have cc := cl rfl
      have cc' : ∀ p ∈ g.prods, Cls tn p S := fun p hp => by
        obtain ⟨i, hi, rfl⟩ := List.getElem_of_mem hp
        exact cc i _ (List.getElem?_eq_getElem hi)
      rw [htn, hnn] at shS
      rw [htn] at soS upS cc'
      obtain ⟨d1, d2, d3⟩ := Tri.done M shS soS upS (fun p hp => (cc' p hp).1.1) (fun p hp => (cc' p hp).1.2) fun p hp => (cc' p hp).2
      have hul := nulL_len g.nts.length g.prods
      have x1 := HR.b
      have x2 := HR.f
      have x3 := HR.o
      rw [d1] at x1
      rw [d2, htn] at x2
      rw [htn] at x3
      rw [← hnn] at hul
      refine hQ _ _ ⟨eR, h.nxt + 2, _, _, bl1, bl2, S.fo, by rw [← hnn, hul], by rw [← hnn, hul]; rw [← hnn] at x1; exact x1, x2, x3, d3⟩
    | true =>
      simp (disch := first | ((try simp only [heapN]) <;> omega) | fail) only [go_sem, seval]
      refine LoopU_while (fun m st hx => ∃ (i : Nat) (S' : Tri) (gr : Bool), i ≤ g.prods.length ∧ m = g.prods.length - i ∧ Adv3 tn nn g.prods S S' gr (fun s => ∀ i', i' < i → ∀ p, g.prods[i']? = some p → Cls tn p s) ∧ Upd W h7 hx ∧ HS hx (h.nxt + 2) (.slc fa fn fc fz) (.slc (some (b4, o4)) on oc 1) tn nn bl1 bl2 S' ∧
          Keep st 139 [(1, .ptr (some (h.nxt, 0))), (2, .ptr (some (h.nxt + 1, 0))), (3, .ptr (some (h.nxt + 3, 0))), (5, .bool gr), (6, .int .i64 (i : Nat))]) g.prods.length
        ⟨0, S, false, by omega, by omega, (Adv3.refl shS).weak fun _ _ _ i' hi' => by omega, u, HH, rfl, by simp [Has]⟩ ?_
      clear hk k1 k2 k3 k5 HH u gh sh rh hnh
      rintro m st hx ⟨i, S', gr, hi, rfl, A, u, HH, hk⟩
      rw [hk.eq]
      obtain ⟨k1, k2, k3, k5, k6, -⟩ := hk.2
      simp only [slotsFrom, Nat.reduceAdd] at k1 k2 k3 k5 k6 ⊢
      simp only [k1, k2, k3, k5, k6]
      have hnh := u.nxt
      have gh := (u.get _ (by omega) wn1).trans g7
      have sh := (u.get _ (by omega) wn3).trans s7
      by_cases hlti : (i : Int) < (pn : Int)
      · have hil : i < g.prods.length := by omega
        obtain ⟨b1, o1, cs1, l1', rfl, rfl, hb1', hg1, ⟨ra, xa, rfl, sr, sxx⟩, hr1', ht1, hc1⟩ := (sp.pst (p07.trans u.pst)).at_ (i := i) (x := g.prods[i]) (List.getElem?_eq_getElem hil) (k := 3) rfl
        have hpi := List.getElem?_eq_getElem hil
        have hpm := List.getElem_mem hil
        have hPr := M.pr g.prods[i] hpm
        obtain ⟨⟨q1', q2⟩, q3, q4'⟩ := hPr
        generalize g.prods[i] = p at *
        obtain ⟨ra, rn, rc, rz, rfl, hrn⟩ := sr.form
        obtain ⟨xa, xn, xc, xz, rfl, hxn⟩ := sxx.form
        obtain ⟨lf, hlf⟩ : ∃ lf : Nat, p.left = lf := ⟨p.left.toNat, by omega⟩
        rw [hlf] at ht1
        have e8 : Ext hx ((hx.add (.cells [.int .i64 0, .slc none 0 (some 0) 0, .slc none 0 (some 0) 0] true)).put hx.nxt (.cells [.int .i64 (lf : Nat), .slc ra rn rc rz, .slc xa xn xc xz] true)) := (Ext.add _ _).put (Nat.le_refl _)
        have g8 : ((hx.add (.cells [.int .i64 0, .slc none 0 (some 0) 0, .slc none 0 (some 0) 0] true)).put hx.nxt (.cells [.int .i64 (lf : Nat), .slc ra rn rc rz, .slc xa xn xc xz] true)).get hx.nxt = some (.cells [.int .i64 (lf : Nat), .slc ra rn rc rz, .slc xa xn xc xz] true) := get_put_self
        have n8 : ((hx.add (.cells [.int .i64 0, .slc none 0 (some 0) 0, .slc none 0 (some 0) 0] true)).put hx.nxt (.cells [.int .i64 (lf : Nat), .slc ra rn rc rz, .slc xa xn xc xz] true)).nxt = hx.nxt + 1 := by simp
        have s8 := (e8.get (h.nxt + 3) (by omega)).trans sh
        have gg8 := (e8.get h.nxt (by omega)).trans gh
        simp (disch := first | ((try simp only [heapN]) <;> omega) | fail) only [go_sem, seval, gh, hlti, hg1, hr1', ht1, g8, s8, gg8, Int.toNat_natCast]
        generalize ((hx.add (.cells [.int .i64 0, .slc none 0 (some 0) 0, .slc none 0 (some 0) 0] true)).put hx.nxt (.cells [.int .i64 (lf : Nat), .slc ra rn rc rz, .slc xa xn xc xz] true)) = h8 at *
        have hun := A.shape.nu
        subst htn
        subst hnn
        have p8 := p07.trans (u.pst.trans e8.pst)
        have H8 := HH.ext e8
        have w42 := RRow_uf (nb := h.nxt + 2) (nu := S'.nu) (ov := .slc (some (b4, o4)) on oc 1) (lt.pst p8) (sn.pst p8) (sp.pst p8) (by rw [hun]; exact H8.b) H8.f ⟨_, _, _, _, rfl⟩ (sr.ext e8) hun A.shape.fi.len q4' (by omega) M
        rw [hun] at w42
        refine callV_ofU F_42 rfl (w42.mono ?_)
        rintro v9 h9 ⟨e9, w, rfl, L9⟩
        have hn9 := e9.nxt
        have u9 : Upd W h7 h9 := u.trans ((e8.trans e9).upd _)
        have H9 := H8.ext e9
        have b9 := (e9.get hx.nxt (by omega)).trans g8
        have s9 := (e9.get (h.nxt + 3) (by omega)).trans s8
        have gg9 := (e9.get h.nxt (by omega)).trans gg8
        have hbeg := begL_len g.toks.length S'.nu S'.fi p.right
        obtain ⟨f, hf⟩ : ∃ f, f = (begL g.toks.length S'.nu S'.fi p.right).1 := ⟨_, rfl⟩
        obtain ⟨nl, hnl'⟩ : ∃ nl, nl = (begL g.toks.length S'.nu S'.fi p.right).2 := ⟨_, rfl⟩
        rw [← hf] at L9 hbeg
        rw [← hnl']
        obtain ⟨wa, wn, wc, wz, rfl, hwn⟩ := L9.form
        have hlfn : lf < S'.nu.length := by omega
        have q6 : (lf : Int) < ((g.nts.length : Nat) : Int) := by omega
        have gN := H9.b.2.2
        have cN : (S'.nu.map AV.bool)[lf * 1]? = some (.bool (S'.nu.getD lf false)) := by rw [Nat.mul_one, List.getElem?_map, List.getD_eq_getElem?_getD, List.getElem?_eq_getElem hlfn]; rfl
        have hroomN : lf * 1 + 1 ≤ (S'.nu.map AV.bool).length := by simp; omega
        clear hk k1 k2 k3 k5 k6 HH H8
        cases nl with
        | false =>
          have A1 : Adv3 g.toks.length g.nts.length g.prods S S' gr (fun s => (∀ i', i' < i → ∀ p, g.prods[i']? = some p → Cls g.toks.length p s) ∧ (NullS (B1 s.nu) p.right → B1 s.nu p.left.toNat)) := A.weak fun hg hS h => ⟨h, fun hn => by
            rw [← hS] at hn
            rw [begL_null.2 hn] at hnl'; cases hnl'⟩
          have sub : ∀ k, B1 S'.nu k → B1 S'.nu k := fun _ h => h
          have hfi : S'.fi = S'.fi := rfl
          have same : gr = false → S' = S' := fun _ => rfl
          have u10 := u9
          have H10 := H9
          have b10 := b9
          have s10 := s9
          have g10 := gg9
          have L10 := L9
          have px10 := e8.pst.trans e9.pst
          simp (disch := first | ((try simp only [heapN]) <;> omega) | fail) only [go_sem, seval]
          -- A1, H10, u10 : Upd W h7 h10, sub, hfi, same, L10, b10 (box of the production), s10, g10
          have hn10 := u10.nxt
          obtain ⟨b5, o5, cs5, kb, r, rfl, e5', q5, hb5, hg5, c5, hkb, hrr, hrl, Br⟩ := H10.f.at_ (k := lf) (by rw [A1.shape.fi.len]; omega)
          cases e5'
          have hkw := W3 kb (List.mem_of_getElem? hkb)
          have hkh := Br.2.1
          have hkh3 := hr1 kb (List.mem_of_getElem? hkb)
          have hkh6 := l1 kb (List.mem_of_getElem? hkb)
          have hne5 : b5 ≠ kb := fun e => by rw [e, Br.2.2] at hg5; simp at hg5
          refine LoopU_while (fun m st hy => ∃ (t : Nat), t ≤ g.toks.length ∧ m = g.toks.length - t ∧ Upd (· = kb) h9 hy ∧ Bits hy kb (.slc (some (kb, 0)) g.toks.length (some g.toks.length) 1) (orT r f t) ∧
              Keep st 139 [(1, .ptr (some (h.nxt, 0))), (2, .ptr (some (h.nxt + 1, 0))), (3, .ptr (some (h.nxt + 3, 0))), (5, .bool (if grw r f t = true then true else gr)), (6, .int .i64 (i : Nat)), (7, .ptr (some (hx.nxt, 0))), (8, .slc wa wn wc wz), (10, .int .i64 (t : Nat))]) g.toks.length
            ⟨0, by omega, by omega, Upd.refl _ _, Br, rfl, by simp [Has, grw]⟩ ?_
          rintro m st hy ⟨t, ht, rfl, uy, By, hk⟩
          rw [hk.eq]
          obtain ⟨k1, k2, k3, k5, k6, k7, k8, k10, -⟩ := hk.2
          simp only [slotsFrom, Nat.reduceAdd] at k1 k2 k3 k5 k6 k7 k8 k10 ⊢
          simp only [k1, k2, k3, k5, k6, k7, k8, k10]
          have hny := uy.nxt
          by_cases hltt : (t : Int) < (wn : Int)
          · have htl2 : t < g.toks.length := by omega
            have gB := By.2.2
            have hol := orT_len r f t
            have cB : ((orT r f t).map AV.bool)[t * 1]? = some (.bool (r.getD t false)) := by rw [← orT_at (ys := f) (by omega), Nat.mul_one, List.getElem?_map, List.getD_eq_getElem?_getD, List.getElem?_eq_getElem (by omega)]; rfl
            have hroom : t * 1 + 1 ≤ ((orT r f t).map AV.bool).length := by simp; omega
            have b11 := (uy.get hx.nxt (by omega) (by omega)).trans b10
            have s11 := (uy.get (h.nxt + 3) (by omega) (by omega)).trans s10
            have gx5 := uy.pst.frz _ _ hb5 hg5
            have uP : Upd (· = kb) hy (hy.put kb (.cells (((orT r f t).map AV.bool).set t (.bool true)) true)) := Upd.put _ rfl fun cs e => by rw [gB] at e; simp at e
            have BP := By.set t true
            have yes := orT_yes (xs := r) (ys := f) (t := t) (by omega)
            have tno : (r.getD t false = true ∨ f.getD t false = false) → Bits hy kb (.slc (some (kb, 0)) g.toks.length (some g.toks.length) 1) (orT r f (t + 1)) ∧ grw r f (t + 1) = grw r f t := fun h => by
              obtain ⟨x1, x2⟩ := orT_no (ys := f) h (by omega)
              rw [x1]; exact ⟨By, x2⟩
            obtain ⟨bw, ow, csw, lw, rfl, rfl, hbw, hgw, rfl, hrw, htw, hcw⟩ := (L10.pst uy.pst).at_ (i := t) (x := f[t]) (List.getElem?_eq_getElem (by omega)) (k := 1) rfl
            have cw : csw[ow + t * 1]? = some (.bool (f.getD t false)) := by rw [List.getD_eq_getElem?_getD, List.getElem?_eq_getElem (l := f) (by omega), Option.getD_some]; exact hcw 0 (by decide)
            generalize r.getD t false = x at *
            generalize f.getD t false = y at *
            cases y with
            | false =>
              obtain ⟨B', g'⟩ := tno (.inr rfl)
              simp (disch := first | ((try simp only [heapN]) <;> omega) | fail) only [go_sem, seval, hltt, hgw, cw, Int.toNat_natCast]
              exact AgainK.mk (g.toks.length - (t + 1)) (by simp only; omega) ⟨t + 1, by omega, rfl, uy, B', rfl, by simp [Has, g']⟩
            | true =>
              cases x with
              | true =>
                obtain ⟨B', g'⟩ := tno (.inl rfl)
                simp (disch := first | ((try simp only [heapN]) <;> omega) | fail) only [go_sem, seval, hltt, hgw, cw, s11, b11, q5, gx5, c5, gB, cB, Int.toNat_natCast]
                exact AgainK.mk (g.toks.length - (t + 1)) (by simp only; omega) ⟨t + 1, by omega, rfl, uy, B', rfl, by simp [Has, g']⟩
              | false =>
                obtain ⟨y1, y2⟩ := yes rfl rfl
                rw [← y1] at BP
                simp (disch := first | ((try simp only [heapN]) <;> omega) | fail) only [go_sem, seval, hltt, hgw, cw, s11, b11, q5, gx5, c5, gB, cB, hroom, Int.toNat_natCast]
                rw [Nat.mul_one]
                exact AgainK.mk (g.toks.length - (t + 1)) (by simp only; omega) ⟨t + 1, by omega, rfl, uy.trans uP, BP, rfl, by simp [Has, y2]⟩
          · have hte : t = g.toks.length := by omega
            subst hte
            simp (disch := first | ((try simp only [heapN]) <;> omega) | fail) only [go_sem, seval, hltt]
            have hlf2 : p.left.toNat = lf := by rw [hlf, Int.toNat_natCast]
            have A2 := A1.fir (p := p) (r := r) (ys := f) (m := g.toks.length) (List.mem_of_getElem? hpi) (by rw [hlf2]; exact hrr) (Nat.le_refl _) (fun hs x hx hyx N Fi Fo c1 c2 c3 => by
              obtain ⟨x1, x2, x3⟩ := hs N Fi Fo c1 c2 c3
              rw [hf] at hyx
              exact ((begL_row hx).1 hyx).mono (fun k hk => x1 k (sub k hk)) (fun k hk => x2 k x (by rw [hfi]; exact hk)))
            rw [hlf2] at A2
            obtain ⟨S2, hS2⟩ : ∃ S2 : Tri, S2 = { S' with fi := (S').fi.set lf (orT r f g.toks.length) } := ⟨_, rfl⟩
            obtain ⟨gr2, hg2⟩ : ∃ gr2, gr2 = if grw r f g.toks.length = true then true else gr := ⟨_, rfl⟩
            rw [← hS2, ← hg2] at A2
            rw [← hg2]
            have A3 : Adv3 g.toks.length g.nts.length g.prods S S2 gr2 (fun s => ((∀ i', i' < i → ∀ p, g.prods[i']? = some p → Cls g.toks.length p s) ∧ ((NullS (B1 s.nu) p.right → B1 s.nu p.left.toNat) ∧ ∀ x, x < g.toks.length → RowP (B1 s.nu) (B2 s.fi) p.right x → B2 s.fi p.left.toNat x)) ∧ ∀ j', j' < 0 → OkPos g.toks.length (B1 s.nu) (B2 s.fi) (B2 s.fo) p j') := A2.weak fun hg hS h => ⟨⟨h.1.1, fun hn => by rw [hlf2]; exact h.1.2 hn, fun x hx hrp => by
              have hgr : gr = false := by
                rw [hg2] at hg
                split at hg
                · cases hg
                · exact hg
              have e1 := same hgr
              have e2 := (A1.stop hgr).1
              rw [← e2, e1] at hrp
              rw [hlf2]
              exact h.2 x hx (by rw [hf]; exact (begL_row hx).2 hrp)⟩, fun j' hj => by omega⟩
            have H11 : HS hy (h.nxt + 2) (.slc (some (b5, o5)) fn fc 1) (.slc (some (b4, o4)) on oc 1) g.toks.length g.nts.length bl1 bl2 S2 := by
              rw [hS2]
              exact ⟨H10.b.upd uy (by omega), H10.f.write hkb uy (by rw [orT_len]; exact hrl) By, H10.o.upd uy fun b hb e => hd12 kb (List.mem_of_getElem? hkb) (by rw [← e]; exact hb)⟩
            have u11 : Upd W h7 hy := u10.trans (uy.weak fun b _ e => by rw [e]; exact hkw)
            have b11 := (uy.get hx.nxt (by omega) (by omega)).trans b10
            have px := px10.trans uy.pst
            clear A2 hS2 hg2 By H10 A1 k1 k2 k3 k5 k6 k7 k8 k10 hk
            refine LoopU_while (fun m st hz => ∃ (j : Nat) (S3 : Tri) (gr3 : Bool), j ≤ p.right.length ∧ m = p.right.length - j ∧ Adv3 g.toks.length g.nts.length g.prods S S3 gr3 (fun s => ((∀ i', i' < i → ∀ p, g.prods[i']? = some p → Cls g.toks.length p s) ∧ ((NullS (B1 s.nu) p.right → B1 s.nu p.left.toNat) ∧ ∀ x, x < g.toks.length → RowP (B1 s.nu) (B2 s.fi) p.right x → B2 s.fi p.left.toNat x)) ∧ ∀ j', j' < j → OkPos g.toks.length (B1 s.nu) (B2 s.fi) (B2 s.fo) p j') ∧
                Upd W h7 hz ∧ Pst hx hz ∧ hx.nxt < hz.nxt ∧ hz.get hx.nxt = some (.cells [.int .i64 (lf : Nat), .slc ra rn rc rz, .slc xa xn xc xz] true) ∧ HS hz (h.nxt + 2) (.slc (some (b5, o5)) fn fc 1) (.slc (some (b4, o4)) on oc 1) g.toks.length g.nts.length bl1 bl2 S3 ∧
                Keep st 139 [(1, .ptr (some (h.nxt, 0))), (2, .ptr (some (h.nxt + 1, 0))), (3, .ptr (some (h.nxt + 3, 0))), (5, .bool gr3), (6, .int .i64 (i : Nat)), (7, .ptr (some (hx.nxt, 0))), (11, .int .i64 (j : Nat))]) p.right.length
              ⟨0, S2, gr2, by omega, by omega, A3, u11, px, by omega, b11, H11, rfl, by simp [Has]⟩ ?_
            clear A3 H11 u11 b11 px
            rintro m st hz ⟨j, S3, gr3, hj, rfl, A, uz, pz, hnz, bz, HZ, hk⟩
            rw [hk.eq]
            obtain ⟨k1, k2, k3, k5, k6, k7, k11, -⟩ := hk.2
            simp only [slotsFrom, Nat.reduceAdd] at k1 k2 k3 k5 k6 k7 k11 ⊢
            simp only [k1, k2, k3, k5, k6, k7, k11]
            have hnz7 := uz.nxt
            have sz := (uz.get (h.nxt + 3) (by omega) wn3).trans s7
            have gz := (uz.get h.nxt (by omega) wn1).trans g7
            by_cases hltj : (j : Int) < (rn : Int)
            · have hjl : j < p.right.length := by omega
              obtain ⟨b6, o6, cs6, l6', rfl, rfl, hb6, hg6, rfl, hr6, ht6, hc6⟩ := (sr.pst pz).at_ (i := j) (x := p.right[j]) (List.getElem?_eq_getElem hjl) (k := 2) rfl
              have hpj := List.getElem?_eq_getElem hjl
              have c6 : cs6[o6 + j * 2]? = some (.bool p.right[j].tok) := hc6 0 (by decide)
              generalize p.right[j] = s at *
              cases htk : s.tok with
              | true =>
                rw [htk] at c6
                simp (disch := first | ((try simp only [heapN]) <;> omega) | fail) only [go_sem, seval, hltj, bz, hg6, c6, Int.toNat_natCast]
                exact AgainK.mk (p.right.length - (j + 1)) (by simp only; omega) ⟨j + 1, S3, gr3, by omega, rfl, (A.tok hpj htk).weak (fun _ _ h => ⟨h.1.1, fun j' hj' => lt_or (fun x => h.1.2 j' x) h.2 hj'⟩), uz, pz, hnz, bz, HZ, rfl, by simp [Has]⟩
              | false =>
                rw [htk] at c6
                simp (disch := first | ((try simp only [heapN]) <;> omega) | fail) only [go_sem, seval, hltj, bz, hg6, c6, sz, gz, Int.toNat_natCast]
                have hun3 := A.shape.nu
                have p7z := p07.trans uz.pst
                have w83 := behind_uf (nb := h.nxt + 2) (k := j) (nu := S3.nu) (fv := .slc (some (b5, o5)) fn fc 1) (ov := .slc (some (b4, o4)) on oc 1) (xv := .slc xa xn xc xz) (lt.pst p7z) (sn.pst p7z) (sp.pst p7z) (by rw [hun3]; exact HZ.b) HZ.f HZ.o (sr.pst pz) ⟨_, _, _, _, rfl⟩ hun3 A.shape.fi A.shape.fo ⟨fun hin => by have := hr2 _ hin; omega, hd12⟩ ⟨⟨q1', q2⟩, q3, q4'⟩ hpj htk M
                rw [hun3, hlf] at w83
                refine callV_ofU F_83 rfl (w83.mono ?_)
                rintro v12 h12 ⟨u12, rr, LL, hr2', hL2, T2, rfl⟩
                rw [← hlf] at hL2
                have A4 := A.beh (List.mem_of_getElem? hpi) hpj htk hr2' hL2
                have u13 := uz.trans (u12.weak fun b _ e => W4 b e)
                have H13 : HS h12 (h.nxt + 2) (.slc (some (b5, o5)) fn fc 1) (.slc (some (b4, o4)) on oc 1) g.toks.length g.nts.length bl1 bl2 { S3 with fo := S3.fo.set s.at_.toNat (orT rr (behY g.toks.length (begL g.toks.length S3.nu S3.fi (p.right.drop (j + 1))).1 (begL g.toks.length S3.nu S3.fi (p.right.drop (j + 1))).2 LL) (g.toks.length + 1)) } := ⟨HZ.b.upd u12 (fun hin => by have := hr2 _ hin; omega), HZ.f.upd u12 fun b hb => hd12 b hb, T2⟩
                have b13 := (u12.get hx.nxt hnz fun hin => by have := l2 _ hin; omega).trans bz
                have n12 := u12.nxt
                generalize behY g.toks.length (begL g.toks.length S3.nu S3.fi (p.right.drop (j + 1))).1 (begL g.toks.length S3.nu S3.fi (p.right.drop (j + 1))).2 LL = Y at *
                have A5 := A4.weak (Cl' := fun s => ((∀ i', i' < i → ∀ p, g.prods[i']? = some p → Cls g.toks.length p s) ∧ ((NullS (B1 s.nu) p.right → B1 s.nu p.left.toNat) ∧ ∀ x, x < g.toks.length → RowP (B1 s.nu) (B2 s.fi) p.right x → B2 s.fi p.left.toNat x)) ∧ ∀ j', j' < j + 1 → OkPos g.toks.length (B1 s.nu) (B2 s.fi) (B2 s.fo) p j') (fun _ _ h => ⟨h.1.1, fun j' hj' => lt_or (fun x => h.1.2 j' x) h.2 hj'⟩)
                cases hgw : grw rr Y (g.toks.length + 1) with
                | true =>
                  rw [hgw, if_pos rfl] at A5
                  simp (disch := first | ((try simp only [heapN]) <;> omega) | fail) only [go_sem, seval]
                  exact AgainK.mk (p.right.length - (j + 1)) (by simp only; omega) ⟨j + 1, _, true, by omega, rfl, A5, u13, pz.trans u12.pst, by omega, b13, H13, rfl, by simp [Has]⟩
                | false =>
                  rw [hgw, if_neg (by simp)] at A5
                  simp (disch := first | ((try simp only [heapN]) <;> omega) | fail) only [go_sem, seval]
                  exact AgainK.mk (p.right.length - (j + 1)) (by simp only; omega) ⟨j + 1, _, gr3, by omega, rfl, A5, u13, pz.trans u12.pst, by omega, b13, H13, rfl, by simp [Has]⟩
            · simp (disch := first | ((try simp only [heapN]) <;> omega) | fail) only [go_sem, seval, hltj, bz]
              exact AgainK.mk (g.prods.length - (i + 1)) (by simp only; omega) ⟨i + 1, S3, gr3, by omega, rfl, A.weak (fun _ _ h i' hi' p' hp' => by
                rcases Nat.lt_or_ge i' i with h3 | h3
                · exact h.1.1 i' h3 p' hp'
                · have : i' = i := by omega
                  subst this
                  rw [hpi] at hp'
                  cases hp'
                  refine ⟨h.1.2, fun j' => ?_⟩
                  rcases Nat.lt_or_ge j' j with h4 | h4
                  · exact h.2 j' h4
                  · intro s hs
                    rw [List.getElem?_eq_none (by omega)] at hs; cases hs), uz, HZ, rfl, by simp [Has]⟩
        | true =>
          cases hx1 : S'.nu.getD lf false with
          | true =>
            rw [hx1] at cN
            have A1 : Adv3 g.toks.length g.nts.length g.prods S S' gr (fun s => (∀ i', i' < i → ∀ p, g.prods[i']? = some p → Cls g.toks.length p s) ∧ (NullS (B1 s.nu) p.right → B1 s.nu p.left.toNat)) := A.weak fun hg hS h => ⟨h, fun _ => by
              rw [← hS, hlf, Int.toNat_natCast]; exact hx1⟩
            have sub : ∀ k, B1 S'.nu k → B1 S'.nu k := fun _ h => h
            have hfi : S'.fi = S'.fi := rfl
            have same : gr = false → S' = S' := fun _ => rfl
            have u10 := u9
            have H10 := H9
            have b10 := b9
            have s10 := s9
            have g10 := gg9
            have L10 := L9
            have px10 := e8.pst.trans e9.pst
            simp (disch := first | ((try simp only [heapN]) <;> omega) | fail) only [go_sem, seval, s9, b9, q6, gN, cN, Int.toNat_natCast]
            -- A1, H10, u10 : Upd W h7 h10, sub, hfi, same, L10, b10 (box of the production), s10, g10
            have hn10 := u10.nxt
            obtain ⟨b5, o5, cs5, kb, r, rfl, e5', q5, hb5, hg5, c5, hkb, hrr, hrl, Br⟩ := H10.f.at_ (k := lf) (by rw [A1.shape.fi.len]; omega)
            cases e5'
            have hkw := W3 kb (List.mem_of_getElem? hkb)
            have hkh := Br.2.1
            have hkh3 := hr1 kb (List.mem_of_getElem? hkb)
            have hkh6 := l1 kb (List.mem_of_getElem? hkb)
            have hne5 : b5 ≠ kb := fun e => by rw [e, Br.2.2] at hg5; simp at hg5
            refine LoopU_while (fun m st hy => ∃ (t : Nat), t ≤ g.toks.length ∧ m = g.toks.length - t ∧ Upd (· = kb) h9 hy ∧ Bits hy kb (.slc (some (kb, 0)) g.toks.length (some g.toks.length) 1) (orT r f t) ∧
                Keep st 139 [(1, .ptr (some (h.nxt, 0))), (2, .ptr (some (h.nxt + 1, 0))), (3, .ptr (some (h.nxt + 3, 0))), (5, .bool (if grw r f t = true then true else gr)), (6, .int .i64 (i : Nat)), (7, .ptr (some (hx.nxt, 0))), (8, .slc wa wn wc wz), (10, .int .i64 (t : Nat))]) g.toks.length
              ⟨0, by omega, by omega, Upd.refl _ _, Br, rfl, by simp [Has, grw]⟩ ?_
            rintro m st hy ⟨t, ht, rfl, uy, By, hk⟩
            rw [hk.eq]
            obtain ⟨k1, k2, k3, k5, k6, k7, k8, k10, -⟩ := hk.2
            simp only [slotsFrom, Nat.reduceAdd] at k1 k2 k3 k5 k6 k7 k8 k10 ⊢
            simp only [k1, k2, k3, k5, k6, k7, k8, k10]
            have hny := uy.nxt
            by_cases hltt : (t : Int) < (wn : Int)
            · have htl2 : t < g.toks.length := by omega
              have gB := By.2.2
              have hol := orT_len r f t
              have cB : ((orT r f t).map AV.bool)[t * 1]? = some (.bool (r.getD t false)) := by rw [← orT_at (ys := f) (by omega), Nat.mul_one, List.getElem?_map, List.getD_eq_getElem?_getD, List.getElem?_eq_getElem (by omega)]; rfl
              have hroom : t * 1 + 1 ≤ ((orT r f t).map AV.bool).length := by simp; omega
              have b11 := (uy.get hx.nxt (by omega) (by omega)).trans b10
              have s11 := (uy.get (h.nxt + 3) (by omega) (by omega)).trans s10
              have gx5 := uy.pst.frz _ _ hb5 hg5
              have uP : Upd (· = kb) hy (hy.put kb (.cells (((orT r f t).map AV.bool).set t (.bool true)) true)) := Upd.put _ rfl fun cs e => by rw [gB] at e; simp at e
              have BP := By.set t true
              have yes := orT_yes (xs := r) (ys := f) (t := t) (by omega)
              have tno : (r.getD t false = true ∨ f.getD t false = false) → Bits hy kb (.slc (some (kb, 0)) g.toks.length (some g.toks.length) 1) (orT r f (t + 1)) ∧ grw r f (t + 1) = grw r f t := fun h => by
                obtain ⟨x1, x2⟩ := orT_no (ys := f) h (by omega)
                rw [x1]; exact ⟨By, x2⟩
              obtain ⟨bw, ow, csw, lw, rfl, rfl, hbw, hgw, rfl, hrw, htw, hcw⟩ := (L10.pst uy.pst).at_ (i := t) (x := f[t]) (List.getElem?_eq_getElem (by omega)) (k := 1) rfl
              have cw : csw[ow + t * 1]? = some (.bool (f.getD t false)) := by rw [List.getD_eq_getElem?_getD, List.getElem?_eq_getElem (l := f) (by omega), Option.getD_some]; exact hcw 0 (by decide)
              generalize r.getD t false = x at *
              generalize f.getD t false = y at *
              cases y with
              | false =>
                obtain ⟨B', g'⟩ := tno (.inr rfl)
                simp (disch := first | ((try simp only [heapN]) <;> omega) | fail) only [go_sem, seval, hltt, hgw, cw, Int.toNat_natCast]
                exact AgainK.mk (g.toks.length - (t + 1)) (by simp only; omega) ⟨t + 1, by omega, rfl, uy, B', rfl, by simp [Has, g']⟩
              | true =>
                cases x with
                | true =>
                  obtain ⟨B', g'⟩ := tno (.inl rfl)
                  simp (disch := first | ((try simp only [heapN]) <;> omega) | fail) only [go_sem, seval, hltt, hgw, cw, s11, b11, q5, gx5, c5, gB, cB, Int.toNat_natCast]
                  exact AgainK.mk (g.toks.length - (t + 1)) (by simp only; omega) ⟨t + 1, by omega, rfl, uy, B', rfl, by simp [Has, g']⟩
                | false =>
                  obtain ⟨y1, y2⟩ := yes rfl rfl
                  rw [← y1] at BP
                  simp (disch := first | ((try simp only [heapN]) <;> omega) | fail) only [go_sem, seval, hltt, hgw, cw, s11, b11, q5, gx5, c5, gB, cB, hroom, Int.toNat_natCast]
                  rw [Nat.mul_one]
                  exact AgainK.mk (g.toks.length - (t + 1)) (by simp only; omega) ⟨t + 1, by omega, rfl, uy.trans uP, BP, rfl, by simp [Has, y2]⟩
            · have hte : t = g.toks.length := by omega
              subst hte
              simp (disch := first | ((try simp only [heapN]) <;> omega) | fail) only [go_sem, seval, hltt]
              have hlf2 : p.left.toNat = lf := by rw [hlf, Int.toNat_natCast]
              have A2 := A1.fir (p := p) (r := r) (ys := f) (m := g.toks.length) (List.mem_of_getElem? hpi) (by rw [hlf2]; exact hrr) (Nat.le_refl _) (fun hs x hx hyx N Fi Fo c1 c2 c3 => by
                obtain ⟨x1, x2, x3⟩ := hs N Fi Fo c1 c2 c3
                rw [hf] at hyx
                exact ((begL_row hx).1 hyx).mono (fun k hk => x1 k (sub k hk)) (fun k hk => x2 k x (by rw [hfi]; exact hk)))
              rw [hlf2] at A2
              obtain ⟨S2, hS2⟩ : ∃ S2 : Tri, S2 = { S' with fi := (S').fi.set lf (orT r f g.toks.length) } := ⟨_, rfl⟩
              obtain ⟨gr2, hg2⟩ : ∃ gr2, gr2 = if grw r f g.toks.length = true then true else gr := ⟨_, rfl⟩
              rw [← hS2, ← hg2] at A2
              rw [← hg2]
              have A3 : Adv3 g.toks.length g.nts.length g.prods S S2 gr2 (fun s => ((∀ i', i' < i → ∀ p, g.prods[i']? = some p → Cls g.toks.length p s) ∧ ((NullS (B1 s.nu) p.right → B1 s.nu p.left.toNat) ∧ ∀ x, x < g.toks.length → RowP (B1 s.nu) (B2 s.fi) p.right x → B2 s.fi p.left.toNat x)) ∧ ∀ j', j' < 0 → OkPos g.toks.length (B1 s.nu) (B2 s.fi) (B2 s.fo) p j') := A2.weak fun hg hS h => ⟨⟨h.1.1, fun hn => by rw [hlf2]; exact h.1.2 hn, fun x hx hrp => by
                have hgr : gr = false := by
                  rw [hg2] at hg
                  split at hg
                  · cases hg
                  · exact hg
                have e1 := same hgr
                have e2 := (A1.stop hgr).1
                rw [← e2, e1] at hrp
                rw [hlf2]
                exact h.2 x hx (by rw [hf]; exact (begL_row hx).2 hrp)⟩, fun j' hj => by omega⟩
              have H11 : HS hy (h.nxt + 2) (.slc (some (b5, o5)) fn fc 1) (.slc (some (b4, o4)) on oc 1) g.toks.length g.nts.length bl1 bl2 S2 := by
                rw [hS2]
                exact ⟨H10.b.upd uy (by omega), H10.f.write hkb uy (by rw [orT_len]; exact hrl) By, H10.o.upd uy fun b hb e => hd12 kb (List.mem_of_getElem? hkb) (by rw [← e]; exact hb)⟩
              have u11 : Upd W h7 hy := u10.trans (uy.weak fun b _ e => by rw [e]; exact hkw)
              have b11 := (uy.get hx.nxt (by omega) (by omega)).trans b10
              have px := px10.trans uy.pst
              clear A2 hS2 hg2 By H10 A1 k1 k2 k3 k5 k6 k7 k8 k10 hk
              refine LoopU_while (fun m st hz => ∃ (j : Nat) (S3 : Tri) (gr3 : Bool), j ≤ p.right.length ∧ m = p.right.length - j ∧ Adv3 g.toks.length g.nts.length g.prods S S3 gr3 (fun s => ((∀ i', i' < i → ∀ p, g.prods[i']? = some p → Cls g.toks.length p s) ∧ ((NullS (B1 s.nu) p.right → B1 s.nu p.left.toNat) ∧ ∀ x, x < g.toks.length → RowP (B1 s.nu) (B2 s.fi) p.right x → B2 s.fi p.left.toNat x)) ∧ ∀ j', j' < j → OkPos g.toks.length (B1 s.nu) (B2 s.fi) (B2 s.fo) p j') ∧
                  Upd W h7 hz ∧ Pst hx hz ∧ hx.nxt < hz.nxt ∧ hz.get hx.nxt = some (.cells [.int .i64 (lf : Nat), .slc ra rn rc rz, .slc xa xn xc xz] true) ∧ HS hz (h.nxt + 2) (.slc (some (b5, o5)) fn fc 1) (.slc (some (b4, o4)) on oc 1) g.toks.length g.nts.length bl1 bl2 S3 ∧
                  Keep st 139 [(1, .ptr (some (h.nxt, 0))), (2, .ptr (some (h.nxt + 1, 0))), (3, .ptr (some (h.nxt + 3, 0))), (5, .bool gr3), (6, .int .i64 (i : Nat)), (7, .ptr (some (hx.nxt, 0))), (11, .int .i64 (j : Nat))]) p.right.length
                ⟨0, S2, gr2, by omega, by omega, A3, u11, px, by omega, b11, H11, rfl, by simp [Has]⟩ ?_
              clear A3 H11 u11 b11 px
              rintro m st hz ⟨j, S3, gr3, hj, rfl, A, uz, pz, hnz, bz, HZ, hk⟩
              rw [hk.eq]
              obtain ⟨k1, k2, k3, k5, k6, k7, k11, -⟩ := hk.2
              simp only [slotsFrom, Nat.reduceAdd] at k1 k2 k3 k5 k6 k7 k11 ⊢
              simp only [k1, k2, k3, k5, k6, k7, k11]
              have hnz7 := uz.nxt
              have sz := (uz.get (h.nxt + 3) (by omega) wn3).trans s7
              have gz := (uz.get h.nxt (by omega) wn1).trans g7
              by_cases hltj : (j : Int) < (rn : Int)
              · have hjl : j < p.right.length := by omega
                obtain ⟨b6, o6, cs6, l6', rfl, rfl, hb6, hg6, rfl, hr6, ht6, hc6⟩ := (sr.pst pz).at_ (i := j) (x := p.right[j]) (List.getElem?_eq_getElem hjl) (k := 2) rfl
                have hpj := List.getElem?_eq_getElem hjl
                have c6 : cs6[o6 + j * 2]? = some (.bool p.right[j].tok) := hc6 0 (by decide)
                generalize p.right[j] = s at *
                cases htk : s.tok with
                | true =>
                  rw [htk] at c6
                  simp (disch := first | ((try simp only [heapN]) <;> omega) | fail) only [go_sem, seval, hltj, bz, hg6, c6, Int.toNat_natCast]
                  exact AgainK.mk (p.right.length - (j + 1)) (by simp only; omega) ⟨j + 1, S3, gr3, by omega, rfl, (A.tok hpj htk).weak (fun _ _ h => ⟨h.1.1, fun j' hj' => lt_or (fun x => h.1.2 j' x) h.2 hj'⟩), uz, pz, hnz, bz, HZ, rfl, by simp [Has]⟩
                | false =>
                  rw [htk] at c6
                  simp (disch := first | ((try simp only [heapN]) <;> omega) | fail) only [go_sem, seval, hltj, bz, hg6, c6, sz, gz, Int.toNat_natCast]
                  have hun3 := A.shape.nu
                  have p7z := p07.trans uz.pst
                  have w83 := behind_uf (nb := h.nxt + 2) (k := j) (nu := S3.nu) (fv := .slc (some (b5, o5)) fn fc 1) (ov := .slc (some (b4, o4)) on oc 1) (xv := .slc xa xn xc xz) (lt.pst p7z) (sn.pst p7z) (sp.pst p7z) (by rw [hun3]; exact HZ.b) HZ.f HZ.o (sr.pst pz) ⟨_, _, _, _, rfl⟩ hun3 A.shape.fi A.shape.fo ⟨fun hin => by have := hr2 _ hin; omega, hd12⟩ ⟨⟨q1', q2⟩, q3, q4'⟩ hpj htk M
                  rw [hun3, hlf] at w83
                  refine callV_ofU F_83 rfl (w83.mono ?_)
                  rintro v12 h12 ⟨u12, rr, LL, hr2', hL2, T2, rfl⟩
                  rw [← hlf] at hL2
                  have A4 := A.beh (List.mem_of_getElem? hpi) hpj htk hr2' hL2
                  have u13 := uz.trans (u12.weak fun b _ e => W4 b e)
                  have H13 : HS h12 (h.nxt + 2) (.slc (some (b5, o5)) fn fc 1) (.slc (some (b4, o4)) on oc 1) g.toks.length g.nts.length bl1 bl2 { S3 with fo := S3.fo.set s.at_.toNat (orT rr (behY g.toks.length (begL g.toks.length S3.nu S3.fi (p.right.drop (j + 1))).1 (begL g.toks.length S3.nu S3.fi (p.right.drop (j + 1))).2 LL) (g.toks.length + 1)) } := ⟨HZ.b.upd u12 (fun hin => by have := hr2 _ hin; omega), HZ.f.upd u12 fun b hb => hd12 b hb, T2⟩
                  have b13 := (u12.get hx.nxt hnz fun hin => by have := l2 _ hin; omega).trans bz
                  have n12 := u12.nxt
                  generalize behY g.toks.length (begL g.toks.length S3.nu S3.fi (p.right.drop (j + 1))).1 (begL g.toks.length S3.nu S3.fi (p.right.drop (j + 1))).2 LL = Y at *
                  have A5 := A4.weak (Cl' := fun s => ((∀ i', i' < i → ∀ p, g.prods[i']? = some p → Cls g.toks.length p s) ∧ ((NullS (B1 s.nu) p.right → B1 s.nu p.left.toNat) ∧ ∀ x, x < g.toks.length → RowP (B1 s.nu) (B2 s.fi) p.right x → B2 s.fi p.left.toNat x)) ∧ ∀ j', j' < j + 1 → OkPos g.toks.length (B1 s.nu) (B2 s.fi) (B2 s.fo) p j') (fun _ _ h => ⟨h.1.1, fun j' hj' => lt_or (fun x => h.1.2 j' x) h.2 hj'⟩)
                  cases hgw : grw rr Y (g.toks.length + 1) with
                  | true =>
                    rw [hgw, if_pos rfl] at A5
                    simp (disch := first | ((try simp only [heapN]) <;> omega) | fail) only [go_sem, seval]
                    exact AgainK.mk (p.right.length - (j + 1)) (by simp only; omega) ⟨j + 1, _, true, by omega, rfl, A5, u13, pz.trans u12.pst, by omega, b13, H13, rfl, by simp [Has]⟩
                  | false =>
                    rw [hgw, if_neg (by simp)] at A5
                    simp (disch := first | ((try simp only [heapN]) <;> omega) | fail) only [go_sem, seval]
                    exact AgainK.mk (p.right.length - (j + 1)) (by simp only; omega) ⟨j + 1, _, gr3, by omega, rfl, A5, u13, pz.trans u12.pst, by omega, b13, H13, rfl, by simp [Has]⟩
              · simp (disch := first | ((try simp only [heapN]) <;> omega) | fail) only [go_sem, seval, hltj, bz]
                exact AgainK.mk (g.prods.length - (i + 1)) (by simp only; omega) ⟨i + 1, S3, gr3, by omega, rfl, A.weak (fun _ _ h i' hi' p' hp' => by
                  rcases Nat.lt_or_ge i' i with h3 | h3
                  · exact h.1.1 i' h3 p' hp'
                  · have : i' = i := by omega
                    subst this
                    rw [hpi] at hp'
                    cases hp'
                    refine ⟨h.1.2, fun j' => ?_⟩
                    rcases Nat.lt_or_ge j' j with h4 | h4
                    · exact h.2 j' h4
                    · intro s hs
                      rw [List.getElem?_eq_none (by omega)] at hs; cases hs), uz, HZ, rfl, by simp [Has]⟩
          | false =>
            rw [hx1] at cN
            have hnul : S'.nu[p.left.toNat]? = some false := by
              rw [hlf, Int.toNat_natCast, List.getElem?_eq_getElem hlfn]
              rw [List.getD_eq_getElem?_getD, List.getElem?_eq_getElem hlfn, Option.getD_some] at hx1
              rw [hx1]
            have A0 := A.nul (List.mem_of_getElem? hpi) (begL_null.1 hnl'.symm) hnul
            have uN : Upd (· = h.nxt + 2) h9 (h9.put (h.nxt + 2) (.cells ((S'.nu.map AV.bool).set lf (.bool true)) true)) := Upd.put _ rfl fun cs e => by rw [gN] at e; simp at e
            have BN := H9.b.set lf true
            simp (disch := first | ((try simp only [heapN]) <;> omega) | fail) only [go_sem, seval, s9, b9, q6, gN, cN, hroomN, Int.toNat_natCast]
            rw [Nat.mul_one lf]
            have hlf2 : p.left.toNat = lf := by rw [hlf, Int.toNat_natCast]
            rw [hlf2] at A0
            obtain ⟨S1, hS1⟩ : ∃ S1 : Tri, S1 = { S' with nu := S'.nu.set lf true } := ⟨_, rfl⟩
            rw [← hS1] at A0
            have A1 : Adv3 g.toks.length g.nts.length g.prods S S1 true (fun s => (∀ i', i' < i → ∀ p, g.prods[i']? = some p → Cls g.toks.length p s) ∧ (NullS (B1 s.nu) p.right → B1 s.nu p.left.toNat)) := A0.weak fun h => by cases h
            have H10 : HS (h9.put (h.nxt + 2) (.cells ((S'.nu.map AV.bool).set lf (.bool true)) true)) (h.nxt + 2) (.slc fa fn fc fz) (.slc (some (b4, o4)) on oc 1) g.toks.length g.nts.length bl1 bl2 S1 := by
              rw [hS1]
              exact ⟨BN, H9.f.upd uN fun b hb => by have := hr1 b hb; omega, H9.o.upd uN fun b hb => by have := hr2 b hb; omega⟩
            have sub : ∀ k, B1 S'.nu k → B1 S1.nu k := fun k hk => by
              rw [hS1]
              simp only [B1] at hk ⊢
              rw [getD_set]
              split
              · rfl
              · exact hk
            have hfi : S1.fi = S'.fi := by rw [hS1]
            have same : true = false → S1 = S' := fun h => by cases h
            have u10 : Upd W h7 (h9.put (h.nxt + 2) (.cells ((S'.nu.map AV.bool).set lf (.bool true)) true)) := u9.trans (uN.weak fun b _ e => by rw [e]; exact W2)
            have b10 := (uN.get hx.nxt (by omega) (by omega)).trans b9
            have s10 := (uN.get (h.nxt + 3) (by omega) (by omega)).trans s9
            have g10 := (uN.get h.nxt (by omega) (by omega)).trans gg9
            have L10 := L9.pst uN.pst
            have px10 := (e8.pst.trans e9.pst).trans uN.pst
            have nN : (h9.put (h.nxt + 2) (.cells ((S'.nu.map AV.bool).set lf (.bool true)) true)).nxt = h9.nxt := by simp
            clear hS1 H9 uN BN gN A0
            generalize (h9.put (h.nxt + 2) (.cells ((S'.nu.map AV.bool).set lf (.bool true)) true)) = h10 at *
            -- A1, H10, u10 : Upd W h7 h10, sub, hfi, same, L10, b10 (box of the production), s10, g10
            have hn10 := u10.nxt
            obtain ⟨b5, o5, cs5, kb, r, rfl, e5', q5, hb5, hg5, c5, hkb, hrr, hrl, Br⟩ := H10.f.at_ (k := lf) (by rw [A1.shape.fi.len]; omega)
            cases e5'
            have hkw := W3 kb (List.mem_of_getElem? hkb)
            have hkh := Br.2.1
            have hkh3 := hr1 kb (List.mem_of_getElem? hkb)
            have hkh6 := l1 kb (List.mem_of_getElem? hkb)
            have hne5 : b5 ≠ kb := fun e => by rw [e, Br.2.2] at hg5; simp at hg5
            refine LoopU_while (fun m st hy => ∃ (t : Nat), t ≤ g.toks.length ∧ m = g.toks.length - t ∧ Upd (· = kb) h10 hy ∧ Bits hy kb (.slc (some (kb, 0)) g.toks.length (some g.toks.length) 1) (orT r f t) ∧
                Keep st 139 [(1, .ptr (some (h.nxt, 0))), (2, .ptr (some (h.nxt + 1, 0))), (3, .ptr (some (h.nxt + 3, 0))), (5, .bool (if grw r f t = true then true else true)), (6, .int .i64 (i : Nat)), (7, .ptr (some (hx.nxt, 0))), (8, .slc wa wn wc wz), (10, .int .i64 (t : Nat))]) g.toks.length
              ⟨0, by omega, by omega, Upd.refl _ _, Br, rfl, by simp [Has, grw]⟩ ?_
            rintro m st hy ⟨t, ht, rfl, uy, By, hk⟩
            rw [hk.eq]
            obtain ⟨k1, k2, k3, k5, k6, k7, k8, k10, -⟩ := hk.2
            simp only [slotsFrom, Nat.reduceAdd] at k1 k2 k3 k5 k6 k7 k8 k10 ⊢
            simp only [k1, k2, k3, k5, k6, k7, k8, k10]
            have hny := uy.nxt
            by_cases hltt : (t : Int) < (wn : Int)
            · have htl2 : t < g.toks.length := by omega
              have gB := By.2.2
              have hol := orT_len r f t
              have cB : ((orT r f t).map AV.bool)[t * 1]? = some (.bool (r.getD t false)) := by rw [← orT_at (ys := f) (by omega), Nat.mul_one, List.getElem?_map, List.getD_eq_getElem?_getD, List.getElem?_eq_getElem (by omega)]; rfl
              have hroom : t * 1 + 1 ≤ ((orT r f t).map AV.bool).length := by simp; omega
              have b11 := (uy.get hx.nxt (by omega) (by omega)).trans b10
              have s11 := (uy.get (h.nxt + 3) (by omega) (by omega)).trans s10
              have gx5 := uy.pst.frz _ _ hb5 hg5
              have uP : Upd (· = kb) hy (hy.put kb (.cells (((orT r f t).map AV.bool).set t (.bool true)) true)) := Upd.put _ rfl fun cs e => by rw [gB] at e; simp at e
              have BP := By.set t true
              have yes := orT_yes (xs := r) (ys := f) (t := t) (by omega)
              have tno : (r.getD t false = true ∨ f.getD t false = false) → Bits hy kb (.slc (some (kb, 0)) g.toks.length (some g.toks.length) 1) (orT r f (t + 1)) ∧ grw r f (t + 1) = grw r f t := fun h => by
                obtain ⟨x1, x2⟩ := orT_no (ys := f) h (by omega)
                rw [x1]; exact ⟨By, x2⟩
              obtain ⟨bw, ow, csw, lw, rfl, rfl, hbw, hgw, rfl, hrw, htw, hcw⟩ := (L10.pst uy.pst).at_ (i := t) (x := f[t]) (List.getElem?_eq_getElem (by omega)) (k := 1) rfl
              have cw : csw[ow + t * 1]? = some (.bool (f.getD t false)) := by rw [List.getD_eq_getElem?_getD, List.getElem?_eq_getElem (l := f) (by omega), Option.getD_some]; exact hcw 0 (by decide)
              generalize r.getD t false = x at *
              generalize f.getD t false = y at *
              cases y with
              | false =>
                obtain ⟨B', g'⟩ := tno (.inr rfl)
                simp (disch := first | ((try simp only [heapN]) <;> omega) | fail) only [go_sem, seval, hltt, hgw, cw, Int.toNat_natCast]
                exact AgainK.mk (g.toks.length - (t + 1)) (by simp only; omega) ⟨t + 1, by omega, rfl, uy, B', rfl, by simp [Has, g']⟩
              | true =>
                cases x with
                | true =>
                  obtain ⟨B', g'⟩ := tno (.inl rfl)
                  simp (disch := first | ((try simp only [heapN]) <;> omega) | fail) only [go_sem, seval, hltt, hgw, cw, s11, b11, q5, gx5, c5, gB, cB, Int.toNat_natCast]
                  exact AgainK.mk (g.toks.length - (t + 1)) (by simp only; omega) ⟨t + 1, by omega, rfl, uy, B', rfl, by simp [Has, g']⟩
                | false =>
                  obtain ⟨y1, y2⟩ := yes rfl rfl
                  rw [← y1] at BP
                  simp (disch := first | ((try simp only [heapN]) <;> omega) | fail) only [go_sem, seval, hltt, hgw, cw, s11, b11, q5, gx5, c5, gB, cB, hroom, Int.toNat_natCast]
                  rw [Nat.mul_one]
                  exact AgainK.mk (g.toks.length - (t + 1)) (by simp only; omega) ⟨t + 1, by omega, rfl, uy.trans uP, BP, rfl, by simp [Has, y2]⟩
            · have hte : t = g.toks.length := by omega
              subst hte
              simp (disch := first | ((try simp only [heapN]) <;> omega) | fail) only [go_sem, seval, hltt]
              have hlf2 : p.left.toNat = lf := by rw [hlf, Int.toNat_natCast]
              have A2 := A1.fir (p := p) (r := r) (ys := f) (m := g.toks.length) (List.mem_of_getElem? hpi) (by rw [hlf2]; exact hrr) (Nat.le_refl _) (fun hs x hx hyx N Fi Fo c1 c2 c3 => by
                obtain ⟨x1, x2, x3⟩ := hs N Fi Fo c1 c2 c3
                rw [hf] at hyx
                exact ((begL_row hx).1 hyx).mono (fun k hk => x1 k (sub k hk)) (fun k hk => x2 k x (by rw [hfi]; exact hk)))
              rw [hlf2] at A2
              obtain ⟨S2, hS2⟩ : ∃ S2 : Tri, S2 = { S1 with fi := (S1).fi.set lf (orT r f g.toks.length) } := ⟨_, rfl⟩
              obtain ⟨gr2, hg2⟩ : ∃ gr2, gr2 = if grw r f g.toks.length = true then true else true := ⟨_, rfl⟩
              rw [← hS2, ← hg2] at A2
              rw [← hg2]
              have A3 : Adv3 g.toks.length g.nts.length g.prods S S2 gr2 (fun s => ((∀ i', i' < i → ∀ p, g.prods[i']? = some p → Cls g.toks.length p s) ∧ ((NullS (B1 s.nu) p.right → B1 s.nu p.left.toNat) ∧ ∀ x, x < g.toks.length → RowP (B1 s.nu) (B2 s.fi) p.right x → B2 s.fi p.left.toNat x)) ∧ ∀ j', j' < 0 → OkPos g.toks.length (B1 s.nu) (B2 s.fi) (B2 s.fo) p j') := A2.weak fun hg hS h => ⟨⟨h.1.1, fun hn => by rw [hlf2]; exact h.1.2 hn, fun x hx hrp => by
                have hgr : true = false := by
                  rw [hg2] at hg
                  split at hg
                  · cases hg
                  · exact hg
                have e1 := same hgr
                have e2 := (A1.stop hgr).1
                rw [← e2, e1] at hrp
                rw [hlf2]
                exact h.2 x hx (by rw [hf]; exact (begL_row hx).2 hrp)⟩, fun j' hj => by omega⟩
              have H11 : HS hy (h.nxt + 2) (.slc (some (b5, o5)) fn fc 1) (.slc (some (b4, o4)) on oc 1) g.toks.length g.nts.length bl1 bl2 S2 := by
                rw [hS2]
                exact ⟨H10.b.upd uy (by omega), H10.f.write hkb uy (by rw [orT_len]; exact hrl) By, H10.o.upd uy fun b hb e => hd12 kb (List.mem_of_getElem? hkb) (by rw [← e]; exact hb)⟩
              have u11 : Upd W h7 hy := u10.trans (uy.weak fun b _ e => by rw [e]; exact hkw)
              have b11 := (uy.get hx.nxt (by omega) (by omega)).trans b10
              have px := px10.trans uy.pst
              clear A2 hS2 hg2 By H10 A1 k1 k2 k3 k5 k6 k7 k8 k10 hk
              refine LoopU_while (fun m st hz => ∃ (j : Nat) (S3 : Tri) (gr3 : Bool), j ≤ p.right.length ∧ m = p.right.length - j ∧ Adv3 g.toks.length g.nts.length g.prods S S3 gr3 (fun s => ((∀ i', i' < i → ∀ p, g.prods[i']? = some p → Cls g.toks.length p s) ∧ ((NullS (B1 s.nu) p.right → B1 s.nu p.left.toNat) ∧ ∀ x, x < g.toks.length → RowP (B1 s.nu) (B2 s.fi) p.right x → B2 s.fi p.left.toNat x)) ∧ ∀ j', j' < j → OkPos g.toks.length (B1 s.nu) (B2 s.fi) (B2 s.fo) p j') ∧
                  Upd W h7 hz ∧ Pst hx hz ∧ hx.nxt < hz.nxt ∧ hz.get hx.nxt = some (.cells [.int .i64 (lf : Nat), .slc ra rn rc rz, .slc xa xn xc xz] true) ∧ HS hz (h.nxt + 2) (.slc (some (b5, o5)) fn fc 1) (.slc (some (b4, o4)) on oc 1) g.toks.length g.nts.length bl1 bl2 S3 ∧
                  Keep st 139 [(1, .ptr (some (h.nxt, 0))), (2, .ptr (some (h.nxt + 1, 0))), (3, .ptr (some (h.nxt + 3, 0))), (5, .bool gr3), (6, .int .i64 (i : Nat)), (7, .ptr (some (hx.nxt, 0))), (11, .int .i64 (j : Nat))]) p.right.length
                ⟨0, S2, gr2, by omega, by omega, A3, u11, px, by omega, b11, H11, rfl, by simp [Has]⟩ ?_
              clear A3 H11 u11 b11 px
              rintro m st hz ⟨j, S3, gr3, hj, rfl, A, uz, pz, hnz, bz, HZ, hk⟩
              rw [hk.eq]
              obtain ⟨k1, k2, k3, k5, k6, k7, k11, -⟩ := hk.2
              simp only [slotsFrom, Nat.reduceAdd] at k1 k2 k3 k5 k6 k7 k11 ⊢
              simp only [k1, k2, k3, k5, k6, k7, k11]
              have hnz7 := uz.nxt
              have sz := (uz.get (h.nxt + 3) (by omega) wn3).trans s7
              have gz := (uz.get h.nxt (by omega) wn1).trans g7
              by_cases hltj : (j : Int) < (rn : Int)
              · have hjl : j < p.right.length := by omega
                obtain ⟨b6, o6, cs6, l6', rfl, rfl, hb6, hg6, rfl, hr6, ht6, hc6⟩ := (sr.pst pz).at_ (i := j) (x := p.right[j]) (List.getElem?_eq_getElem hjl) (k := 2) rfl
                have hpj := List.getElem?_eq_getElem hjl
                have c6 : cs6[o6 + j * 2]? = some (.bool p.right[j].tok) := hc6 0 (by decide)
                generalize p.right[j] = s at *
                cases htk : s.tok with
                | true =>
                  rw [htk] at c6
                  simp (disch := first | ((try simp only [heapN]) <;> omega) | fail) only [go_sem, seval, hltj, bz, hg6, c6, Int.toNat_natCast]
                  exact AgainK.mk (p.right.length - (j + 1)) (by simp only; omega) ⟨j + 1, S3, gr3, by omega, rfl, (A.tok hpj htk).weak (fun _ _ h => ⟨h.1.1, fun j' hj' => lt_or (fun x => h.1.2 j' x) h.2 hj'⟩), uz, pz, hnz, bz, HZ, rfl, by simp [Has]⟩
                | false =>
                  rw [htk] at c6
                  simp (disch := first | ((try simp only [heapN]) <;> omega) | fail) only [go_sem, seval, hltj, bz, hg6, c6, sz, gz, Int.toNat_natCast]
                  have hun3 := A.shape.nu
                  have p7z := p07.trans uz.pst
                  have w83 := behind_uf (nb := h.nxt + 2) (k := j) (nu := S3.nu) (fv := .slc (some (b5, o5)) fn fc 1) (ov := .slc (some (b4, o4)) on oc 1) (xv := .slc xa xn xc xz) (lt.pst p7z) (sn.pst p7z) (sp.pst p7z) (by rw [hun3]; exact HZ.b) HZ.f HZ.o (sr.pst pz) ⟨_, _, _, _, rfl⟩ hun3 A.shape.fi A.shape.fo ⟨fun hin => by have := hr2 _ hin; omega, hd12⟩ ⟨⟨q1', q2⟩, q3, q4'⟩ hpj htk M
                  rw [hun3, hlf] at w83
                  refine callV_ofU F_83 rfl (w83.mono ?_)
                  rintro v12 h12 ⟨u12, rr, LL, hr2', hL2, T2, rfl⟩
                  rw [← hlf] at hL2
                  have A4 := A.beh (List.mem_of_getElem? hpi) hpj htk hr2' hL2
                  have u13 := uz.trans (u12.weak fun b _ e => W4 b e)
                  have H13 : HS h12 (h.nxt + 2) (.slc (some (b5, o5)) fn fc 1) (.slc (some (b4, o4)) on oc 1) g.toks.length g.nts.length bl1 bl2 { S3 with fo := S3.fo.set s.at_.toNat (orT rr (behY g.toks.length (begL g.toks.length S3.nu S3.fi (p.right.drop (j + 1))).1 (begL g.toks.length S3.nu S3.fi (p.right.drop (j + 1))).2 LL) (g.toks.length + 1)) } := ⟨HZ.b.upd u12 (fun hin => by have := hr2 _ hin; omega), HZ.f.upd u12 fun b hb => hd12 b hb, T2⟩
                  have b13 := (u12.get hx.nxt hnz fun hin => by have := l2 _ hin; omega).trans bz
                  have n12 := u12.nxt
                  generalize behY g.toks.length (begL g.toks.length S3.nu S3.fi (p.right.drop (j + 1))).1 (begL g.toks.length S3.nu S3.fi (p.right.drop (j + 1))).2 LL = Y at *
                  have A5 := A4.weak (Cl' := fun s => ((∀ i', i' < i → ∀ p, g.prods[i']? = some p → Cls g.toks.length p s) ∧ ((NullS (B1 s.nu) p.right → B1 s.nu p.left.toNat) ∧ ∀ x, x < g.toks.length → RowP (B1 s.nu) (B2 s.fi) p.right x → B2 s.fi p.left.toNat x)) ∧ ∀ j', j' < j + 1 → OkPos g.toks.length (B1 s.nu) (B2 s.fi) (B2 s.fo) p j') (fun _ _ h => ⟨h.1.1, fun j' hj' => lt_or (fun x => h.1.2 j' x) h.2 hj'⟩)
                  cases hgw : grw rr Y (g.toks.length + 1) with
                  | true =>
                    rw [hgw, if_pos rfl] at A5
                    simp (disch := first | ((try simp only [heapN]) <;> omega) | fail) only [go_sem, seval]
                    exact AgainK.mk (p.right.length - (j + 1)) (by simp only; omega) ⟨j + 1, _, true, by omega, rfl, A5, u13, pz.trans u12.pst, by omega, b13, H13, rfl, by simp [Has]⟩
                  | false =>
                    rw [hgw, if_neg (by simp)] at A5
                    simp (disch := first | ((try simp only [heapN]) <;> omega) | fail) only [go_sem, seval]
                    exact AgainK.mk (p.right.length - (j + 1)) (by simp only; omega) ⟨j + 1, _, gr3, by omega, rfl, A5, u13, pz.trans u12.pst, by omega, b13, H13, rfl, by simp [Has]⟩
              · simp (disch := first | ((try simp only [heapN]) <;> omega) | fail) only [go_sem, seval, hltj, bz]
                exact AgainK.mk (g.prods.length - (i + 1)) (by simp only; omega) ⟨i + 1, S3, gr3, by omega, rfl, A.weak (fun _ _ h i' hi' p' hp' => by
                  rcases Nat.lt_or_ge i' i with h3 | h3
                  · exact h.1.1 i' h3 p' hp'
                  · have : i' = i := by omega
                    subst this
                    rw [hpi] at hp'
                    cases hp'
                    refine ⟨h.1.2, fun j' => ?_⟩
                    rcases Nat.lt_or_ge j' j with h4 | h4
                    · exact h.2 j' h4
                    · intro s hs
                      rw [List.getElem?_eq_none (by omega)] at hs; cases hs), uz, HZ, rfl, by simp [Has]⟩
      · simp (disch := first | ((try simp only [heapN]) <;> omega) | fail) only [go_sem, seval, gh, hlti]
        have hie : i = g.prods.length := by omega
        subst hie
        have hc := A.cnt
        cases gr with
        | true =>
          have := hc.2 rfl
          exact AgainK.mk (2 * S'.msr + 1) (by simp only [if_true]; omega) ⟨S', true, rfl, A.shape, A.snd soS, A.up _ _ upS, (by intro h; cases h), u, HH, rfl, by simp [Has]⟩
        | false =>
          obtain ⟨x1, x2⟩ := A.stop rfl
          exact AgainK.mk (2 * S'.msr + 0) (by simp only [if_true]; omega) ⟨S', false, rfl, A.shape, A.snd soS, A.up _ _ upS, fun _ i p hp => by rw [x1]; exact x2 i (List.getElem?_eq_some_iff.1 hp).1 p hp, u, HH, rfl, by simp [Has]⟩

end Go.Proofs.Ytaockkmmjinhpaa

/-
  The document's sets: which production may be meant; the same productions twice.
-/
namespace Go.Proofs.Ytaockkmmjinhpaa
open Go Go.Am
set_option maxRecDepth 100000
set_option maxHeartbeats 4000000
set_option linter.unusedSimpArgs false
set_option linter.unusedVariables false

/-! Twice the same production. -/
end Go.Proofs.Ytaockkmmjinhpaa
