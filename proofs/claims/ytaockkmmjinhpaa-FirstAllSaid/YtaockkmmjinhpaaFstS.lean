import Derived.Test.YtaockkmmjinhpaaFstH
/-
  Layer first: the sets are the least ones that are closed (plain lists, no program).
-/
namespace Go.Proofs.Ytaockkmmjinhpaa
open Go Go.Am
set_option maxRecDepth 100000
set_option linter.unusedSimpArgs false
set_option linter.unusedVariables false

def B1 (nu : List Bool) (k : Nat) : Prop := nu.getD k false = true
def B2 (fi : List (List Bool)) (k t : Nat) : Prop := (fi.getD k []).getD t false = true
def NullS (N : Nat → Prop) (r : List GSym) : Prop := ∀ s ∈ r, s.tok = false ∧ N s.at_.toNat
def RowP (N : Nat → Prop) (Fi : Nat → Nat → Prop) : List GSym → Nat → Prop
  | [], _ => False
  | s :: r, t => if s.tok = true then s.at_.toNat = t else Fi s.at_.toNat t ∨ (N s.at_.toNat ∧ RowP N Fi r t)
theorem NullS.mono {N N' : Nat → Prop} (h : ∀ k, N k → N' k) {r : List GSym} (x : NullS N r) : NullS N' r := fun s hs => ⟨(x s hs).1, h _ (x s hs).2⟩
theorem RowP.mono {N N' : Nat → Prop} {Fi Fi' : Nat → Nat → Prop} (h : ∀ k, N k → N' k) {t : Nat} (h2 : ∀ k, Fi k t → Fi' k t) : ∀ {r : List GSym}, RowP N Fi r t → RowP N' Fi' r t
  | [], x => x
  | s :: r, x => by
    rw [RowP] at x ⊢
    by_cases h1 : s.tok = true
    · rw [if_pos h1] at x ⊢; exact x
    · rw [if_neg h1] at x ⊢; exact x.imp (h2 _) fun y => ⟨h _ y.1, RowP.mono h h2 y.2⟩
def ClosedN (ps : List GProd) (N : Nat → Prop) : Prop := ∀ p ∈ ps, NullS N p.right → N p.left.toNat
def ClosedF (tn : Nat) (ps : List GProd) (N : Nat → Prop) (Fi : Nat → Nat → Prop) : Prop := ∀ p ∈ ps, ∀ t, t < tn → RowP N Fi p.right t → Fi p.left.toNat t
def OkPos (tn : Nat) (N : Nat → Prop) (Fi Fo : Nat → Nat → Prop) (p : GProd) (j : Nat) : Prop :=
  ∀ s, p.right[j]? = some s → s.tok = false → (∀ t, t < tn → RowP N Fi (p.right.drop (j + 1)) t → Fo s.at_.toNat t) ∧ (NullS N (p.right.drop (j + 1)) → ∀ t, t ≤ tn → Fo p.left.toNat t → Fo s.at_.toNat t)
def ClosedO (tn : Nat) (ps : List GProd) (N : Nat → Prop) (Fi Fo : Nat → Nat → Prop) : Prop := Fo 0 tn ∧ ∀ p ∈ ps, ∀ j, OkPos tn N Fi Fo p j

theorem begF_null {nu : List Bool} {fi : List (List Bool)} : ∀ {r : List GSym} {o : List Bool}, (begF nu fi r o).2 = true ↔ NullS (B1 nu) r
  | [], o => by simp [begF, NullS]
  | s :: r, o => by
    rw [begF]
    by_cases h1 : s.tok = true
    · rw [if_pos h1]
      simp only [Bool.false_eq_true, false_iff]
      intro x; have := (x s (by simp)).1; rw [h1] at this; cases this
    · rw [if_neg h1]
      by_cases h2 : nu.getD s.at_.toNat false = true
      · rw [if_pos h2, begF_null]
        refine ⟨fun x s' hs => ?_, fun x s' hs => x s' (by simp [hs])⟩
        rcases List.mem_cons.1 hs with rfl | hs
        · exact ⟨by simpa using h1, h2⟩
        · exact x s' hs
      · rw [if_neg h2]
        simp only [Bool.false_eq_true, false_iff]
        intro x; exact h2 (x s (by simp)).2
theorem begF_row {nu : List Bool} {fi : List (List Bool)} {n t : Nat} (ht : t < n) : ∀ {r : List GSym} {o : List Bool}, o.length = n → ((begF nu fi r o).1.getD t false = true ↔ o.getD t false = true ∨ RowP (B1 nu) (B2 fi) r t)
  | [], o, ho => by simp [begF, RowP]
  | s :: r, o, ho => by
    rw [begF, RowP]
    by_cases h1 : s.tok = true
    · rw [if_pos h1, if_pos h1]
      simp only
      rw [getD_set]
      by_cases h : t = s.at_.toNat
      · rw [if_pos ⟨h, by omega⟩]; simp [h]
      · rw [if_neg (fun x => h x.1)]
        exact ⟨.inl, fun x => x.elim id fun e => absurd e.symm h⟩
    · rw [if_neg h1, if_neg h1]
      by_cases h2 : nu.getD s.at_.toNat false = true
      · rw [if_pos h2, begF_row ht (by rw [orT_len]; exact ho), orT_all (by omega), Bool.or_eq_true, or_assoc]
        refine or_congr Iff.rfl (or_congr Iff.rfl ?_)
        exact ⟨fun x => ⟨h2, x⟩, fun x => x.2⟩
      · rw [if_neg h2]
        simp only
        rw [orT_all (by omega), Bool.or_eq_true]
        refine or_congr Iff.rfl ⟨.inl, fun x => x.elim id fun y => absurd y.1 h2⟩
theorem begL_null {tn : Nat} {nu : List Bool} {fi : List (List Bool)} {r : List GSym} : (begL tn nu fi r).2 = true ↔ NullS (B1 nu) r := begF_null
theorem begL_row {tn t : Nat} {nu : List Bool} {fi : List (List Bool)} {r : List GSym} (ht : t < tn) : (begL tn nu fi r).1.getD t false = true ↔ RowP (B1 nu) (B2 fi) r t := by
  rw [begL, begF_row ht List.length_replicate]
  have : (List.replicate tn false).getD t false = false := by rw [List.getD_eq_getElem?_getD, List.getElem?_replicate, if_pos ht]; rfl
  rw [this]; simp
theorem okS_all {nu : List Bool} {r : List GSym} : r.all (okS nu) = true ↔ NullS (B1 nu) r := by
  rw [List.all_eq_true]
  refine forall_congr' fun s => imp_congr Iff.rfl ?_
  unfold okS B1
  rw [Bool.and_eq_true, Bool.not_eq_true']

theorem set_same {l : List Bool} {k : Nat} (h : l.getD k false = true) : l.set k true = l := by
  refine List.ext_getElem? fun i => ?_
  rw [List.getElem?_set]
  by_cases e : k = i
  · subst e
    rw [if_pos rfl]
    rw [List.getD_eq_getElem?_getD] at h
    cases hx : l[k]? with
    | none => rw [hx] at h; cases h
    | some b =>
      rw [hx] at h
      rw [if_pos (List.getElem?_eq_some_iff.1 hx).1]
      exact congrArg some h.symm
  · rw [if_neg e]
theorem stN_sound {nu : List Bool} {ps : List GProd} {N : Nat → Prop} (h0 : ∀ k, B1 nu k → N k) (hc : ClosedN ps N) : ∀ i k, B1 (stN nu ps i).1 k → N k
  | 0, k => h0 k
  | i + 1, k => by
    have ih := stN_sound h0 hc i
    rw [stN]
    split
    · rename_i p hp
      split
      · rename_i ha
        simp only
        unfold B1
        rw [getD_set]
        split
        · rename_i he
          intro _
          rw [he.1]
          exact hc p (List.mem_of_getElem? hp) ((okS_all.1 ha).mono ih)
        · exact ih k
      · exact ih k
    · exact ih k
theorem stN_stop {nu : List Bool} {ps : List GProd} : ∀ i, (stN nu ps i).2 = false → (stN nu ps i).1 = nu ∧ ∀ j, j < i → ∀ p, ps[j]? = some p → NullS (B1 nu) p.right → B1 nu p.left.toNat
  | 0, _ => ⟨rfl, fun j hj => by omega⟩
  | i + 1, h => by
    have ih := stN_stop (nu := nu) (ps := ps) i
    rw [stN] at h ⊢
    cases hp : ps[i]? with
    | some p =>
      simp only [hp] at h ⊢
      split at h
      · rename_i ha
        rw [if_pos ha]
        simp only at h ⊢
        split at h
        · rename_i hl
          obtain ⟨i1, i2⟩ := ih h
          rw [i1] at hl ⊢
          refine ⟨set_same hl, fun j hj q hq hn => ?_⟩
          rcases Nat.lt_or_ge j i with hji | hji
          · exact i2 j hji q hq hn
          · have : j = i := by omega
            subst this
            rw [hp] at hq; cases hq
            exact hl
        · cases h
      · rename_i ha
        rw [if_neg ha]
        obtain ⟨i1, i2⟩ := ih h
        rw [i1] at ha ⊢
        refine ⟨rfl, fun j hj q hq hn => ?_⟩
        rcases Nat.lt_or_ge j i with hji | hji
        · exact i2 j hji q hq hn
        · have : j = i := by omega
          subst this
          rw [hp] at hq; cases hq
          exact absurd (okS_all.2 hn) ha
    | none =>
      simp only [hp] at h ⊢
      obtain ⟨i1, i2⟩ := ih h
      refine ⟨i1, fun j hj q hq hn => ?_⟩
      rcases Nat.lt_or_ge j i with hji | hji
      · exact i2 j hji q hq hn
      · have : j = i := by omega
        subst this
        rw [hp] at hq; cases hq
theorem fixN_ok {ps : List GProd} : ∀ (f : Nat) (nu : List Bool), (∀ p ∈ ps, p.left.toNat < nu.length) → cntF nu < f → ClosedN ps (B1 (fixN ps f nu)) ∧ ∀ N, ClosedN ps N → (∀ k, B1 nu k → N k) → ∀ k, B1 (fixN ps f nu) k → N k
  | 0, nu, _, h => by omega
  | f + 1, nu, hp, h => by
    rw [fixN]
    have hc := stN_cnt nu ps hp ps.length
    have hl := stN_len nu ps ps.length
    split
    · rename_i hg
      obtain ⟨h1, h2⟩ := fixN_ok f (stN nu ps ps.length).1 (by rw [hl]; exact hp) (by have := hc.2 hg; omega)
      exact ⟨h1, fun N hN h0 => h2 N hN (stN_sound h0 hN ps.length)⟩
    · rename_i hg
      obtain ⟨h1, h2⟩ := stN_stop (nu := nu) (ps := ps) ps.length (by simpa using hg)
      rw [h1]
      refine ⟨fun p hp' hn => ?_, fun N hN h0 => h0⟩
      obtain ⟨j, hj, rfl⟩ := List.getElem_of_mem hp'
      exact h2 j hj _ (List.getElem?_eq_getElem hj) hn
theorem nulL_ok {n : Nat} {ps : List GProd} (hp : ∀ p ∈ ps, p.left.toNat < n) : ClosedN ps (B1 (nulL n ps)) ∧ ∀ N, ClosedN ps N → ∀ k, B1 (nulL n ps) k → N k := by
  have := cntF_le (List.replicate n false)
  rw [List.length_replicate] at this
  obtain ⟨h1, h2⟩ := fixN_ok (ps := ps) (n + 1) (List.replicate n false) (by rw [List.length_replicate]; exact hp) (by omega)
  refine ⟨h1, fun N hN => h2 N hN fun k hk => ?_⟩
  unfold B1 at hk
  rw [List.getD_eq_getElem?_getD, List.getElem?_replicate] at hk
  split at hk <;> cases hk

theorem getD_setL {l : List (List Bool)} {k j : Nat} {r : List Bool} : (l.set k r).getD j [] = if j = k ∧ k < l.length then r else l.getD j [] := by
  rw [List.getD_eq_getElem?_getD, List.getD_eq_getElem?_getD, List.getElem?_set]
  by_cases h : k = j
  · subst h
    rw [if_pos rfl]
    by_cases h2 : k < l.length
    · rw [if_pos h2, if_pos ⟨rfl, h2⟩]; rfl
    · rw [if_neg h2, if_neg (by omega), List.getElem?_eq_none (by omega)]
  · rw [if_neg h, if_neg (by omega)]
theorem set_sameL {l : List (List Bool)} {k : Nat} {r : List Bool} (h : l[k]? = some r) : l.set k r = l := by
  refine List.ext_getElem? fun i => ?_
  rw [List.getElem?_set]
  by_cases e : k = i
  · subst e
    rw [if_pos rfl, if_pos (List.getElem?_eq_some_iff.1 h).1, h]
  · rw [if_neg e]
theorem orT_out {xs ys : List Bool} {i t : Nat} (h : (orT xs ys i).getD t false = true) : xs.getD t false = true ∨ (t < i ∧ ys.getD t false = true) := by
  rcases Nat.lt_or_ge t xs.length with ht | ht
  · rw [orT_getD xs ys t ht, Bool.or_eq_true, Bool.and_eq_true, decide_eq_true_eq] at h
    exact h
  · rw [getD_or (by rw [orT_len]; exact ht)] at h; cases h
theorem grw_stop {xs ys : List Bool} : ∀ i, grw xs ys i = false → orT xs ys i = xs ∧ ∀ t, t < i → ys.getD t false = true → xs.getD t false = true
  | 0, _ => ⟨rfl, fun t ht => by omega⟩
  | i + 1, h => by
    rw [grw] at h
    split at h
    · cases h
    · rename_i hc
      obtain ⟨h1, h2⟩ := grw_stop i h
      rw [h1] at hc
      rw [orT, h1]
      by_cases hy : ys.getD i false = true
      · have hx : xs.getD i false = true := by
          cases e : xs.getD i false with
          | true => rfl
          | false => exact absurd ⟨hy, e⟩ hc
        rw [if_pos hy]
        refine ⟨set_same hx, fun t ht hyt => ?_⟩
        rcases Nat.lt_or_ge t i with hti | hti
        · exact h2 t hti hyt
        · have : t = i := by omega
          subst this; exact hx
      · rw [if_neg hy]
        refine ⟨rfl, fun t ht hyt => ?_⟩
        rcases Nat.lt_or_ge t i with hti | hti
        · exact h2 t hti hyt
        · have : t = i := by omega
          subst this; exact absurd hyt hy
theorem stF_sound {t n : Nat} {nu : List Bool} {fi : List (List Bool)} {ps : List GProd} {Fi : Nat → Nat → Prop} (h0 : ∀ k x, B2 fi k x → Fi k x) (hc : ClosedF t ps (B1 nu) Fi) : ∀ i k x, B2 (stF t nu fi ps i).1 k x → Fi k x
  | 0, k, x => h0 k x
  | i + 1, k, x => by
    have ih := stF_sound (n := n) h0 hc i
    rw [stF]
    split
    · rename_i p hp
      simp only
      unfold B2
      rw [getD_setL]
      split
      · rename_i he
        intro hx
        rcases orT_out hx with hx | ⟨ht, hx⟩
        · rw [he.1]; exact ih _ _ hx
        · rw [he.1]
          exact hc p (List.mem_of_getElem? hp) x ht (((begL_row ht).1 hx).mono (fun _ h => h) fun k hk => ih k x hk)
      · exact ih k x
    · exact ih k x
theorem stF_stop {t n : Nat} {nu : List Bool} {fi : List (List Bool)} {ps : List GProd} (R : Rows t n fi) (hp : ∀ p ∈ ps, p.left.toNat < n) : ∀ i, (stF t nu fi ps i).2 = false → (stF t nu fi ps i).1 = fi ∧ ∀ j, j < i → ∀ p, ps[j]? = some p → ∀ x, x < t → RowP (B1 nu) (B2 fi) p.right x → B2 fi p.left.toNat x
  | 0, _ => ⟨rfl, fun j hj => by omega⟩
  | i + 1, h => by
    have ih := stF_stop (nu := nu) R hp i
    rw [stF] at h ⊢
    cases hpi : ps[i]? with
    | some p =>
      simp only [hpi] at h ⊢
      split at h
      · cases h
      · rename_i hg
        obtain ⟨i1, i2⟩ := ih h
        rw [i1] at hg ⊢
        obtain ⟨r, hr1, hr2, hr3⟩ := R.getD (hp p (List.mem_of_getElem? hpi))
        rw [hr2] at hg ⊢
        obtain ⟨g1, g2⟩ := grw_stop t (by simpa using hg)
        rw [g1]
        refine ⟨set_sameL hr1, fun j hj q hq x hx hn => ?_⟩
        rcases Nat.lt_or_ge j i with hji | hji
        · exact i2 j hji q hq x hx hn
        · have : j = i := by omega
          subst this
          rw [hpi] at hq; cases hq
          unfold B2
          rw [hr2]
          exact g2 x hx ((begL_row hx).2 hn)
    | none =>
      simp only [hpi] at h ⊢
      obtain ⟨i1, i2⟩ := ih h
      refine ⟨i1, fun j hj q hq hn => ?_⟩
      rcases Nat.lt_or_ge j i with hji | hji
      · exact i2 j hji q hq hn
      · have : j = i := by omega
        subst this
        rw [hpi] at hq; cases hq
theorem fixF_least {t n : Nat} {nu : List Bool} {ps : List GProd} (hp : ∀ p ∈ ps, p.left.toNat < n) : ∀ (f : Nat) (fi : List (List Bool)), Rows t n fi → totF fi < f → ClosedF t ps (B1 nu) (B2 (fixF t nu ps f fi)) ∧ ∀ Fi, ClosedF t ps (B1 nu) Fi → (∀ k x, B2 fi k x → Fi k x) → ∀ k x, B2 (fixF t nu ps f fi) k x → Fi k x
  | 0, fi, _, h => by omega
  | f + 1, fi, R, h => by
    rw [fixF]
    obtain ⟨R1, t1, t2⟩ := stF_ok (nu := nu) R hp ps.length
    split
    · rename_i hg
      obtain ⟨h1, h2⟩ := fixF_least hp f (stF t nu fi ps ps.length).1 R1 (by have := t2 hg; omega)
      exact ⟨h1, fun N hN h0 => h2 N hN (stF_sound (n := n) h0 hN ps.length)⟩
    · rename_i hg
      obtain ⟨h1, h2⟩ := stF_stop (nu := nu) R hp ps.length (by simpa using hg)
      rw [h1]
      refine ⟨fun p hp' x hx hn => ?_, fun N hN h0 => h0⟩
      obtain ⟨j, hj, rfl⟩ := List.getElem_of_mem hp'
      exact h2 j hj _ (List.getElem?_eq_getElem hj) x hx hn
theorem firL_ok {t n : Nat} {ps : List GProd} (hp : ∀ p ∈ ps, p.left.toNat < n) : ClosedF t ps (B1 (nulL n ps)) (B2 (firL t n ps)) ∧ ∀ Fi, ClosedF t ps (B1 (nulL n ps)) Fi → ∀ k x, B2 (firL t n ps) k x → Fi k x := by
  have := totF_rep t n
  obtain ⟨h1, h2⟩ := fixF_least (nu := nulL n ps) hp (t * n + 1) (List.replicate n (List.replicate t false)) (rows_rep t n) (by omega)
  refine ⟨h1, fun Fi hF => h2 Fi hF fun k x hk => ?_⟩
  unfold B2 at hk
  rw [List.getD_eq_getElem?_getD (l := List.replicate n (List.replicate t false)), List.getElem?_replicate] at hk
  split at hk
  · simp only [Option.getD_some] at hk
    rw [List.getD_eq_getElem?_getD, List.getElem?_replicate] at hk
    split at hk <;> cases hk
  · cases hk

end Go.Proofs.Ytaockkmmjinhpaa

/-
  Layer first: one round of Follow.
-/
namespace Go.Proofs.Ytaockkmmjinhpaa
open Go Go.Am
set_option maxRecDepth 100000
set_option maxHeartbeats 4000000
set_option linter.unusedSimpArgs false
set_option linter.unusedVariables false

/-- What a round has come to: sets that grow, only by what must be; nothing came: what was is closed, so far. -/
structure Adv (tn n : Nat) (ps : List GProd) (N : Nat → Prop) (Fi : Nat → Nat → Prop) (fo fo' : List (List Bool)) (gr : Bool) (Cl : List (List Bool) → Prop) : Prop where
  rows : Rows (tn + 1) n fo'
  up : ∀ k x, B2 fo k x → B2 fo' k x
  snd : ∀ Fo, ClosedO tn ps N Fi Fo → (∀ k x, B2 fo k x → Fo k x) → ∀ k x, B2 fo' k x → Fo k x
  cnt : totF fo' ≤ totF fo ∧ (gr = true → totF fo' < totF fo)
  stop : gr = false → fo' = fo ∧ Cl fo
section
variable {tn n : Nat} {ps : List GProd} {N : Nat → Prop} {Fi : Nat → Nat → Prop} {fo fo' : List (List Bool)} {gr : Bool} {Cl Cl' : List (List Bool) → Prop}
theorem Adv.refl (R : Rows (tn + 1) n fo) : Adv tn n ps N Fi fo fo false (fun _ => True)   := ⟨R, fun _ _ h => h, fun _ _ h => h, ⟨Nat.le_refl _, fun h => by cases h⟩, fun _ => ⟨rfl, trivial⟩⟩
theorem Adv.weak (A : Adv tn n ps N Fi fo fo' gr Cl) (h : gr = false → fo' = fo → Cl fo → Cl' fo) : Adv tn n ps N Fi fo fo' gr Cl' := ⟨A.rows, A.up, A.snd, A.cnt, fun hg => ⟨(A.stop hg).1, h hg (A.stop hg).1 (A.stop hg).2⟩⟩
theorem Adv.or (A : Adv tn n ps N Fi fo fo' gr Cl) {k m : Nat} {r ys : List Bool} (hr : fo'[k]? = some r) (hm : m ≤ tn + 1) (hs : ∀ Fo, ClosedO tn ps N Fi Fo → (∀ k x, B2 fo' k x → Fo k x) → ∀ x, x < m → ys.getD x false = true → Fo k x) :
    Adv tn n ps N Fi fo (fo'.set k (orT r ys m)) (if grw r ys m = true then true else gr) (fun f => Cl f ∧ ∀ x, x < m → ys.getD x false = true → B2 f k x) := by
  have hrl : r.length = tn + 1 := A.rows.row r (List.mem_of_getElem? hr)
  have hgd : fo'.getD k [] = r := by rw [List.getD_eq_getElem?_getD, hr]; rfl
  have ht := totF_set fo' k (orT r ys m) r hr
  have hc := orT_cnt r ys m (by omega)
  have hcn := A.cnt
  refine ⟨⟨by rw [List.length_set]; exact A.rows.len, fun x hx => ?_⟩, fun k' x hx => ?_, fun Fo hF h0 k' x hx => ?_, ⟨by omega, fun hg => ?_⟩, fun hg => ?_⟩
  · rcases List.mem_or_eq_of_mem_set hx with hx | rfl
    · exact A.rows.row x hx
    · rw [orT_len]; exact hrl
  · have h1 := A.up k' x hx
    unfold B2 at h1 ⊢
    rw [getD_setL]
    split
    · rename_i he
      rw [he.1, hgd] at h1
      have hxl : x < r.length := by
        rcases Nat.lt_or_ge x r.length with h | h
        · exact h
        · rw [getD_or h] at h1; cases h1
      rw [orT_getD r ys x hxl, h1, Bool.true_or]
    · exact h1
  · have h1 := A.snd Fo hF h0
    unfold B2 at hx
    rw [getD_setL] at hx
    split at hx
    · rename_i he
      rw [he.1]
      rcases orT_out hx with hx | ⟨hxm, hx⟩
      · exact h1 k x (by unfold B2; rw [hgd]; exact hx)
      · exact hs Fo hF h1 x hxm hx
    · exact h1 k' x hx
  · split at hg
    · rename_i h; have := hc.2 h; omega
    · have := hcn.2 hg; omega
  · split at hg
    · cases hg
    · rename_i h
      obtain ⟨s1, s2⟩ := A.stop hg
      obtain ⟨g1, g2⟩ := grw_stop m (by simpa using h)
      rw [g1, set_sameL hr]
      refine ⟨s1, s2, fun x hx hy => ?_⟩
      rw [← s1]
      unfold B2
      rw [hgd]
      exact g2 x hx hy
end
section
variable {tn n : Nat} {ps : List GProd} {nu : List Bool} {fi fo fo' : List (List Bool)} {gr : Bool} {Cl : List (List Bool) → Prop} {p : GProd} {s : GSym} {j : Nat}
theorem Adv.tok (A : Adv tn n ps (B1 nu) (B2 fi) fo fo' gr Cl) (hj : p.right[j]? = some s) (ht : s.tok = true) : Adv tn n ps (B1 nu) (B2 fi) fo fo' gr (fun f => Cl f ∧ OkPos tn (B1 nu) (B2 fi) (B2 f) p j) :=
  A.weak fun _ _ h => ⟨h, fun s' hs' ht' => by rw [hj] at hs'; cases hs'; rw [ht] at ht'; cases ht'⟩
theorem Adv.pos1 (A : Adv tn n ps (B1 nu) (B2 fi) fo fo' gr Cl) (hp : p ∈ ps) (hj : p.right[j]? = some s) (ht : s.tok = false) {r : List Bool} (hr : fo'[s.at_.toNat]? = some r) :
    Adv tn n ps (B1 nu) (B2 fi) fo (fo'.set s.at_.toNat (orT r (begL tn nu fi (p.right.drop (j + 1))).1 tn)) (if grw r (begL tn nu fi (p.right.drop (j + 1))).1 tn = true then true else gr) (fun f => Cl f ∧ ∀ x, x < tn → (begL tn nu fi (p.right.drop (j + 1))).1.getD x false = true → B2 f s.at_.toNat x) :=
  A.or hr (by omega) fun Fo hF _ x hx hy => ((hF.2 p hp j) s hj ht).1 x hx ((begL_row hx).1 hy)
theorem Adv.pos_no (A : Adv tn n ps (B1 nu) (B2 fi) fo fo' gr (fun f => Cl f ∧ ∀ x, x < tn → (begL tn nu fi (p.right.drop (j + 1))).1.getD x false = true → B2 f s.at_.toNat x)) (hj : p.right[j]? = some s) (hn : (begL tn nu fi (p.right.drop (j + 1))).2 = false) :
    Adv tn n ps (B1 nu) (B2 fi) fo fo' gr (fun f => Cl f ∧ OkPos tn (B1 nu) (B2 fi) (B2 f) p j) :=
  A.weak fun _ _ h => ⟨h.1, fun s' hs' ht' => by
    rw [hj] at hs'; cases hs'
    exact ⟨fun x hx hr => h.2 x hx ((begL_row hx).2 hr), fun hnn => by have := begL_null (tn := tn) (fi := fi) |>.2 hnn; rw [hn] at this; cases this⟩⟩
theorem Adv.pos2 (A : Adv tn n ps (B1 nu) (B2 fi) fo fo' gr (fun f => Cl f ∧ ∀ x, x < tn → (begL tn nu fi (p.right.drop (j + 1))).1.getD x false = true → B2 f s.at_.toNat x)) (hp : p ∈ ps) (hj : p.right[j]? = some s) (ht : s.tok = false) (hn : (begL tn nu fi (p.right.drop (j + 1))).2 = true)
    {r ys : List Bool} (hr : fo'[s.at_.toNat]? = some r) (hy : fo'[p.left.toNat]? = some ys) :
    Adv tn n ps (B1 nu) (B2 fi) fo (fo'.set s.at_.toNat (orT r ys (tn + 1))) (if grw r ys (tn + 1) = true then true else gr) (fun f => Cl f ∧ OkPos tn (B1 nu) (B2 fi) (B2 f) p j) := by
  have hgd : fo'.getD p.left.toNat [] = ys := by rw [List.getD_eq_getElem?_getD, hy]; rfl
  have A2 := A.or (ys := ys) hr (Nat.le_refl (tn + 1)) fun Fo hF h0 x hx hyx => ((hF.2 p hp j) s hj ht).2 (begL_null.1 hn) x (by omega) (h0 _ x (by unfold B2; rw [hgd]; exact hyx))
  refine A2.weak fun hg _ h => ⟨h.1.1, fun s' hs' ht' => ?_⟩
  rw [hj] at hs'; cases hs'
  refine ⟨fun x hx hr => h.1.2 x hx ((begL_row hx).2 hr), fun _ x hx hl => h.2 x (by omega) ?_⟩
  split at hg
  · cases hg
  · have := (A.stop hg).1
    rw [← this] at hl
    unfold B2 at hl
    rw [hgd] at hl
    exact hl
end

end Go.Proofs.Ytaockkmmjinhpaa

/-
  Layer first: one round of Follow, as it is walked.
-/
namespace Go.Proofs.Ytaockkmmjinhpaa
open Go Go.Am
set_option maxRecDepth 100000
set_option maxHeartbeats 4000000
set_option linter.unusedSimpArgs false
set_option linter.unusedVariables false

section
variable {α : Type} [Rep α]
theorem lst_lo {T : TT} {K : KH} {h : Heap} {v : AV} {t e i : Nat} {ti te : TI} {kd : IntKind} {xs : List α} (ht : T t = some ti) (hk : ti.kind = .slc e) (he : T e = some te) (hsz : te.size = Rep.sz α)
    (s : Lst h v xs) (hi : i ≤ xs.length) (k : ∀ v', Lst h v' (xs.drop i) → K.k v' h) :
    @OBk (match sliceA T t v (some (.int kd i)) none none with | some r => some (r, h) | none => none) K := by
  obtain ⟨ls, s1, s2⟩ := s
  have hl := s2.length
  obtain ⟨v', e1, e2⟩ := s1.sub (l := i) (hh := ls.length) (lo := some (.int kd i)) (hi := none) ht hk he hsz (fun n hn hh => by rw [hh rfl]; have := sbounds_lo (n := ls.length) (i := (i : Int)) (k := kd) (by omega) (by omega); simpa using this) (by omega) (by omega)
  rw [e1]
  exact k v' ⟨_, by simpa using e2, s2.drop i⟩
end

theorem lt_or {j j' : Nat} {P : Nat → Prop} (h1 : j' < j → P j') (h2 : P j) (h : j' < j + 1) : P j' := by
  rcases Nat.lt_or_ge j' j with h3 | h3
  · exact h1 h3
  · have : j' = j := by omega
    subst this; exact h2

theorem folS_uf {h : Heap} {gb ub fb xb ob fob tn : Nat} {nv pv uv : AV} {ta : Option (Nat × Nat)} {tc : Option Nat} {tz : Nat} {bl blF : List Nat} {ns : List GNt} {ps : List GProd} {nu : List Bool} {fi fo : List (List Bool)}
    (hg : gb < h.nxt ∧ h.get gb = some (.cells [.slc ta tn tc tz, nv, pv] true)) (hu : ub < h.nxt ∧ h.get ub = some (.cells [uv] true)) (hf : fb < h.nxt ∧ h.get fb = some (.cells [.slc (some (fob, 0)) fi.length (some fi.length) 1] true)) (hx : xb < h.nxt ∧ h.get xb = some (.cells [.slc (some (ob, 0)) fo.length (some fo.length) 1] true))
    (sn : Lst h nv ns) (sp : Lst h pv ps) (su : Lst h uv nu) (tbF : Tbl h fob tn blF fi) (tb : Tbl h ob (tn + 1) bl fo) (RF : Rows tn ns.length fi) (R : Rows (tn + 1) ns.length fo) (hul : nu.length = ns.length) (hl : ps.length ≤ 1000) (hn : ns.length ≤ 100) (ht : 0 < tn ∧ tn ≤ 100)
    (hp : ∀ p ∈ ps, PrOk ns.length tn p) (hne : gb ∉ bl ∧ ub ∉ bl ∧ fb ∉ bl ∧ xb ∉ bl ∧ fob ∉ bl) (hdj : ∀ b ∈ blF, b ∉ bl) : UF T F 93 [.ptr (some (gb, 0)), .ptr (some (ub, 0)), .ptr (some (fb, 0)), .ptr (some (xb, 0))] h fun v' h' => Upd (· ∈ bl) h h' ∧ ∃ fo' gr, Tbl h' ob (tn + 1) bl fo' ∧ v' = .bool gr ∧ Adv tn ns.length ps (B1 nu) (B2 fi) fo fo' gr (fun f => ∀ p ∈ ps, ∀ j, OkPos tn (B1 nu) (B2 fi) (B2 f) p j) := by
  obtain ⟨na, nn, nc, nz, rfl, hnn⟩ := sn.form
  obtain ⟨pa', pn, pc', pz', rfl, hpn⟩ := sp.form
  obtain ⟨ua, un, uc, uz, rfl, hun⟩ := su.form
  obtain ⟨hg1, hg2⟩ := hg
  obtain ⟨hu1, hu2⟩ := hu
  obtain ⟨hf1, hf2⟩ := hf
  obtain ⟨hx1, hx2⟩ := hx
  obtain ⟨ne1, ne2, ne3, ne4, ne5⟩ := hne
  have hpl : ∀ p ∈ ps, p.left.toNat < ns.length := fun p hp' => by obtain ⟨⟨q1, q2⟩, _⟩ := hp p hp'; omega
  have hfol : fo.length = ns.length := R.len
  have hobl := tb.lt
  have hne6 := tb.ne
  refine UF.gen fun Q hQ => UF.of (F_93) (c := _) rfl ?_
  unfold Try.f93
  simp only [List.length, Nat.reduceSub, Nat.reduceAdd, List.replicate, List.cons_append, List.nil_append]
  simp (disch := first | ((try simp only [heapN]) <;> omega) | fail) only [go_sem, seval]
  simp (disch := first | ((try simp only [heapN]) <;> omega) | fail) only [go_sem, seval, hg2]
  refine LoopU_while (fun m st hh => ∃ (i : Nat) (mu : List (List Bool)) (gr : Bool), i ≤ ps.length ∧ m = ps.length - i ∧ Upd (· ∈ bl) h hh ∧ Tbl hh ob (tn + 1) bl mu ∧ Adv tn ns.length ps (B1 nu) (B2 fi) fo mu gr (fun f => ∀ i', i' < i → ∀ p, ps[i']? = some p → ∀ j, OkPos tn (B1 nu) (B2 fi) (B2 f) p j) ∧
      Keep st 66 [(0, .ptr (some (gb, 0))), (1, .ptr (some (ub, 0))), (2, .ptr (some (fb, 0))), (3, .ptr (some (xb, 0))), (4, .bool gr), (12, .slc pa' pn pc' pz'), (13, .int .i64 (pn : Nat)), (14, .int .i64 (i : Nat))]) ps.length
    ⟨0, fo, false, by omega, by omega, Upd.refl _ _, tb, (Adv.refl R).weak (fun _ _ _ i' hi' => by omega), rfl, by simp [Has]⟩ ?_
  rintro m st hh ⟨i, mu, gr, hi, rfl, u, tbi, A, hk⟩
  rw [hk.eq]
  obtain ⟨k0, k1, k2, k3, k4, k12, k13, k14, -⟩ := hk.2
  simp only [slotsFrom, Nat.reduceAdd] at k0 k1 k2 k3 k4 k12 k13 k14 ⊢
  simp only [k0, k1, k2, k3, k4, k12, k13, k14]
  have hnh := u.nxt
  simp (disch := first | ((try simp only [heapN]) <;> omega) | fail) only [go_sem, seval]
  by_cases hlt : (i : Int) < (pn : Int)
  · have hil : i < ps.length := by omega
    obtain ⟨b1, o1, cs1, l1, rfl, rfl, hb1, hg1', ⟨ra, xa, rfl, sr, sx⟩, hr1, ht1, hc1⟩ := (sp.pst u.pst).at_ (i := i) (x := ps[i]) (List.getElem?_eq_getElem hil) (k := 3) rfl
    have hpi := List.getElem?_eq_getElem hil
    have hpm := List.getElem_mem hil
    obtain ⟨⟨q1, q2⟩, q3, q4⟩ := hp ps[i] hpm
    generalize ps[i] = p at *
    obtain ⟨ra, rn, rc, rz, rfl, hrn⟩ := sr.form
    obtain ⟨xa, xn, xc, xz, rfl, hxn⟩ := sx.form
    obtain ⟨k, hk0⟩ : ∃ k : Nat, p.left = k := ⟨p.left.toNat, by omega⟩
    have hk0' : p.left.toNat = k := by omega
    rw [hk0] at ht1 q2
    have e2 : Ext hh ((hh.add (.cells [.int .i64 0, .slc none 0 (some 0) 0, .slc none 0 (some 0) 0] true)).put hh.nxt (.cells [.int .i64 (k : Nat), .slc ra rn rc rz, .slc xa xn xc xz] true)) := (Ext.add _ _).put (Nat.le_refl _)
    have g2 : ((hh.add (.cells [.int .i64 0, .slc none 0 (some 0) 0, .slc none 0 (some 0) 0] true)).put hh.nxt (.cells [.int .i64 (k : Nat), .slc ra rn rc rz, .slc xa xn xc xz] true)).get hh.nxt = some (.cells [.int .i64 (k : Nat), .slc ra rn rc rz, .slc xa xn xc xz] true) := get_put_self
    have n2 : ((hh.add (.cells [.int .i64 0, .slc none 0 (some 0) 0, .slc none 0 (some 0) 0] true)).put hh.nxt (.cells [.int .i64 (k : Nat), .slc ra rn rc rz, .slc xa xn xc xz] true)).nxt = hh.nxt + 1 := by simp
    simp (disch := first | ((try simp only [heapN]) <;> omega) | fail) only [go_sem, seval, hlt, hg1', hr1, ht1, g2, Int.toNat_natCast]
    generalize ((hh.add (.cells [.int .i64 0, .slc none 0 (some 0) 0, .slc none 0 (some 0) 0] true)).put hh.nxt (.cells [.int .i64 (k : Nat), .slc ra rn rc rz, .slc xa xn xc xz] true)) = h2 at *
    have u2 : Upd (· ∈ bl) h h2 := u.trans (e2.upd _)
    have sr2 := sr.ext e2
    have tb2 := tbi.ext e2
    have hbl : ∀ b ∈ bl, b < h.nxt := fun b hb => by
      obtain ⟨i, hi, rfl⟩ := List.getElem_of_mem hb
      have hl := tb.len
      exact (tb.row i bl[i] fo[i] (List.getElem?_eq_getElem hi) (List.getElem?_eq_getElem (by omega))).2.2.1
    refine LoopU_while (fun m st hx => ∃ (j : Nat) (mu : List (List Bool)) (gr : Bool), j ≤ p.right.length ∧ m = p.right.length - j ∧ Upd (· ∈ bl) h2 hx ∧ Tbl hx ob (tn + 1) bl mu ∧ Adv tn ns.length ps (B1 nu) (B2 fi) fo mu gr (fun f => (∀ i', i' < i → ∀ p, ps[i']? = some p → ∀ j, OkPos tn (B1 nu) (B2 fi) (B2 f) p j) ∧ ∀ j', j' < j → OkPos tn (B1 nu) (B2 fi) (B2 f) p j') ∧
        Keep st 66 [(0, .ptr (some (gb, 0))), (1, .ptr (some (ub, 0))), (2, .ptr (some (fb, 0))), (3, .ptr (some (xb, 0))), (4, .bool gr), (6, .ptr (some (hh.nxt, 0))), (12, .slc (some (b1, o1)) pn pc' 3), (13, .int .i64 (pn : Nat)), (14, .int .i64 (i : Nat)), (19, .slc ra rn rc rz), (20, .int .i64 (rn : Nat)), (21, .int .i64 (j : Nat))]) p.right.length
      ⟨0, mu, gr, by omega, by omega, Upd.refl _ _, tb2, A.weak (fun _ _ h => ⟨h, fun j' hj' => by omega⟩), rfl, by simp [Has]⟩ ?_
    clear hk k0 k1 k2 k3 k4 k12 k13 k14 A tbi tb2 mu gr
    rintro m st hx ⟨j, mu, gr, hj, rfl, ux, tbx, A, hk⟩
    rw [hk.eq]
    obtain ⟨k0, k1, k2, k3, k4, k6, k12, k13, k14, k19, k20, k21, -⟩ := hk.2
    simp only [slotsFrom, Nat.reduceAdd] at k0 k1 k2 k3 k4 k6 k12 k13 k14 k19 k20 k21 ⊢
    simp only [k0, k1, k2, k3, k4, k6, k12, k13, k14, k19, k20, k21]
    have hnx := ux.nxt
    have hbx : hh.nxt ∉ bl := fun hin => by have := hbl _ hin; omega
    simp (disch := first | ((try simp only [heapN]) <;> omega) | fail) only [go_sem, seval]
    by_cases hltj : (j : Int) < (rn : Int)
    · have hjl : j < p.right.length := by omega
      obtain ⟨b3, o3, cs3, l3, rfl, rfl, hb3, hg3, rfl, hr3, ht3, hc3⟩ := (sr2.pst ux.pst).at_ (i := j) (x := p.right[j]) (List.getElem?_eq_getElem hjl) (k := 2) rfl
      have hpj := List.getElem?_eq_getElem hjl
      obtain ⟨s0, s1, s2⟩ := q4 p.right[j] (List.getElem_mem hjl)
      generalize p.right[j] = s at *
      obtain ⟨y, hy0⟩ : ∃ y : Nat, s.at_ = y := ⟨s.at_.toNat, by omega⟩
      have hy0' : s.at_.toNat = y := by omega
      rw [hy0] at ht3 s1 s2
      have e4 : Ext hx ((hx.add (.cells [.bool false, .int .i64 0] true)).put hx.nxt (.cells [.bool s.tok, .int .i64 (y : Nat)] true)) := (Ext.add _ _).put (Nat.le_refl _)
      have g4 : ((hx.add (.cells [.bool false, .int .i64 0] true)).put hx.nxt (.cells [.bool s.tok, .int .i64 (y : Nat)] true)).get hx.nxt = some (.cells [.bool s.tok, .int .i64 (y : Nat)] true) := get_put_self
      have n4 : ((hx.add (.cells [.bool false, .int .i64 0] true)).put hx.nxt (.cells [.bool s.tok, .int .i64 (y : Nat)] true)).nxt = hx.nxt + 1 := by simp
      simp (disch := first | ((try simp only [heapN]) <;> omega) | fail) only [go_sem, seval, hltj, hg3, hr3, ht3, g4, Int.toNat_natCast]
      generalize ((hx.add (.cells [.bool false, .int .i64 0] true)).put hx.nxt (.cells [.bool s.tok, .int .i64 (y : Nat)] true)) = h4 at *
      have u4 : Upd (· ∈ bl) h2 h4 := ux.trans (e4.upd _)
      have tb4 := tbx.ext e4
      cases htk : s.tok with
      | true =>
        simp (disch := first | ((try simp only [heapN]) <;> omega) | fail) only [go_sem, seval]
        exact AgainK.mk (p.right.length - (j + 1)) (by simp only; omega) ⟨j + 1, mu, gr, by omega, rfl, u4, tb4, (A.tok hpj htk).weak (fun _ _ h => ⟨h.1.1, fun j' hj' => lt_or (fun x => h.1.2 j' x) h.2 hj'⟩), rfl, by simp [Has]⟩
      | false =>
        simp (disch := first | ((try simp only [heapN]) <;> omega) | fail) only [go_sem, seval]
        have hyn : y < ns.length := by have := s2 htk; omega
        have U4 : Upd (· ∈ bl) h h4 := u2.trans u4
        have gG4 := (U4.get gb hg1 ne1).trans hg2
        have gU4 := (U4.get ub hu1 ne2).trans hu2
        have gF4 := (U4.get fb hf1 ne3).trans hf2
        have gP4 := (u4.get hh.nxt (by omega) hbx).trans g2
        have hn4 := U4.nxt
        refine DrawU_of' (fun b => b = gb ∨ b = ub ∨ b = fb ∨ b = hh.nxt) [0, 0, 0, 0, 8, 0, 32, 120, 255, 511, 1023, 1023, 2047, 8191] (by rfl) (by rfl) (fun b hb => by rcases hb with rfl | rfl | rfl | rfl <;> omega) ?_
        simp (disch := first | ((try simp only [heapN]) <;> omega) | fail) only [go_sem, seval]
        refine LoadK_ofU rfl (.inl rfl) ?_
        simp (disch := first | ((try simp only [heapN]) <;> omega) | fail) only [go_sem, seval, gG4]
        refine LoadK_ofU rfl (.inr (.inl rfl)) ?_
        simp (disch := first | ((try simp only [heapN]) <;> omega) | fail) only [go_sem, seval, gU4]
        refine LoadK_ofU rfl (.inr (.inr (.inl rfl))) ?_
        simp (disch := first | ((try simp only [heapN]) <;> omega) | fail) only [go_sem, seval, gF4]
        refine LoadK_ofU rfl (.inr (.inr (.inr rfl))) ?_
        simp (disch := first | ((try simp only [heapN]) <;> omega) | fail) only [go_sem, seval, gP4]
        refine lst_lo (i := j + 1) T_60 rfl T_66 rfl ((sr2.pst u4.pst).ext (Ext.bump _ _)) (by omega) ?_
        intro rv Lr
        simp (disch := first | ((try simp only [heapN]) <;> omega) | fail) only [go_sem, seval]
        refine callV_ofU F_91 rfl ((begins_uf ((sn.pst U4.pst).ext (Ext.bump _ _)) ((su.pst U4.pst).ext (Ext.bump _ _)) ((tbF.upd U4 ne5 hdj).ext (Ext.bump _ _)) Lr hul RF.len (fun s hs => q4 s (List.mem_of_mem_drop hs)) (by rw [List.length_drop]; omega) ht.2 hn).mono ?_)
        rintro v5 h5 ⟨e5, w, rfl, L5, _⟩
        have e45 := (Ext.bump h4 14).trans e5
        have hn5 := e45.nxt
        refine ⟨fun b hb => e45.get b (by rcases hb with rfl | rfl | rfl | rfl <;> omega) |>.trans rfl, ?_⟩
        simp (disch := first | ((try simp only [heapN]) <;> omega) | fail) only [go_sem, seval]
        have gX4 := (U4.get xb hx1 ne4).trans hx2
        have gX5 := (e45.get xb (by omega)).trans gX4
        have g5 := (e45.get hx.nxt (by omega)).trans g4
        have gP5 := (e45.get hh.nxt (by omega)).trans gP4
        have tb5 := tb4.ext e45
        have gO5 := tb5.get
        have hml : mu.length = ns.length := A.rows.len
        have hyl : y < mu.length := by omega
        have hyb : y < bl.length := by have := tb5.len; omega
        have q5 : (y : Int) < (fo.length : Nat) := by omega
        have cO : (bl.map fun b => AV.slc (some (b, 0)) (tn + 1) (some (tn + 1)) 1)[y * 1]? = some (.slc (some (bl[y], 0)) (tn + 1) (some (tn + 1)) 1) := by rw [Nat.mul_one, List.getElem?_map, List.getElem?_eq_getElem hyb]; rfl
        obtain ⟨hrl, hrB⟩ := tb5.row y bl[y] mu[y] (List.getElem?_eq_getElem hyb) (List.getElem?_eq_getElem hyl)
        have hbm := List.getElem_mem hyb
        have hbl3 := begL_len tn nu fi (p.right.drop (j + 1))
        have A1 := A.pos1 (s := s) (List.mem_of_getElem? hpi) hpj htk (r := mu[y]) (by rw [hy0', List.getElem?_eq_getElem hyl])
        refine DrawU_of' (fun b => b = xb ∨ b = hx.nxt ∨ b = hh.nxt ∨ b = ob) [0, 0, 2, 7, 15, 0, 63, 127, 255, 511, 1023, 1023, 3071, 8191, 16383, 1023, 1023, 66559, 230399, 492543, 1048575, 2097151, 4194303] (by rfl) (by rfl) (fun b hb => by rcases hb with rfl | rfl | rfl | rfl <;> omega) ?_
        simp (disch := first | ((try simp only [heapN]) <;> omega) | fail) only [go_sem, seval]
        refine LoadK_ofU rfl (.inl rfl) ?_
        simp (disch := first | ((try simp only [heapN]) <;> omega) | fail) only [go_sem, seval, gX5]
        refine LoadK_ofU rfl (.inr (.inl rfl)) ?_
        simp (disch := first | ((try simp only [heapN]) <;> omega) | fail) only [go_sem, seval, g5, q5]
        refine LoadK_ofU rfl (.inr (.inr (.inr rfl))) ?_
        simp (disch := first | ((try simp only [heapN]) <;> omega) | fail) only [go_sem, seval, gO5, cO, Int.toNat_natCast]
        obtain ⟨yb, hyb'⟩ : ∃ yb, yb = bl[y] := ⟨_, rfl⟩
        have hyq : bl[y]? = some yb := by rw [hyb', List.getElem?_eq_getElem hyb]
        rw [← hyb'] at hrB hbm cO ⊢
        obtain ⟨row, hrow'⟩ : ∃ row, row = mu[y] := ⟨_, rfl⟩
        have hrow : mu[y]? = some row := by rw [hrow', List.getElem?_eq_getElem hyl]
        rw [← hrow'] at hrB hrl A1
        have hybl := hbl yb hbm
        have hPne : ∀ b, (b = xb ∨ b = hx.nxt ∨ b = hh.nxt ∨ b = ob) → b ≠ yb ∧ b < h5.nxt := fun b hb => by
          rcases hb with rfl | rfl | rfl | rfl
          · exact ⟨fun e => ne4 (by rw [e]; exact hbm), by omega⟩
          · exact ⟨by omega, by omega⟩
          · exact ⟨by omega, by omega⟩
          · exact ⟨fun e => hne6 (by rw [e]; exact hbm), by omega⟩
        refine callV_ofU F_92 rfl ((union_uf (hrB.ext (Ext.bump _ _)) (Lst.rdb (L5.ext (Ext.bump _ _)) (fun e => by rw [e] at hbl3; simp at hbl3; omega)) (by omega) (by omega)).mono ?_)
        rintro v6 h6 ⟨u6, B6, rfl⟩
        rw [hbl3] at B6 ⊢
        have tb6 := (tb5.ext (Ext.bump _ 23)).write hyq u6 (by rw [orT_len]; exact hrl) B6
        have hn6 := u6.nxt
        simp only [bump_nxt] at hn6
        have k6 : ∀ b, (b = xb ∨ b = hx.nxt ∨ b = hh.nxt ∨ b = ob) → h6.get b = h5.get b := fun b hb => (u6.get b (by simp; have := (hPne b hb).2; omega) (hPne b hb).1).trans (bump_get ..)
        refine ⟨fun b hb => k6 b hb, ?_⟩
        have U6 : Upd (· ∈ bl) h2 h6 := (u4.trans ((e45.trans (Ext.bump _ 23)).upd _)).trans (u6.weak fun b _ e => by rw [e]; exact hbm)
        rw [hy0'] at A1
        generalize hBB : begL tn nu fi (p.right.drop (j + 1)) = BB at *
        generalize hmu6 : mu.set y (orT row BB.1 tn) = mu6 at *
        cases hgr : grw row BB.1 tn with
        | true =>
          rw [hgr, if_pos rfl] at A1
          simp (disch := first | ((try simp only [heapN]) <;> omega) | fail) only [go_sem, seval]
          exact AgainK.mk (p.right.length - (j + 1)) (by simp only; omega) ⟨j + 1, mu6, true, by omega, rfl, U6, tb6, A1.weak (fun h => by cases h), rfl, by simp [Has]⟩
        | false =>
          rw [hgr, if_neg (by simp)] at A1
          cases hb2 : BB.2 with
          | false =>
            simp (disch := first | ((try simp only [heapN]) <;> omega) | fail) only [go_sem, seval]
            have A2 := Adv.pos_no (s := s) (by rw [hBB, hy0']; exact A1) hpj (by rw [hBB]; exact hb2)
            exact AgainK.mk (p.right.length - (j + 1)) (by simp only; omega) ⟨j + 1, mu6, gr, by omega, rfl, U6, tb6, A2.weak (fun _ _ h => ⟨h.1.1, fun j' hj' => lt_or (fun x => h.1.2 j' x) h.2 hj'⟩), rfl, by simp [Has]⟩
          | true =>
            simp (disch := first | ((try simp only [heapN]) <;> omega) | fail) only [go_sem, seval]
            have gX6 := (k6 _ (.inl rfl)).trans gX5
            have gS6 := (k6 _ (.inr (.inl rfl))).trans g5
            have gP6 := (k6 _ (.inr (.inr (.inl rfl)))).trans gP5
            have gO6 := (k6 _ (.inr (.inr (.inr rfl)))).trans gO5
            have hm6 : mu6.length = mu.length := by rw [← hmu6, List.length_set]
            have hkl : k < mu6.length := by have := hpl p (List.mem_of_getElem? hpi); omega
            have hkb : k < bl.length := by have := tb6.len; omega
            have q6 : (k : Int) < (fo.length : Nat) := by omega
            have cK : (bl.map fun b => AV.slc (some (b, 0)) (tn + 1) (some (tn + 1)) 1)[k * 1]? = some (.slc (some (bl[k], 0)) (tn + 1) (some (tn + 1)) 1) := by rw [Nat.mul_one, List.getElem?_map, List.getElem?_eq_getElem hkb]; rfl
            refine LoadK_ofU rfl (.inl rfl) ?_
            simp (disch := first | ((try simp only [heapN]) <;> omega) | fail) only [go_sem, seval, gX6]
            refine LoadK_ofU rfl (.inr (.inl rfl)) ?_
            simp (disch := first | ((try simp only [heapN]) <;> omega) | fail) only [go_sem, seval, gS6, q5]
            refine LoadK_ofU rfl (.inr (.inr (.inr rfl))) ?_
            simp (disch := first | ((try simp only [heapN]) <;> omega) | fail) only [go_sem, seval, gO6, cO, Int.toNat_natCast]
            refine LoadK_ofU rfl (.inl rfl) ?_
            simp (disch := first | ((try simp only [heapN]) <;> omega) | fail) only [go_sem, seval, gX6]
            refine LoadK_ofU rfl (.inr (.inr (.inl rfl))) ?_
            simp (disch := first | ((try simp only [heapN]) <;> omega) | fail) only [go_sem, seval, gP6, q6]
            refine LoadK_ofU rfl (.inr (.inr (.inr rfl))) ?_
            simp (disch := first | ((try simp only [heapN]) <;> omega) | fail) only [go_sem, seval, gO6, cK, Int.toNat_natCast]
            have A2 := fun ys hy => Adv.pos2 (s := s) (r := orT row BB.1 tn) (ys := ys) (by rw [hBB, hy0']; exact A1) (List.mem_of_getElem? hpi) hpj htk (by rw [hBB]; exact hb2) (by rw [hy0', ← hmu6, List.getElem?_set, if_pos rfl, if_pos hyl]) hy
            rw [hy0', hk0'] at A2
            have hrl6 : (orT row BB.1 tn).length = tn + 1 := by rw [orT_len]; exact hrl
            obtain ⟨hyl6, hyB⟩ := tb6.row k bl[k] mu6[k] (List.getElem?_eq_getElem hkb) (List.getElem?_eq_getElem hkl)
            have hys : mu6[k]? = some mu6[k] := List.getElem?_eq_getElem hkl
            have hy6 : mu6[y]? = some (orT row BB.1 tn) := by rw [← hmu6, List.getElem?_set, if_pos rfl, if_pos hyl]
            have hkq : bl[k]? = some bl[k] := List.getElem?_eq_getElem hkb
            have hsame : k = y → bl[k] = yb ∧ mu6[k] = orT row BB.1 tn := fun e => by
              subst e
              rw [hyq] at hkq
              rw [hy6] at hys
              exact ⟨(Option.some.inj hkq).symm, (Option.some.inj hys).symm⟩
            have hdiff : k ≠ y → bl[k] ≠ yb := fun e h => e (by
              rcases Nat.lt_trichotomy k y with h3 | h3 | h3
              · exact absurd (h.trans hyb') (List.pairwise_iff_getElem.1 tb6.nd k y hkb hyb h3)
              · exact h3
              · exact absurd (h.trans hyb').symm (List.pairwise_iff_getElem.1 tb6.nd y k hyb hkb h3))
            have A3 := A2 mu6[k] hys
            generalize mu6[k] = ys at *
            generalize bl[k] = kb at *
            have RR : Rdc yb h6 (.slc (some (kb, 0)) (tn + 1) (some (tn + 1)) 1) (orT row BB.1 tn) ys := by
              by_cases hky : k = y
              · obtain ⟨rfl, rfl⟩ := hsame hky
                exact B6.rdc
              · exact (hyB.rdb (hdiff hky)).rdc
            refine callV_ofU F_92 rfl ((unionc_uf B6 RR (by omega) (by omega)).mono ?_)
            rintro v7 h7 ⟨u7, B7, rfl⟩
            rw [hyl6] at B7 ⊢
            have tb7 := tb6.write hyq u7 (by rw [orT_len]; exact hrl6) B7
            have U7 : Upd (· ∈ bl) h2 h7 := U6.trans (u7.weak fun b _ e => by rw [e]; exact hbm)
            refine ⟨fun b hb => u7.get b (by have := (hPne b hb).2; omega) (hPne b hb).1, ?_⟩
            have A4 := A3.weak (Cl' := fun f => (∀ i', i' < i → ∀ p, ps[i']? = some p → ∀ j, OkPos tn (B1 nu) (B2 fi) (B2 f) p j) ∧ ∀ j', j' < j + 1 → OkPos tn (B1 nu) (B2 fi) (B2 f) p j') (fun _ _ h => ⟨h.1.1, fun j' hj' => lt_or (fun x => h.1.2 j' x) h.2 hj'⟩)
            cases hgr2 : grw (orT row BB.1 tn) ys (tn + 1) with
            | true =>
              rw [hgr2, if_pos rfl] at A4
              simp (disch := first | ((try simp only [heapN]) <;> omega) | fail) only [go_sem, seval]
              exact AgainK.mk (p.right.length - (j + 1)) (by simp only; omega) ⟨j + 1, _, true, by omega, rfl, U7, tb7, A4, rfl, by simp [Has]⟩
            | false =>
              rw [hgr2, if_neg (by simp)] at A4
              simp (disch := first | ((try simp only [heapN]) <;> omega) | fail) only [go_sem, seval]
              exact AgainK.mk (p.right.length - (j + 1)) (by simp only; omega) ⟨j + 1, _, gr, by omega, rfl, U7, tb7, A4, rfl, by simp [Has]⟩
    · simp (disch := first | ((try simp only [heapN]) <;> omega) | fail) only [go_sem, seval, hltj]
      exact AgainK.mk (ps.length - (i + 1)) (by simp only; omega) ⟨i + 1, mu, gr, by omega, rfl, u2.trans ux, tbx, A.weak (fun _ _ h i' hi' p' hp' j' => by
        rcases Nat.lt_or_ge i' i with h3 | h3
        · exact h.1 i' h3 p' hp' j'
        · have : i' = i := by omega
          subst this
          rw [hpi] at hp'
          cases hp'
          rcases Nat.lt_or_ge j' j with h4 | h4
          · exact h.2 j' h4
          · intro s hs
            rw [List.getElem?_eq_none (by omega)] at hs; cases hs), rfl, by simp [Has]⟩
  · simp (disch := first | ((try simp only [heapN]) <;> omega) | fail) only [go_sem, seval, hlt]
    have hie : i = ps.length := by omega
    subst hie
    exact hQ _ _ ⟨u, mu, gr, tbi, rfl, A.weak fun _ _ h p hp' j => by
      obtain ⟨i', hi', rfl⟩ := List.getElem_of_mem hp'
      exact h i' hi' _ (List.getElem?_eq_getElem hi') j⟩

end Go.Proofs.Ytaockkmmjinhpaa

/-
  Layer first: Follow.
-/
namespace Go.Proofs.Ytaockkmmjinhpaa
open Go Go.Am
set_option maxRecDepth 100000
set_option maxHeartbeats 4000000
set_option linter.unusedSimpArgs false
set_option linter.unusedVariables false

theorem Adv.trans {tn n : Nat} {ps : List GProd} {N : Nat → Prop} {Fi : Nat → Nat → Prop} {fo f1 f2 : List (List Bool)} {gr gr' : Bool} {Cl Cl' : List (List Bool) → Prop} (A : Adv tn n ps N Fi fo f1 gr Cl) (B : Adv tn n ps N Fi f1 f2 gr' Cl') :
    Rows (tn + 1) n f2 ∧ (∀ k x, B2 fo k x → B2 f2 k x) ∧ ∀ Fo, ClosedO tn ps N Fi Fo → (∀ k x, B2 fo k x → Fo k x) → ∀ k x, B2 f2 k x → Fo k x :=
  ⟨B.rows, fun k x h => B.up k x (A.up k x h), fun Fo hF h0 => B.snd Fo hF (A.snd Fo hF h0)⟩

theorem growsO_uf {h : Heap} {gb ub fb xb ob fob tn : Nat} {nv pv uv : AV} {ta : Option (Nat × Nat)} {tc : Option Nat} {tz : Nat} {bl blF : List Nat} {ns : List GNt} {ps : List GProd} {nu : List Bool} {fi fo : List (List Bool)}
    (hg : gb < h.nxt ∧ h.get gb = some (.cells [.slc ta tn tc tz, nv, pv] true)) (hu : ub < h.nxt ∧ h.get ub = some (.cells [uv] true)) (hf : fb < h.nxt ∧ h.get fb = some (.cells [.slc (some (fob, 0)) fi.length (some fi.length) 1] true)) (hx : xb < h.nxt ∧ h.get xb = some (.cells [.slc (some (ob, 0)) ns.length (some ns.length) 1] true))
    (sn : Lst h nv ns) (sp : Lst h pv ps) (su : Lst h uv nu) (tbF : Tbl h fob tn blF fi) (tb : Tbl h ob (tn + 1) bl fo) (RF : Rows tn ns.length fi) (R : Rows (tn + 1) ns.length fo) (hul : nu.length = ns.length) (hl : ps.length ≤ 1000) (hn : ns.length ≤ 100) (ht : 0 < tn ∧ tn ≤ 100)
    (hp : ∀ p ∈ ps, PrOk ns.length tn p) (hne : gb ∉ bl ∧ ub ∉ bl ∧ fb ∉ bl ∧ xb ∉ bl ∧ fob ∉ bl) (hdj : ∀ b ∈ blF, b ∉ bl) : UF T F 84 [.func (.func 93) [.ptr (some (gb, 0)), .ptr (some (ub, 0)), .ptr (some (fb, 0)), .ptr (some (xb, 0))]] h fun v' h' => Upd (· ∈ bl) h h' ∧ ∃ f2, Tbl h' ob (tn + 1) bl f2 ∧
      Rows (tn + 1) ns.length f2 ∧ (∀ k x, B2 fo k x → B2 f2 k x) ∧ (∀ Fo, ClosedO tn ps (B1 nu) (B2 fi) Fo → (∀ k x, B2 fo k x → Fo k x) → ∀ k x, B2 f2 k x → Fo k x) ∧ ∀ p ∈ ps, ∀ j, OkPos tn (B1 nu) (B2 fi) (B2 f2) p j := by
  obtain ⟨ne1, ne2, ne3, ne4, ne5⟩ := hne
  refine UF.gen fun Q hQ => UF.of (F_84) (c := _) rfl ?_
  unfold Try.f84
  simp only [List.length, Nat.reduceSub, Nat.reduceAdd, List.replicate, List.cons_append, List.nil_append]
  simp (disch := first | ((try simp only [heapN]) <;> omega) | fail) only [go_sem, seval]
  refine LoopU_while (fun m st hh => ∃ (mu : List (List Bool)), m = totF mu ∧ Upd (· ∈ bl) h hh ∧ Tbl hh ob (tn + 1) bl mu ∧ Rows (tn + 1) ns.length mu ∧ (∀ k x, B2 fo k x → B2 mu k x) ∧ (∀ Fo, ClosedO tn ps (B1 nu) (B2 fi) Fo → (∀ k x, B2 fo k x → Fo k x) → ∀ k x, B2 mu k x → Fo k x) ∧
      Keep st 4 [(0, .func (.func 93) [.ptr (some (gb, 0)), .ptr (some (ub, 0)), .ptr (some (fb, 0)), .ptr (some (xb, 0))])]) (totF fo)
    ⟨fo, rfl, Upd.refl _ _, tb, R, fun _ _ h => h, fun _ _ h => h, rfl, by simp [Has]⟩ ?_
  rintro m st hh ⟨mu, rfl, u, tbm, RM, up, snd, hk⟩
  rw [hk.eq]
  obtain ⟨k0, -⟩ := hk.2
  simp only [slotsFrom, Nat.reduceAdd] at k0 ⊢
  simp only [k0]
  simp (disch := first | ((try simp only [heapN]) <;> omega) | fail) only [go_sem, seval]
  have hnh := u.nxt
  refine callV_ofU F_93 rfl ((folS_uf (fo := mu) ⟨by omega, (u.get gb hg.1 ne1).trans hg.2⟩ ⟨by omega, (u.get ub hu.1 ne2).trans hu.2⟩ ⟨by omega, (u.get fb hf.1 ne3).trans hf.2⟩ ⟨by omega, by rw [RM.len]; exact (u.get xb hx.1 ne4).trans hx.2⟩ (sn.pst u.pst) (sp.pst u.pst) (su.pst u.pst) (tbF.upd u ne5 hdj) tbm RF RM hul hl hn ht hp ⟨ne1, ne2, ne3, ne4, ne5⟩ hdj).mono ?_)
  rintro v2 h2 ⟨u2, f2, gr, tb2, rfl, A⟩
  simp (disch := first | ((try simp only [heapN]) <;> omega) | fail) only [go_sem, seval]
  cases gr with
  | true =>
    have := A.cnt.2 rfl
    simp (disch := first | ((try simp only [heapN]) <;> omega) | fail) only [go_sem, seval]
    exact AgainK.mk (totF f2) (by simp only; omega) ⟨f2, rfl, u.trans u2, tb2, A.rows, fun k x h => A.up k x (up k x h), fun Fo hF h0 => A.snd Fo hF (snd Fo hF h0), rfl, by simp [Has]⟩
  | false =>
    obtain ⟨s1, s2⟩ := A.stop rfl
    simp (disch := first | ((try simp only [heapN]) <;> omega) | fail) only [go_sem, seval]
    exact hQ _ _ ⟨u.trans u2, f2, tb2, A.rows, fun k x h => A.up k x (up k x h), fun Fo hF h0 => A.snd Fo hF (snd Fo hF h0), by rw [s1]; exact s2⟩

theorem UF_clean3 {f : Nat} {args : List AV} {h : Heap} {x : AV} {i j l : Nat} (w : UF T F f args h fun v h' => Ext h h' ∧ v = x) : UF T F f args h fun v h' => (Ext h h' ∧ v = x) ∧ h'.get (h'.nxt + i) = none ∧ h'.get (h'.nxt + j) = none ∧ h'.get (h'.nxt + l) = none := by
  refine UF.lessQ (w.mono ?_)
  rintro v h' ⟨e, rfl⟩
  refine ⟨((h'.del (h'.nxt + i)).del (h'.nxt + j)).del (h'.nxt + l), ((del_le _ _).trans (del_le _ _)).trans (del_le _ _), ⟨((e.trans (del_ext (by omega))).trans (del_ext (by simp))).trans (del_ext (by simp)), rfl⟩, ?_, ?_, ?_⟩
  · show (((h'.del (h'.nxt + i)).del (h'.nxt + j)).del (h'.nxt + l)).get (h'.nxt + i) = none
    rw [Heap.get_del, Heap.get_del, Heap.get_del, if_pos rfl]
    split <;> (try split) <;> rfl
  · show (((h'.del (h'.nxt + i)).del (h'.nxt + j)).del (h'.nxt + l)).get (h'.nxt + j) = none
    rw [Heap.get_del, Heap.get_del, if_pos rfl]
    split <;> rfl
  · show (((h'.del (h'.nxt + i)).del (h'.nxt + j)).del (h'.nxt + l)).get (h'.nxt + l) = none
    rw [Heap.get_del, if_pos rfl]

theorem put3 {h : Heap} {i j l : Nat} (hij : i < j) (hjl : j < l) (zi : h.get i = none) (zj : h.get j = none) (zl : h.get l = none) (x1 x2 x3 y1 y2 y3 : List AV) : ∃ H, (((((h.put i (.cells x1 true)).put j (.cells x2 true)).put l (.cells x3 true)).put i (.cells y1 true)).put j (.cells y2 true)).put l (.cells y3 true) = H ∧
    Upd (fun b => b = i ∨ b = j ∨ b = l) h H ∧ H.get i = some (.cells y1 true) ∧ H.get j = some (.cells y2 true) ∧ H.get l = some (.cells y3 true) := by
  refine ⟨_, rfl, ?_, ?_, ?_, get_put_self⟩
  · refine (((((Upd.put _ (.inl rfl) fun cs e => by rw [zi] at e; cases e).trans (Upd.put _ (.inr (.inl rfl)) fun cs e => by rw [get_put_ne (by omega), zj] at e; cases e)).trans (Upd.put _ (.inr (.inr rfl)) fun cs e => by rw [get_put_ne (by omega), get_put_ne (by omega), zl] at e; cases e)).trans (Upd.put _ (.inl rfl) fun cs e => by rw [get_put_ne (by omega), get_put_ne (by omega), get_put_self] at e; simp at e)).trans (Upd.put _ (.inr (.inl rfl)) fun cs e => by rw [get_put_ne (by omega), get_put_ne (by omega), get_put_self] at e; simp at e)).trans (Upd.put _ (.inr (.inr rfl)) fun cs e => by rw [get_put_ne (by omega), get_put_ne (by omega), get_put_self] at e; simp at e)
  · rw [get_put_ne (by omega), get_put_ne (by omega), get_put_self]
  · rw [get_put_ne (by omega), get_put_self]

theorem rep_getD (n x : Nat) : (List.replicate n false).getD x false = false := by
  rw [List.getD_eq_getElem?_getD, List.getElem?_replicate]
  split <;> rfl
theorem init_O {n t k x : Nat} (hn : 0 < n) : B2 ((List.replicate n (List.replicate (t + 1) false)).set 0 ((List.replicate (t + 1) false).set t true)) k x ↔ k = 0 ∧ x = t := by
  unfold B2
  rw [getD_setL]
  by_cases hk : k = 0
  · rw [if_pos ⟨hk, by rw [List.length_replicate]; exact hn⟩, getD_set]
    by_cases hx : x = t
    · rw [if_pos ⟨hx, by rw [List.length_replicate]; omega⟩]
      exact ⟨fun _ => ⟨hk, hx⟩, fun _ => rfl⟩
    · rw [if_neg (fun h => hx h.1), rep_getD]
      exact ⟨fun h => (by cases h), fun h => absurd h.2 hx⟩
  · rw [if_neg (fun h => hk h.1)]
    have : ((List.replicate n (List.replicate (t + 1) false)).getD k []).getD x false = false := by
      rw [List.getD_eq_getElem?_getD (l := List.replicate n _), List.getElem?_replicate]
      split
      · exact rep_getD _ _
      · rfl
    rw [this]
    exact ⟨fun h => (by cases h), fun h => absurd h.1 hk⟩

/-- What may stand behind a nonterminal: the least sets that are closed. -/
structure FolOk (g : Gm) (fo : List (List Bool)) : Prop where
  rows : Rows (g.toks.length + 1) g.nts.length fo
  closed : ClosedO g.toks.length g.prods (B1 (nulL g.nts.length g.prods)) (B2 (firL g.toks.length g.nts.length g.prods)) (B2 fo)
  least : ∀ Fo, ClosedO g.toks.length g.prods (B1 (nulL g.nts.length g.prods)) (B2 (firL g.toks.length g.nts.length g.prods)) Fo → ∀ k x, B2 fo k x → Fo k x

theorem Follow_uf {h : Heap} {tv nv pv : AV} {g : Gm} (lt : Lst h tv g.toks) (sn : Lst h nv g.nts) (sp : Lst h pv g.prods) (M : MayG g) : UF T F 40 [.agg [tv, nv, pv]] h fun v' h' => Ext h h' ∧ ∃ ob bl fo, v' = .slc (some (ob, 0)) g.nts.length (some g.nts.length) 1 ∧ Tbl h' ob (g.toks.length + 1) bl fo ∧ FolOk g fo ∧ h.nxt ≤ ob ∧ ∀ b ∈ bl, h.nxt ≤ b := by
  obtain ⟨ta, tn, tc, tz, rfl, htn⟩ := lt.form
  obtain ⟨na, nn, nc, nz, rfl, hnn⟩ := sn.form
  obtain ⟨pa, pn, pc, pz, rfl, hpn⟩ := sp.form
  refine UF.gen fun Q hQ => UF.of (F_40) (c := _) rfl ?_
  unfold Try.f40
  simp only [List.length, Nat.reduceSub, Nat.reduceAdd, List.replicate, List.cons_append, List.nil_append]
  simp (disch := first | ((try simp only [heapN]) <;> omega) | fail) only [go_sem, seval]
  have e1 : Ext h (h.add (.cells [.slc ta tn tc tz, .slc na nn nc nz, .slc pa pn pc pz] true)) := Ext.add _ _
  have g1 : (h.add (.cells [.slc ta tn tc tz, .slc na nn nc nz, .slc pa pn pc pz] true)).get h.nxt = some (.cells [.slc ta tn tc tz, .slc na nn nc nz, .slc pa pn pc pz] true) := get_add_self
  have n1 : (h.add (.cells [.slc ta tn tc tz, .slc na nn nc nz, .slc pa pn pc pz] true)).nxt = h.nxt + 1 := by simp
  generalize (h.add (.cells [.slc ta tn tc tz, .slc na nn nc nz, .slc pa pn pc pz] true)) = h1 at *
  have hnl := M.nl
  have htl := M.tl
  refine callV_ofU F_28 rfl ((UF_clean3 (i := 12) (j := 13) (l := 14) (May_uf (lt.ext e1) (sn.ext e1) (sp.ext e1) M)).mono ?_)
  rintro v2 h2 ⟨⟨e2, rfl⟩, z12, z13, z14⟩
  simp (disch := first | ((try simp only [heapN]) <;> omega) | fail) only [go_sem, seval]
  have g2 := (e2.get _ (by omega)).trans g1
  have hn2 := e2.nxt
  refine DrawU_of' (fun b => b = h.nxt) [0, 1, 0, 7, 0, 16, 48, 0, 128, 384, 896, 2047, 0, 0, 0, 32767, 65535, 131071] (by rfl) (by rfl) (fun b hb => by subst hb; omega) ?_
  simp (disch := first | ((try simp only [heapN]) <;> omega) | fail) only [go_sem, seval]
  have e12 := e1.trans e2
  refine LoadK_ofU rfl rfl ?_
  simp (disch := first | ((try simp only [heapN]) <;> omega) | fail) only [go_sem, seval, g2]
  refine callV_ofU F_37 rfl ((Nullable_uf ((lt.ext e12).ext (Ext.bump _ _)) ((sn.ext e12).ext (Ext.bump _ _)) ((sp.ext e12).ext (Ext.bump _ _)) M).mono ?_)
  rintro v3 h3 ⟨e3, L3⟩
  simp (disch := first | ((try simp only [heapN]) <;> omega) | fail) only [go_sem, seval]
  have hn3 := e3.nxt
  simp only [bump_nxt] at hn3
  have g3 := (e3.get h.nxt (by simp; omega)).trans ((bump_get ..).trans g2)
  refine ⟨fun b hb => by subst hb; exact g3.trans g2.symm, ?_⟩
  refine LoadK_ofU rfl rfl ?_
  simp (disch := first | ((try simp only [heapN]) <;> omega) | fail) only [go_sem, seval, g3]
  have e13 := e12.trans ((Ext.bump _ _).trans e3)
  refine callV_ofU F_39 rfl ((First_uf (lt.ext e13) (sn.ext e13) (sp.ext e13) M).mono ?_)
  rintro v4 h4 ⟨e4, fob, blF, rfl, tbF, hfob, hbF⟩
  simp (disch := first | ((try simp only [heapN]) <;> omega) | fail) only [go_sem, seval]
  have g4 := (e4.get _ (by omega)).trans g3
  have hn4 := e4.nxt
  have hblF : fob < h4.nxt ∧ ∀ b ∈ blF, b < h4.nxt := ⟨tbF.lt, fun b hb => by
    obtain ⟨i, hi, rfl⟩ := List.getElem_of_mem hb
    have hl := tbF.len
    exact (tbF.row i _ _ (List.getElem?_eq_getElem hi) (List.getElem?_eq_getElem (by omega))).2.2.1⟩
  refine ⟨fun b hb => by subst hb; exact g4.trans g3.symm, ?_⟩
  refine LoadK_ofU rfl rfl ?_
  simp (disch := first | ((try simp only [heapN]) <;> omega) | fail) only [go_sem, seval, g4]
  refine LoadK_ofU rfl rfl ?_
  simp (disch := first | ((try simp only [heapN]) <;> omega) | fail) only [go_sem, seval, g4]
  rw [show ((tn : Int) + 1) = ((tn + 1 : Nat) : Int) by omega]
  refine callV_ofU F_89 rfl ((sets_uf (n := nn) (m := tn + 1) (by omega) (by omega)).mono ?_)
  rintro v5 h5 ⟨e5, rfl, bl, tb5, hbl⟩
  simp (disch := first | ((try simp only [heapN]) <;> omega) | fail) only [go_sem, seval]
  have g5 := (e5.get _ (by omega)).trans g4
  have hn5 := e5.nxt
  refine ⟨fun b hb => by subst hb; exact g5.trans g4.symm, ?_⟩
  obtain ⟨ua, un, uc, uz, rfl, hun⟩ := L3.form
  simp (disch := first | ((try simp only [heapN]) <;> omega) | fail) only [go_sem, seval]
  have z : ∀ i, h2.get (h2.nxt + i) = none → i < 15 → h5.get (h2.nxt + i) = none := fun i hi hlt => (e5.get _ (by omega)).trans ((e4.get _ (by omega)).trans ((e3.get _ (by simp; omega)).trans ((bump_get ..).trans hi)))
  obtain ⟨H, hH, uH, gu, gf, gx⟩ := put3 (h := h5) (i := h2.nxt + 12) (j := h2.nxt + 13) (l := h2.nxt + 14) (by omega) (by omega) (z 12 z12 (by omega)) (z 13 z13 (by omega)) (z 14 z14 (by omega)) [.slc none 0 (some 0) 0] [.slc none 0 (some 0) 0] [.slc none 0 (some 0) 0] [.slc ua un uc uz] [.slc (some (fob, 0)) g.nts.length (some g.nts.length) 1] [.slc (some (h4.nxt, 0)) nn (some nn) 1]
  refine ⟨fun b hb => by subst hb; rw [get_put_ne (by omega), get_put_ne (by omega), get_put_ne (by omega), get_put_ne (by omega)], fun b hb => by subst hb; rw [get_put_ne (by omega)], fun b hb => by subst hb; rw [get_put_ne (by omega)], ?_⟩
  rw [hH]
  clear hH
  have e25 : Ext h2 h5 := (((Ext.bump _ _).trans e3).trans e4).trans e5
  have hnH := uH.nxt
  have tbH := tb5.upd uH (by omega) fun b hb => by have := hbl b hb; omega
  have tbFH := (tbF.ext e5).upd uH (by omega) fun b hb => by have := hblF.2 b hb; have := hbF b hb; omega
  have e1H := e12.trans ((e25.upd (h2.nxt ≤ ·)).trans (uH.weak fun b _ e => by omega) |>.ext fun b hb => by omega)
  have gH := (uH.get h.nxt (by omega) (by omega)).trans g5
  have gO := tbH.get
  have hOl := tbH.lt
  have hbl0 : 0 < bl.length := by rw [tbH.len, List.length_replicate]; omega
  have c0 : (bl.map fun b => AV.slc (some (b, 0)) (tn + 1) (some (tn + 1)) 1)[0]? = some (.slc (some (bl[0], 0)) (tn + 1) (some (tn + 1)) 1) := by rw [List.getElem?_map, List.getElem?_eq_getElem hbl0]; rfl
  have hq0 : bl[0]? = some bl[0] := List.getElem?_eq_getElem hbl0
  have hbm := hbl bl[0] (List.getElem_mem hbl0)
  obtain ⟨_, B0⟩ := tbH.row 0 bl[0] (List.replicate (tn + 1) false) hq0 (by rw [List.getElem?_replicate, if_pos (by omega)])
  obtain ⟨rb, hrb⟩ : ∃ rb, rb = bl[0] := ⟨_, rfl⟩
  rw [← hrb] at c0 hq0 hbm B0
  have gR := B0.2.2
  have q0 : (0 : Int) < (nn : Int) := by omega
  have q1 : (tn : Int) < ((tn + 1 : Nat) : Int) := by omega
  have hz : ((List.replicate (tn + 1) false).map AV.bool).length = tn + 1 := by simp
  refine DrawU_of' (fun b => b = h2.nxt + 14 ∨ b = h4.nxt ∨ b = h.nxt) [0, 1, 3, 0, 8, 24, 63, 127] (by rfl) (by rfl) (fun b hb => by rcases hb with rfl | rfl | rfl <;> omega) ?_
  simp (disch := first | ((try simp only [heapN]) <;> omega) | fail) only [go_sem, seval]
  refine LoadK_ofU rfl (.inl rfl) ?_
  simp (disch := first | ((try simp only [heapN]) <;> omega) | fail) only [go_sem, seval, gx, q0]
  refine LoadK_ofU rfl (.inr (.inl rfl)) ?_
  simp (disch := first | ((try simp only [heapN]) <;> omega) | fail) only [go_sem, seval, gO, c0]
  refine LoadK_ofU rfl (.inr (.inr rfl)) ?_
  simp (disch := first | ((try simp only [heapN]) <;> omega) | fail) only [go_sem, seval, gH, q1, Int.toNat_natCast]
  rw [gR]
  simp (disch := first | ((try simp only [heapN]) <;> omega) | fail) only [go_sem, seval, hz]
  rw [Nat.mul_one]
  refine ⟨fun b hb => (get_put_ne (by rcases hb with rfl | rfl | rfl <;> omega)).trans (bump_get ..), ?_⟩
  have uS : Upd (· = rb) H ((H.bump 8).put rb (.cells (((List.replicate (tn + 1) false).map AV.bool).set tn (.bool true)) true)) := ((Ext.bump H 8).upd _).trans (Upd.put _ rfl fun cs e => by rw [bump_get, gR] at e; simp at e)
  have BS := (B0.ext (Ext.bump H 8)).set tn true
  have tbS := tbH.write (k := 0) hq0 uS (by simp) BS
  generalize ((H.bump 8).put rb (.cells (((List.replicate (tn + 1) false).map AV.bool).set tn (.bool true)) true)) = H2 at *
  have nb : ∀ b, b ≤ h4.nxt → b ∉ bl := fun b hb hin => by have := hbl b hin; omega
  have RF := firL_rows M
  have hnS := uS.nxt
  have e2S : Ext h2 H2 := ((((e25.upd (h2.nxt ≤ ·)).trans (uH.weak fun b _ e => by omega)).trans (uS.weak fun b _ e => by omega)).ext fun b hb => by omega)
  have e1S := e12.trans e2S
  have UH5 : Upd (fun b => h4.nxt < b ∨ b = h2.nxt + 12 ∨ b = h2.nxt + 13 ∨ b = h2.nxt + 14) h5 H2 := (uH.weak fun b _ e => .inr e).trans (uS.weak fun b _ e => .inl (by omega))
  have w84 := growsO_uf (ns := g.nts) (ps := g.prods) (nu := nulL g.nts.length g.prods) (fi := firL g.toks.length g.nts.length g.prods) (tn := tn) (gb := h.nxt) (ub := h2.nxt + 12) (fb := h2.nxt + 13) (xb := h2.nxt + 14)
    ⟨by omega, (uS.get _ (by omega) (by omega)).trans gH⟩ ⟨by omega, (uS.get _ (by omega) (by omega)).trans gu⟩ ⟨by omega, by rw [RF.len]; exact (uS.get _ (by omega) (by omega)).trans gf⟩ ⟨by omega, by rw [← hnn]; exact (uS.get _ (by omega) (by omega)).trans gx⟩
    (sn.ext e1S) (sp.ext e1S) (((L3.ext e4).ext e5).pst UH5.pst) (by rw [htn]; exact tbFH.upd uS (by omega) fun b hb => by have := hblF.2 b hb; omega) tbS (by rw [htn]; exact RF) ⟨by simp [hnn], fun r hr => by
      rcases List.mem_or_eq_of_mem_set hr with hr | rfl
      · rw [List.eq_of_mem_replicate hr]; simp
      · simp⟩ (nulL_len _ _) (by have := M.pl; omega) (by omega) ⟨by omega, by omega⟩ (fun p hp => by rw [htn]; exact M.pr p hp) ⟨nb _ (by omega), nb _ (by omega), nb _ (by omega), nb _ (by omega), nb _ (by omega)⟩ fun b hb => nb b (by have := hblF.2 b hb; omega)
  refine callV_ofU F_84 rfl (w84.mono ?_)
  rintro v6 h6 ⟨u6, f2, tb6, R6, up6, ls6, ok6⟩
  have gx6 := (u6.get (h2.nxt + 14) (by omega) (nb _ (by omega))).trans ((uS.get _ (by omega) (by omega)).trans gx)
  simp (disch := first | ((try simp only [heapN]) <;> omega) | fail) only [go_sem, seval, gx6]
  refine hQ _ _ ⟨((e1S.upd (h.nxt ≤ ·)).trans' u6 fun b e hb => by have := hbl b e; omega).ext fun b hb => by omega, h4.nxt, bl, f2, by rw [hnn], by rw [← htn]; exact tb6, ⟨by rw [← htn]; exact R6, ⟨?_, by rw [← htn]; rw [← htn] at ok6; exact ok6⟩, fun Fo hF => ?_⟩, by omega, fun b hb => by have := hbl b hb; omega⟩
  · rw [← htn]
    exact up6 _ _ ((init_O (by omega)).2 ⟨rfl, rfl⟩)
  · rw [← htn] at hF
    exact ls6 Fo (by rw [← htn]; exact hF) fun k x hk => by
      obtain ⟨rfl, rfl⟩ := (init_O (by omega)).1 hk
      exact hF.1

end Go.Proofs.Ytaockkmmjinhpaa

/-
  Layer first: what more productions do; whether a set is within another one.
-/
namespace Go.Proofs.Ytaockkmmjinhpaa
open Go Go.Am
set_option maxRecDepth 100000
set_option maxHeartbeats 4000000
set_option linter.unusedSimpArgs false
set_option linter.unusedVariables false

theorem ClosedN.less {ps qs : List GProd} {N : Nat → Prop} (h : ∀ p ∈ ps, p ∈ qs) (c : ClosedN qs N) : ClosedN ps N := fun p hp => c p (h p hp)
theorem ClosedF.less {t : Nat} {ps qs : List GProd} {N N' : Nat → Prop} {Fi : Nat → Nat → Prop} (h : ∀ p ∈ ps, p ∈ qs) (hN : ∀ k, N k → N' k) (c : ClosedF t qs N' Fi) : ClosedF t ps N Fi := fun p hp x hx hr => c p (h p hp) x hx (hr.mono hN fun k hk => hk)
theorem ClosedO.less {t : Nat} {ps qs : List GProd} {N N' : Nat → Prop} {Fi Fi' Fo : Nat → Nat → Prop} (h : ∀ p ∈ ps, p ∈ qs) (hN : ∀ k, N k → N' k) (hF : ∀ k x, Fi k x → Fi' k x) (c : ClosedO t qs N' Fi' Fo) : ClosedO t ps N Fi Fo :=
  ⟨c.1, fun p hp j s hs ht => by
    obtain ⟨c1, c2⟩ := c.2 p (h p hp) j s hs ht
    exact ⟨fun x hx hr => c1 x hx (hr.mono hN fun k hk => hF k x hk), fun hn => c2 (hn.mono hN)⟩⟩
theorem MayG.left {g : Gm} (M : MayG g) : ∀ p ∈ g.prods, p.left.toNat < g.nts.length := fun p hp => by
  obtain ⟨⟨q1, q2⟩, _⟩ := M.pr p hp; omega

section
variable {α : Type} [Rep α] {n : Nat}
theorem opq_keep {h h' : Heap} : ∀ {os : List (Opq n)} {ls : List (List AV)}, Reps h os ls → Reps h' os ls
  | _, _, .nil => .nil
  | _, _, .cons a r => .cons (α := Opq n) a (opq_keep r)
end

end Go.Proofs.Ytaockkmmjinhpaa
