/-
  Layer nfa, as it is told of patterns: many ways, and the longest front.
-/
import Derived.Test.YtenpjkinpecnfaaMade
import Derived.Test.YtenpjkinpecnfaaAmAu
import Derived.KernelRfl
namespace Go.Proofs.Ytenpjkinpecnfaa
open Go Go.Am
set_option maxRecDepth 100000
set_option maxHeartbeats 4000000
set_option linter.unusedSimpArgs false
set_option linter.unusedVariables false

theorem OfR.wt {ls : List (List Item)} {n : Nat} {ss ss2 : List St} (h : OfR ls n ss ss2) : wt ss2 ≤ Go.Proofs.Ytenpjkinpecnfaa.wt ss + pcost ls := by
  induction h with
  | nil => omega
  | @cons l ls n ss ss1 ss2 r run hr h0 t ih =>
    have h1 := run.wt
    have h2 := wt_free ss1 0 [r.from_]
    rw [endS_wt] at ih
    simp only [pcost, List.map_cons, List.sum_cons, List.length_singleton] at ih h2 ⊢
    omega
theorem Blocks.fin {G : List St} : ∀ {es : List Rx} {k : Nat} {fs : List Nat} {a z : Nat}, Blocks G es k fs a z → ∀ i, a ≤ i → i < z → ∃ x, G[i]? = some x ∧ x.fin ≤ k + es.length
  | [], k, fs, a, z, h, i, h1, h2 => by have := h.2; omega
  | e :: es, k, fs, a, z, ⟨f, t, b, fs', e1, F, g, h⟩, i, h1, h2 => by
    by_cases hb : i < b
    · by_cases ht : i = t
      · subst ht; exact ⟨_, g, by simp [stE]⟩
      · obtain ⟨x, h3, h4⟩ := F.fin0 i h1 hb ht
        exact ⟨x, h3, by omega⟩
    · obtain ⟨x, h3, h4⟩ := h.fin i (by omega) h2
      exact ⟨x, h3, by simp only [List.length_cons]; omega⟩
theorem Auto.fin {G : List St} {es : List Rx} (A : Auto G es) : 0 < G.length ∧ ∀ x ∈ G, x.fin ≤ es.length := by
  obtain ⟨fs, g0, B⟩ := A
  refine ⟨(List.getElem?_eq_some_iff.1 g0).1, fun x hx => ?_⟩
  obtain ⟨i, hi, rfl⟩ := List.getElem_of_mem hx
  by_cases h0 : i = 0
  · subst h0
    have := List.getElem?_eq_getElem hi
    rw [g0] at this
    simp only [Option.some.injEq] at this
    rw [← this]; simp [stF]
  · obtain ⟨x, h3, h4⟩ := B.fin i (by omega) hi
    have := List.getElem?_eq_getElem hi
    rw [h3] at this
    simp only [Option.some.injEq] at this
    rw [← this]; omega
theorem cost_le : ∀ {l : List Item}, (∀ x ∈ l, x.l.length ≤ 24) → cost l ≤ 58 * l.length
  | [], _ => by simp [cost]
  | x :: l, h => by
    have := cost_le fun y hy => h y (List.mem_cons_of_mem _ hy)
    have := h x (by simp)
    rw [cost_cons, List.length_cons]; omega
theorem pcost_le : ∀ {es : List Rx}, (∀ e ∈ es, Fit e) → pcost (es.map Rx.items) ≤ 2785 * es.length
  | [], _ => by simp [pcost]
  | e :: es, h => by
    have h1 := pcost_le fun y hy => h y (List.mem_cons_of_mem _ hy)
    have F := h e (by simp)
    have := cost_le F.rng
    have := F.few
    simp only [pcost, List.map_cons, List.sum_cons, List.length_cons] at h1 ⊢
    omega
/-- States that patterns make. -/
structure AutoFit (G : List St) (es : List Rx) : Prop where
  auto : Auto G es
  pos : 0 < G.length
  wt : wt G ≤ 1 + 2785 * es.length
  fin : ∀ x ∈ G, x.fin ≤ es.length
  few : es.length ≤ 100
theorem NfaOf_uf {h : Heap} {v : AV} {es : List Rx} (sv : Lst h v (es.map Rx.items)) (hf : ∀ e ∈ es, Fit e) (hl : es.length ≤ 100) :
    UF T F 29 [v] h fun v' h' => Ext h h' ∧ ∃ G, Lst h' v' G ∧ AutoFit G es := by
  obtain ⟨G, R, A⟩ := auto_of es fun e he => (hf e he).ok
  have hp := pcost_le hf
  refine (Of_uf sv R (by simp; omega) (fun l hl => ?_) (by omega)).mono ?_
  · obtain ⟨e, he, rfl⟩ := List.mem_map.1 hl
    have := (hf e he).few; omega
  · rintro v' h' ⟨e1, L⟩
    have hw := R.wt
    have h1 : wt [st0] = 1 := rfl
    exact ⟨e1, G, L, A, A.fin.1, by omega, A.fin.2, hl⟩
theorem HasR.cls {a : UInt8} {w : List UInt8} {m : Nat} : HasR [.cls [⟨a, a⟩]] w m ↔ m = 0 ∧ w = [a] := by
  constructor
  · rintro ⟨e, h1, h2⟩
    cases m with
    | zero =>
      simp only [List.getElem?_cons_zero, Option.some.injEq] at h1
      subst h1
      obtain ⟨c, rfl, r, hr, h3, h4⟩ := h2
      simp only [List.mem_singleton] at hr
      subst hr
      have h3 : a ≤ c := h3
      have h4 : c ≤ a := h4
      exact ⟨rfl, by rw [UInt8.le_antisymm h4 h3]⟩
    | succ m => simp at h1
  · rintro ⟨rfl, rfl⟩
    exact ⟨_, rfl, a, rfl, ⟨a, a⟩, by simp, UInt8.le_refl a, UInt8.le_refl a⟩

/-- A part of a text. -/
theorem str_hi {K : KH} {h : Heap} {s : List UInt8} {kd : IntKind} {i : Nat} (hi : i ≤ s.length) (k : K.k (.str (s.take i)) h) : @OBk (match sliceA T 9 (.str s) none (some (.int kd (i : Int))) none with | some r => some (r, h) | none => none) K := by
  have : sliceA T 9 (.str s) none (some (.int kd (i : Int))) none = some (.str (s.take i)) := by
    simp only [sliceA, T_9]
    rw [sbounds_hi (by omega) (by omega)]
    simp
  rw [this]; exact k
theorem str_lo {K : KH} {h : Heap} {s : List UInt8} {kd : IntKind} {i : Nat} (hi : i ≤ s.length) (k : K.k (.str (s.drop i)) h) : @OBk (match sliceA T 9 (.str s) (some (.int kd (i : Int))) none none with | some r => some (r, h) | none => none) K := by
  have : sliceA T 9 (.str s) (some (.int kd (i : Int))) none none = some (.str (s.drop i)) := by
    simp only [sliceA, T_9]
    rw [sbounds_lo (by omega) (by omega)]
    simp only [Int.toNat_natCast]
    rw [List.take_of_length_le (by simp)]
  rw [this]; exact k
theorem str_both {K : KH} {h : Heap} {s : List UInt8} {kd kd' : IntKind} {i j : Nat} (hi : i ≤ j) (hj : j ≤ s.length) (k : K.k (.str ((s.drop i).take (j - i))) h) : @OBk (match sliceA T 9 (.str s) (some (.int kd (i : Int))) (some (.int kd' (j : Int))) none with | some r => some (r, h) | none => none) K := by
  have : sliceA T 9 (.str s) (some (.int kd (i : Int))) (some (.int kd' (j : Int))) none = some (.str ((s.drop i).take (j - i))) := by
    simp only [sliceA, T_9]
    rw [sbounds_both (by omega) (by omega) (by omega)]
    simp
  rw [this]; exact k
/-- Two lists of bytes that are handed over. -/
theorem slc_frzV {h : Heap} {v w : AV} {sz : Nat} {ls : List (List AV)} (a : Slc h w sz ls) : Slc (h.frzV v) w sz ls := by
  rcases a with a | ⟨b', o, cap, cs, wr, rfl, hb', hc'⟩
  · exact .inl a
  · by_cases he : v.base = some b'
    · have hg : ∃ wr', (h.frzV v).get b' = some (.cells cs wr') := by
        unfold Heap.frzV
        split
        · rename_i b2 _ _ _ _
          simp only [AV.base, Option.some.injEq] at he
          subst he
          exact ⟨false, frz_eq hb'.get⟩
        · exact ⟨wr, hb'.get⟩
      obtain ⟨wr', hg⟩ := hg
      exact .inr ⟨b', o, cap, cs, wr', rfl, ⟨by simpa using hb'.lt, hg, hb'.len, hb'.room, hb'.win⟩, hc'⟩
    · exact .inr ⟨b', o, cap, cs, wr, rfl, ⟨by simpa using hb'.lt, by rw [frzV_ne he]; exact hb'.get, hb'.len, hb'.room, hb'.win⟩, hc'⟩
end Go.Proofs.Ytenpjkinpecnfaa
