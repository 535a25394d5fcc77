/-
  The document's answer to nfa: the longest front.
-/
import Derived.Test.YtenpjkinpecnfaaNfaO
import Derived.KernelRfl
namespace Go.Proofs.Ytenpjkinpecnfaa
open Go Go.Am
set_option maxRecDepth 100000
set_option maxHeartbeats 4000000
set_option linter.unusedSimpArgs false
set_option linter.unusedVariables false

/-- Of so many patterns. -/
def BestP (es : List Rx) (s : List UInt8) (p k n : Nat) : Prop :=
  (k = 0 ∧ n = 0 ∧ ∀ j, 0 < j → j ≤ s.length → ∀ m, m < p → ¬ HasR es (s.take j) m) ∨
  (0 < n ∧ n ≤ s.length ∧ k < p ∧ HasR es (s.take n) k ∧ (∀ m, m < k → ¬ HasR es (s.take n) m) ∧ ∀ j, n < j → j ≤ s.length → ∀ m, m < p → ¬ HasR es (s.take j) m)
theorem BestP.le {es : List Rx} {s : List UInt8} {p k n : Nat} (h : BestP es s p k n) : n ≤ s.length ∧ k ≤ p ∧ ∀ j, n < j → j ≤ s.length → ∀ m, m < p → ¬ HasR es (s.take j) m := by
  rcases h with ⟨rfl, rfl, h⟩ | ⟨h1, h2, h3, h4, h5, h6⟩
  · exact ⟨by omega, by omega, h⟩
  · exact ⟨h2, by omega, h6⟩
theorem BestP.same {es : List Rx} {s : List UInt8} {p k n : Nat} (h : BestP es s p k n) (hno : ∀ j, n < j → j ≤ s.length → ¬ HasR es (s.take j) p) : BestP es s (p + 1) k n := by
  have ex : (∀ j, n < j → j ≤ s.length → ∀ m, m < p → ¬ HasR es (s.take j) m) → ∀ j, n < j → j ≤ s.length → ∀ m, m < p + 1 → ¬ HasR es (s.take j) m := fun h6 j j1 j2 m hm => by
    by_cases e : m = p
    · subst e; exact hno j j1 j2
    · exact h6 j j1 j2 m (by omega)
  rcases h with ⟨rfl, rfl, h⟩ | ⟨h1, h2, h3, h4, h5, h6⟩
  · exact .inl ⟨rfl, rfl, ex h⟩
  · exact .inr ⟨h1, h2, by omega, h4, h5, ex h6⟩
theorem BestP.more {es : List Rx} {s : List UInt8} {p k n n2 : Nat} (h : BestP es s p k n) (h1 : n < n2) (h2 : n2 ≤ s.length) (h3 : HasR es (s.take n2) p) (hno : ∀ j, n2 < j → j ≤ s.length → ¬ HasR es (s.take j) p) : BestP es s (p + 1) p n2 := by
  have hl := h.le.2.2
  refine .inr ⟨by omega, h2, by omega, h3, hl n2 h1 h2, fun j j1 j2 m hm => ?_⟩
  by_cases e : m = p
  · subst e; exact hno j j1 j2
  · exact hl j (by omega) j2 m (by omega)
theorem BestP.all {es : List Rx} {s : List UInt8} {k n : Nat} (h : BestP es s es.length k n) : BestR es s k n (decide (0 < n)) := by
  have hm : ∀ {w m}, HasR es w m → m < es.length := fun ⟨e, h1, _⟩ => (List.getElem?_eq_some_iff.1 h1).1
  rcases h with ⟨rfl, rfl, h⟩ | ⟨h1, h2, h3, h4, h5, h6⟩
  · exact .inl ⟨rfl, rfl, rfl, fun j j1 j2 m h3 => h j j1 j2 m (hm h3) h3⟩
  · exact .inr ⟨by simpa using h1, h1, h2, h4, h5, fun j j1 j2 m h3 => h6 j j1 j2 m (hm h3) h3⟩

/-- A pattern that does for all that is done. -/
structure Fit (e : Rx) : Prop where
  ok : e.ok
  few : e.items.length ≤ 48
  rng : ∀ x ∈ e.items, x.l.length ≤ 24

theorem refLongest_uf {h : Heap} {pv : AV} {es : List Rx} {s : List UInt8} (sl : Lst h pv (es.map Rx.items)) (hf : ∀ e ∈ es, Fit e) (hl : es.length ≤ 1000) (hs : s.length ≤ 1000) :
    UF T F 32 [pv, .str s] h fun v' h' => Ext h h' ∧ ∃ k n ok, v' = .tup [.int .i64 (k : Nat), .int .i64 (n : Nat), .bool ok] ∧ BestR es s k n ok := by
  obtain ⟨a, n, c, z, rfl, hn⟩ := sl.form
  rw [List.length_map] at hn
  refine UF.gen fun Q hQ => UF.of (F_32) (c := _) rfl ?_
  unfold Try.f32
  simp only [List.length, Nat.reduceSub, Nat.reduceAdd, List.replicate, List.cons_append, List.nil_append]
  simp (disch := omega) only [go_sem, seval]
  refine LoopU_while (fun m st hh => ∃ (p k q : Nat), p ≤ es.length ∧ m = es.length - p ∧ Ext h hh ∧ BestP es s p k q ∧
      Keep st 49 [(0, .slc a n c z), (1, .str s), (7, .int .i64 (k : Nat)), (8, .int .i64 (q : Nat)), (9, .int .i64 (p : Nat))]) es.length
    ⟨0, 0, 0, by omega, by omega, Ext.refl _, .inl ⟨rfl, rfl, fun j _ _ m hm => by omega⟩, rfl, by simp [Has]⟩ ?_
  rintro m st hh ⟨p, k, q, hp, rfl, eh, hb, hk⟩
  rw [hk.eq]
  obtain ⟨k0, k1, k7, k8, k9, -⟩ := hk.2
  simp only [slotsFrom, Nat.reduceAdd] at k0 k1 k7 k8 k9 ⊢
  simp only [k0, k1, k7, k8, k9]
  obtain ⟨hq, hkp, hle⟩ := hb.le
  simp (disch := omega) only [go_sem, seval]
  by_cases hlt : (p : Int) < (n : Int)
  · have hpl : p < es.length := by omega
    simp (disch := omega) only [go_sem, seval, hlt]
    have ez : ((s.length : Int) + 1) = (s.length + 1 : Nat) := by omega
    rw [ez]
    refine mk_bits T_118 (by omega) ?_
    have e1 : Ext hh (hh.add (.cells ((List.replicate (s.length + 1) false).map AV.bool) true)) := Ext.add _ _
    have B0 : Bits (hh.add (.cells ((List.replicate (s.length + 1) false).map AV.bool) true)) hh.nxt (.slc (some (hh.nxt, 0)) (s.length + 1 : Nat) (some (s.length + 1)) 1) (List.replicate (s.length + 1) false) := bits_new
    have B1 := B0.set 0 true
    have hr0 : (0 : Int) < ((s.length + 1 : Nat) : Int) := by omega
    have hr1 : 1 ≤ ((List.replicate (s.length + 1) false).map AV.bool).length := by simp
    obtain ⟨b1, o1, cs1, l1, rfl, rfl, hb1, hg1, ⟨v1, rfl, s1⟩, hr1', ht1, hc1⟩ := sl.at_ (i := p) (x := es[p].items) (by rw [List.getElem?_map, List.getElem?_eq_getElem hpl]; rfl) (k := 1) rfl
    have c10 := hc1 0 (by decide)
    simp only [Nat.add_zero, List.getElem?_cons_zero] at c10
    have e2 : Ext hh ((hh.add (.cells ((List.replicate (s.length + 1) false).map AV.bool) true)).put hh.nxt (.cells (((List.replicate (s.length + 1) false).map AV.bool).set 0 (.bool true)) true)) := e1.put (Nat.le_refl _)
    have g1 : ((hh.add (.cells ((List.replicate (s.length + 1) false).map AV.bool) true)).put hh.nxt (.cells (((List.replicate (s.length + 1) false).map AV.bool).set 0 (.bool true)) true)).get b1 = _ := ((eh.trans e2).get _ hb1).trans hg1
    simp (disch := omega) only [go_sem, seval, hr0, get_add_self, hr1, hlt, g1, Int.toNat_natCast, c10]
    obtain ⟨h9, l9, n9, L9, u9⟩ := B1.frz
    have e9 : Ext hh h9 := ((e2.upd (hh.nxt ≤ ·)).trans (u9.weak fun b _ e => by omega)).ext fun b hb => by omega
    have F9 := hf es[p] (List.getElem_mem hpl)
    refine callV_ofU F_58 rfl ((UF.less l9 (ends_uf _ es[p] (Nat.le_refl _) F9.ok (fun x hx => by have := F9.rng x hx; omega) (by have := F9.few; omega) (by omega) (s1.ext (eh.trans e9)) L9 (by simp))).mono ?_)
    rintro v8 h8 ⟨e8, R, LR, hRl, hR⟩
    have hL : ∀ j, has R j ↔ j ≤ s.length ∧ HasR es (s.take j) p := fun j => by
      rw [hR]
      constructor
      · rintro ⟨i, h1, h2, h3, h4⟩
        have hi0 : i = 0 := by
          by_cases hi : i = 0
          · exact hi
          · unfold has at h1
            rw [List.getElem?_set_ne (Ne.symm hi), List.getElem?_replicate] at h1
            split at h1 <;> simp at h1
        subst hi0
        exact ⟨h3, es[p], List.getElem?_eq_getElem hpl, h4⟩
      · rintro ⟨h1, e, h2, h3⟩
        rw [List.getElem?_eq_getElem hpl] at h2
        simp only [Option.some.injEq] at h2
        subst h2
        exact ⟨0, by unfold has; rw [List.getElem?_set_self (by simp)], by omega, h1, h3⟩
    obtain ⟨ra, rn, rc, rz, rfl, hrn⟩ := LR.form
    have eh8 : Ext h h8 := (eh.trans e9).trans e8
    simp (disch := omega) only [go_sem, seval]
    refine LoopU_while (fun m st h2 => ∃ (i k2 q2 : Nat), i ≤ s.length ∧ m = i ∧ Ext h8 h2 ∧ (∀ j, q2 < j → i < j → j ≤ s.length → ¬ HasR es (s.take j) p) ∧ ((k2 = k ∧ q2 = q ∧ q ≤ i) ∨ (k2 = p ∧ q2 = i + 1 ∧ q < q2 ∧ q2 ≤ s.length ∧ HasR es (s.take q2) p)) ∧
        Keep st 49 [(0, .slc (some (b1, o1)) n c 1), (1, .str s), (7, .int .i64 (k2 : Nat)), (8, .int .i64 (q2 : Nat)), (9, .int .i64 (p : Nat)), (11, .slc ra rn rc rz), (12, .int .i64 (i : Nat))]) s.length
      ⟨s.length, k, q, by omega, rfl, Ext.refl _, fun j _ h1 h2 => by omega, .inl ⟨rfl, rfl, hq⟩, rfl, by simp [Has]⟩ ?_
    rintro m st h2 ⟨i, k2, q2, hi, rfl, e2', hno, hst, hk⟩
    rw [hk.eq]
    obtain ⟨k0, k1, k7, k8, k9, k11, k12, -⟩ := hk.2
    simp only [slotsFrom, Nat.reduceAdd] at k0 k1 k7 k8 k9 k11 k12 ⊢
    simp only [k0, k1, k7, k8, k9, k11, k12]
    simp (disch := omega) only [go_sem, seval]
    by_cases hgt : (m : Int) > (q2 : Int)
    · obtain ⟨rfl, rfl, hqi⟩ : k2 = k ∧ q2 = q ∧ q ≤ m := by
        rcases hst with h1 | h1
        · exact h1
        · omega
      have hir : m < R.length := by omega
      have LR2 := LR.ext e2'
      obtain ⟨b3, o3, cs3, l3, rfl, rfl, hb3, hg3, rfl, hr3, ht3, hc3⟩ := LR2.at_ (i := m) (x := R[m]) (List.getElem?_eq_getElem hir) (k := 1) rfl
      have c30 := hc3 0 (by decide)
      simp only [Nat.add_zero, List.getElem?_cons_zero] at c30
      have hmr : (m : Int) < (rn : Int) := by omega
      have hx : has R m ↔ R[m] = true := by unfold has; rw [List.getElem?_eq_getElem hir]; simp
      have em : (m : Int) - 1 = ((m - 1 : Nat) : Int) := by omega
      simp (disch := omega) only [go_sem, seval, hgt, hmr, hg3, Int.toNat_natCast, c30]
      cases hv : R[m] with
      | true =>
        simp (disch := omega) only [go_sem, seval, em]
        exact AgainK.mk (m - 1) (by simp only; omega) ⟨m - 1, p, m, by omega, rfl, e2', fun j h1 h2 h3 => hno j (by omega) (by omega) h3, .inr ⟨rfl, by omega, by omega, hi, ((hL m).1 (hx.2 hv)).2⟩, rfl, by simp [Has]⟩
      | false =>
        simp (disch := omega) only [go_sem, seval, em]
        refine AgainK.mk (m - 1) (by simp only; omega) ⟨m - 1, k2, q2, by omega, rfl, e2', fun j h1 h2 h3 => ?_, .inl ⟨rfl, rfl, by omega⟩, rfl, by simp [Has]⟩
        by_cases hjm : j = m
        · subst hjm
          intro h4
          have := hx.1 ((hL j).2 ⟨h3, h4⟩)
          rw [hv] at this; simp at this
        · exact hno j h1 (by omega) h3
    · simp (disch := omega) only [go_sem, seval, hgt]
      refine AgainK.mk (es.length - (p + 1)) (by simp only; omega) ⟨p + 1, k2, q2, by omega, rfl, eh8.trans e2', ?_, rfl, by simp [Has]⟩
      rcases hst with ⟨rfl, rfl, h1⟩ | ⟨rfl, h1, h2, h3, h4⟩
      · exact hb.same fun j h2 h3 => hno j h2 (by omega) h3
      · exact hb.more h2 h3 h4 fun j h5 h6 => hno j h5 (by omega) h6
  · simp (disch := omega) only [go_sem, seval, hlt]
    have hpe : p = es.length := by omega
    subst hpe
    refine hQ _ _ ⟨eh, k, q, decide (0 < q), ?_, hb.all⟩
    have : ((q : Int) > 0) ↔ 0 < q := by omega
    simp only [this]

end Go.Proofs.Ytenpjkinpecnfaa
