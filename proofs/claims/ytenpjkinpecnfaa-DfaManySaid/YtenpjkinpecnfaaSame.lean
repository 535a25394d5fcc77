/-
  The document's answer to rex: are items the same?
-/
import Derived.Test.YtenpjkinpecnfaaPicks
namespace Go.Proofs.Ytenpjkinpecnfaa
open Go Go.Am
set_option maxRecDepth 100000
set_option maxHeartbeats 4000000
set_option linter.unusedSimpArgs false
set_option linter.unusedVariables false

theorem rng_neq {x y : Rng} : binOpA T .neq 37 (.agg [.int .u8 x.lo.toNat, .int .u8 x.hi.toNat]) (.agg [.int .u8 y.lo.toNat, .int .u8 y.hi.toNat]) = some (.bool (!decide (x = y))) := by
  have h5 : ∀ d (a b : UInt8), eqv T (d + 1) 5 (.int .u8 a.toNat) (.int .u8 b.toNat) = some (decide (a = b)) := by
    intro d a b
    simp only [eqv, T_5, if_true]
    congr 1
    rw [Bool.eq_iff_iff]
    simp only [beq_iff_eq, decide_eq_true_eq]
    exact iff_of_eq u8_eq
  have h37 : eqv T eqDepth 37 (.agg [.int .u8 x.lo.toNat, .int .u8 x.hi.toNat]) (.agg [.int .u8 y.lo.toNat, .int .u8 y.hi.toNat]) = some (decide (x = y)) := by
    rw [eqDepth, eqv]
    simp only [T_37, if_true, eqFs, Am.part, T_5, TK.isAgg, Bool.false_eq_true, if_false, List.getElem?_cons_zero, List.getElem?_cons_succ]
    have h19 : ∀ a b : UInt8, eqv T 19 5 (.int .u8 a.toNat) (.int .u8 b.toNat) = some (decide (a = b)) := h5 18
    rw [h19, h19]
    obtain ⟨a, b⟩ := x
    obtain ⟨c, d⟩ := y
    by_cases h1 : a = c <;> by_cases h2 : b = d <;> simp [h1, h2]
  simp only [binOpA, h37]

theorem SameItems_uf {h : Heap} {a b : AV} {xs ys : List Item} (ha : LSlc h a xs) (hb : LSlc h b ys) (hx : xs.length ≤ 1000000) (hy : ys.length ≤ 1000000) (hlx : ∀ x ∈ xs, x.l.length ≤ 1000000) : UF T F 26 [a, b] h fun v h' => Ext h h' ∧ v = .bool (decide (xs = ys)) := by
  obtain ⟨aa, ac, az, rfl⟩ := ha.form
  obtain ⟨ba, bc, bz, rfl⟩ := hb.form
  generalize hnx : xs.length = nx at ha hx ⊢
  generalize hny : ys.length = ny at hb hy ⊢
  refine UF.gen fun Q hQ => UF.of (F_26) (c := _) rfl ?_
  unfold Try.f26
  simp only [List.length, Nat.reduceSub, Nat.reduceAdd, List.replicate, List.cons_append, List.nil_append]
  simp (disch := first | ((try simp only [heapN]) <;> omega) | fail) only [go_sem, seval]
  by_cases hl : (nx : Int) = ny
  · have hxy : xs.length = ys.length := by omega
    simp (disch := first | ((try simp only [heapN]) <;> omega) | fail) only [go_sem, seval, hl]
    refine LoopU_while (fun m s h1 => ∃ i, Ext h h1 ∧ i ≤ nx ∧ m = nx - i ∧ xs.take i = ys.take i ∧ Keep s 71 [(0, .slc aa nx ac az), (1, .slc ba ny bc bz), (5, .int .i64 (i : Nat))]) nx ⟨0, Ext.refl h, by omega, rfl, rfl, rfl, by simp [Has]⟩ ?_
    rintro m s h1 ⟨i, e1, hi, rfl, heq, hk⟩
    rw [hk.eq]
    obtain ⟨k0, k1, k5, -⟩ := hk.2
    simp only [slotsFrom, Nat.reduceAdd] at k0 k1 k5 ⊢
    simp only [k0, k1, k5]
    simp (disch := first | ((try simp only [heapN]) <;> omega) | fail) only [go_sem, seval]
    by_cases hlt : (i : Int) < nx
    · have hix : i < xs.length := by omega
      have hiy : i < ys.length := by omega
      obtain ⟨b1, o1, cs1, w1, l1, rfl, rfl, hb1, hg1, ⟨v1, rfl, s1⟩, hr1, ht1, hc1⟩ := ha.at_ (i := i) (x := xs[i]) (List.getElem?_eq_getElem hix) (k := 2) rfl
      obtain ⟨b2, o2, cs2, w2, l2, rfl, rfl, hb2, hg2, ⟨v2, rfl, s2⟩, hr2, ht2, hc2⟩ := hb.at_ (i := i) (x := ys[i]) (List.getElem?_eq_getElem hiy) (k := 2) rfl
      have g1 : h1.get b1 = _ := (e1.get _ hb1).trans hg1
      have g2 : h1.get b2 = _ := (e1.get _ hb2).trans hg2
      have c10 : cs1[o1 + i * 2]? = some (.int .i64 xs[i].op) := hc1 0 (by decide)
      have c11 : cs1[o1 + i * 2 + 1]? = some v1 := hc1 1 (by decide)
      have c20 : cs2[o2 + i * 2]? = some (.int .i64 ys[i].op) := hc2 0 (by decide)
      have c21 : cs2[o2 + i * 2 + 1]? = some v2 := hc2 1 (by decide)
      obtain ⟨p1, n1, q1, z1, rfl, hn1⟩ := s1.form
      obtain ⟨p2, n2, q2, z2, rfl, hn2⟩ := s2.form
      have hne : ∀ h9, Ext h h9 → xs[i] ≠ ys[i] → Q (.bool false) h9 := by
        intro h9 e9 hne
        refine hQ _ _ ⟨e9, ?_⟩
        rw [decide_eq_false]
        rintro rfl
        exact hne rfl
      simp (disch := first | ((try simp only [heapN]) <;> omega) | fail) only [go_sem, seval, hlt]
      refine DrawU_quiet (by rfl) ?_
      simp (disch := first | ((try simp only [heapN]) <;> omega) | fail) only [go_sem, seval, g1, g2, Int.toNat_natCast, c10, c11, c20, c21]
      by_cases hop : xs[i].op = ys[i].op
      · by_cases hnl : (n1 : Int) = n2
        · simp (disch := first | ((try simp only [heapN]) <;> omega) | fail) only [go_sem, seval, hop, hnl, g1, g2, Int.toNat_natCast, c11, c21]
          have e2 : Ext h1 (h1.bump 26) := Ext.bump _ _
          have hlx1 : n1 ≤ 1000000 := by rw [hn1]; exact hlx _ (List.getElem_mem hix)
          refine LoopU_while (fun m s h2 => ∃ j, Ext h1 h2 ∧ j ≤ n1 ∧ m = n1 - j ∧ xs[i].l.take j = ys[i].l.take j ∧ Keep s 71 [(0, .slc (some (b1, o1)) nx ac 2), (1, .slc (some (b2, o2)) ny bc 2), (5, .int .i64 (i : Nat)), (6, .int .i64 (j : Nat))]) n1 ⟨0, e2, by omega, rfl, rfl, rfl, by simp [Has]⟩ ?_
          rintro m s h2 ⟨j, e3, hj, rfl, heq2, hk⟩
          rw [hk.eq]
          obtain ⟨k0, k1, k5, k6, -⟩ := hk.2
          simp only [slotsFrom, Nat.reduceAdd] at k0 k1 k5 k6 ⊢
          simp only [k0, k1, k5, k6]
          have g1 : h2.get b1 = _ := (e3.get _ (Nat.lt_of_lt_of_le hb1 e1.nxt)).trans g1
          have g2 : h2.get b2 = _ := (e3.get _ (Nat.lt_of_lt_of_le hb2 e1.nxt)).trans g2
          have e13 := e1.trans e3
          simp (disch := first | ((try simp only [heapN]) <;> omega) | fail) only [go_sem, seval, hlt, g1, Int.toNat_natCast, c11]
          by_cases hjlt : (j : Int) < n1
          · have hj1 : j < xs[i].l.length := by omega
            have hj2 : j < ys[i].l.length := by omega
            obtain ⟨b3, o3, cs3, l3, rfl, rfl, hb3, hg3, rfl, hr3, ht3, hc3⟩ := s1.at_ (i := j) (x := xs[i].l[j]) (List.getElem?_eq_getElem hj1) (k := 2) rfl
            obtain ⟨b4, o4, cs4, l4, rfl, rfl, hb4, hg4, rfl, hr4, ht4, hc4⟩ := s2.at_ (i := j) (x := ys[i].l[j]) (List.getElem?_eq_getElem hj2) (k := 2) rfl
            have g3 : h2.get b3 = _ := (e13.get _ hb3).trans hg3
            have g4 : h2.get b4 = _ := (e13.get _ hb4).trans hg4
            have hjlt2 : (j : Int) < n2 := by omega
            simp (disch := first | ((try simp only [heapN]) <;> omega) | fail) only [go_sem, seval, hjlt]
            refine DrawU_quiet (by rfl) ?_
            simp (disch := first | ((try simp only [heapN]) <;> omega) | fail) only [go_sem, seval, g1, g2, g3, g4, Int.toNat_natCast, c11, c21, hr3, hr4, ht3, ht4, rng_neq, hjlt2]
            by_cases hr : xs[i].l[j] = ys[i].l[j]
            · simp (disch := first | ((try simp only [heapN]) <;> omega) | fail) only [go_sem, seval, hr]
              refine AgainK.mk (n1 - (j + 1)) (by simp only; omega) ⟨j + 1, e3.trans (Ext.bump _ _), by omega, rfl, ?_, rfl, by simp [Has]⟩
              rw [List.take_add_one, List.take_add_one, heq2]; simp [hj1, hj2, hr]
            · simp (disch := first | ((try simp only [heapN]) <;> omega) | fail) only [go_sem, seval, hr]
              exact hne _ (e13.trans (Ext.bump _ _)) fun e => hr (by simp only [e])
          · simp (disch := first | ((try simp only [heapN]) <;> omega) | fail) only [go_sem, seval, hjlt]
            have hjn : j = n1 := by omega
            subst hjn
            have : xs[i] = ys[i] := by
              have hll : xs[i].l = ys[i].l := by
                rw [hn1, List.take_length] at heq2
                rw [heq2, List.take_of_length_le (by omega)]
              cases hxi : xs[i]; cases hyi : ys[i]
              rw [hxi, hyi] at hop hll
              simp only at hop hll
              rw [hop, hll]
            refine AgainK.mk (nx - (i + 1)) (by simp only; omega) ⟨i + 1, e13, by omega, rfl, ?_, rfl, by simp [Has]⟩
            rw [List.take_add_one, List.take_add_one, heq]; simp [hix, hiy, this]
        · simp (disch := first | ((try simp only [heapN]) <;> omega) | fail) only [go_sem, seval, hop, hnl, g1, g2, Int.toNat_natCast, c11, c21]
          exact hne _ (e1.trans (Ext.bump _ _)) fun e => hnl (by rw [hn1, hn2, e])
      · simp (disch := first | ((try simp only [heapN]) <;> omega) | fail) only [go_sem, seval, hop]
        exact hne _ (e1.trans (Ext.bump _ _)) fun e => hop (by rw [e])
    · simp (disch := first | ((try simp only [heapN]) <;> omega) | fail) only [go_sem, seval, hlt]
      refine hQ _ _ ⟨e1, ?_⟩
      have : i = nx := by omega
      subst this
      rw [decide_eq_true]
      rw [← hnx, List.take_length] at heq
      rw [heq, List.take_of_length_le (by omega)]
  · simp (disch := first | ((try simp only [heapN]) <;> omega) | fail) only [go_sem, seval, hl]
    exact hQ _ _ ⟨Ext.refl h, by rw [decide_eq_false]; rintro rfl; exact hl (by omega)⟩

end Go.Proofs.Ytenpjkinpecnfaa
