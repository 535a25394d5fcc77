/-
  Layer relex: how many tokens are kept, by the reference.
-/
import Derived.Test.YtenpjkinpecnfaaRelexG
import Derived.KernelRfl
namespace Go.Proofs.Ytenpjkinpecnfaa
open Go Go.Am
set_option maxRecDepth 100000
set_option maxHeartbeats 4000000
set_option linter.unusedSimpArgs false
set_option linter.unusedVariables false

instance : DecidableEq Tk := fun x y => decidable_of_iff (x.kind = y.kind ∧ x.at_ = y.at_ ∧ x.len = y.len) ⟨fun ⟨a, b, c⟩ => by cases x; cases y; simp_all, fun h => by subst h; exact ⟨rfl, rfl, rfl⟩⟩
theorem tk_eql {x y : Tk} : binOpA T .eql 71 (.agg [.int .i64 x.kind, .int .i64 (x.at_ : Nat), .int .i64 (x.len : Nat)]) (.agg [.int .i64 y.kind, .int .i64 (y.at_ : Nat), .int .i64 (y.len : Nat)]) = some (.bool (decide (x = y))) := by
  by_cases h : x = y
  · subst h
    simp [binOpA, eqv, eqDepth, T_71, T_3, eqFs, Am.part, TK.isAgg]
  · have : ¬ (x.kind = y.kind ∧ x.at_ = y.at_ ∧ x.len = y.len) := fun ⟨a, b, c⟩ => h (by cases x; cases y; simp_all)
    rw [decide_eq_false h]
    by_cases h1 : x.kind = y.kind
    · by_cases h2 : x.at_ = y.at_
      · have h3 : ((x.len : Nat) : Int) ≠ (y.len : Nat) := fun h3 => this ⟨h1, h2, by omega⟩
        have b3 := beq_eq_false_iff_ne.2 h3
        simp [b3, binOpA, eqv, eqDepth, T_71, T_3, eqFs, Am.part, TK.isAgg, h1, h2]
      · have h3 : ((x.at_ : Nat) : Int) ≠ (y.at_ : Nat) := by omega
        have b3 := beq_eq_false_iff_ne.2 h3
        simp [b3, binOpA, eqv, eqDepth, T_71, T_3, eqFs, Am.part, TK.isAgg, h1, h2]
    · have b3 := beq_eq_false_iff_ne.2 h1
      simp [b3, binOpA, eqv, eqDepth, T_71, T_3, eqFs, Am.part, TK.isAgg, h1]

theorem Kept_uf {h : Heap} {lv mv : AV} {s t : List UInt8} {l m : List Tk} (sl : Lst h lv l) (sm : Lst h mv m) (hs : s.length ≤ 1000) (ht : t.length ≤ 1000) (hl : l.length ≤ 1000) (hm : m.length ≤ 1000) (inl : ∀ x ∈ l, x.at_ + x.len ≤ s.length) (inm : ∀ y ∈ m, y.at_ + y.len ≤ t.length) :
    UF T F 48 [.str s, lv, .str t, mv] h fun v' h' => Ext h h' ∧ v' = .int .i64 (keptN s t l m : Nat) := by
  obtain ⟨aa, an, ac, az, rfl, han⟩ := sl.form
  obtain ⟨ba, bn, bc, bz, rfl, hbn⟩ := sm.form
  refine UF.gen fun Q hQ => UF.of (F_48) (c := _) rfl ?_
  unfold Try.f48
  simp only [List.length, Nat.reduceSub, Nat.reduceAdd, List.replicate, List.cons_append, List.nil_append]
  simp (disch := first | ((try simp only [heapN]) <;> omega) | fail) only [go_sem, seval]
  refine LoopU_while (fun k st hh => ∃ (a : Nat), a ≤ l.length ∧ a ≤ m.length ∧ k = l.length - a ∧ Ext h hh ∧ frontN (sameT s t 0) l m = a + frontN (sameT s t 0) (l.drop a) (m.drop a) ∧
      Keep st 156 [(0, .str s), (1, .slc aa an ac az), (2, .str t), (3, .slc ba bn bc bz), (9, .int .i64 (a : Nat))]) l.length
    ⟨0, by omega, by omega, by omega, Ext.refl _, by simp, rfl, by simp [Has]⟩ ?_
  rintro k st hh ⟨a, ha, hb, rfl, eh, hf, hk⟩
  rw [hk.eq]
  obtain ⟨k0, k1, k2, k3, k9, -⟩ := hk.2
  simp only [slotsFrom, Nat.reduceAdd] at k0 k1 k2 k3 k9 ⊢
  simp only [k0, k1, k2, k3, k9]
  simp (disch := first | ((try simp only [heapN]) <;> omega) | fail) only [go_sem, seval]
  by_cases hlt : (a : Int) < (an : Int)
  · by_cases hlm : (a : Int) < (bn : Int)
    · have hal : a < l.length := by omega
      have ham : a < m.length := by omega
      obtain ⟨b1, o1, cs1, l1, rfl, rfl, hb1, hg1, rfl, hr1, ht1, hc1⟩ := (sl.ext eh).at_ (i := a) (x := l[a]) (List.getElem?_eq_getElem hal) (k := 3) rfl
      obtain ⟨b2, o2, cs2, l2, rfl, rfl, hb2, hg2, rfl, hr2, ht2, hc2⟩ := (sm.ext eh).at_ (i := a) (x := m[a]) (List.getElem?_eq_getElem ham) (k := 3) rfl
      have c1 : cs1[o1 + a * 3 + 1]? = some (.int .i64 (l[a].at_ : Nat)) := hc1 1 (by decide)
      have c2 : cs1[o1 + a * 3 + 2]? = some (.int .i64 (l[a].len : Nat)) := hc1 2 (by decide)
      have d1 : cs2[o2 + a * 3 + 1]? = some (.int .i64 (m[a].at_ : Nat)) := hc2 1 (by decide)
      have d2 : cs2[o2 + a * 3 + 2]? = some (.int .i64 (m[a].len : Nat)) := hc2 2 (by decide)
      have hx := inl l[a] (List.getElem_mem hal)
      have hy := inm m[a] (List.getElem_mem ham)
      rw [frontN_at hal ham] at hf
      have heq := tk_eql (x := l[a]) (y := m[a])
      generalize l[a] = x at *
      generalize m[a] = y at *
      by_cases hxy : x = y
      · rw [decide_eq_true hxy] at heq
        have sx : sliceA T 9 (.str s) (some (.int .i64 (x.at_ : Nat))) (some (.int .i64 ((x.at_ : Nat) + (x.len : Nat)))) none = some (.str (x.text s)) := by
          obtain ⟨j, hj⟩ : ∃ j, j = x.at_ + x.len := ⟨_, rfl⟩
          simp only [sliceA, T_9]
          rw [show ((x.at_ : Nat) : Int) + (x.len : Nat) = ((j : Nat) : Int) by omega, sbounds_both (by omega) (by omega) (by omega)]
          simp [Tk.text]
          omega
        have sy : sliceA T 9 (.str t) (some (.int .i64 (y.at_ : Nat))) (some (.int .i64 ((y.at_ : Nat) + (y.len : Nat)))) none = some (.str (y.text t)) := by
          obtain ⟨j, hj⟩ : ∃ j, j = y.at_ + y.len := ⟨_, rfl⟩
          simp only [sliceA, T_9]
          rw [show ((y.at_ : Nat) : Int) + (y.len : Nat) = ((j : Nat) : Int) by omega, sbounds_both (by omega) (by omega) (by omega)]
          simp [Tk.text]
          omega
        have hse : strOp .eql (x.text s) (y.text t) = some (.bool (x.text s == y.text t)) := by simp [strOp]
        have hsm : sameT s t 0 x y = (x.text s == y.text t) := by subst hxy; simp [sameT]
        rw [hsm] at hf
        cases htx : x.text s == y.text t with
        | true =>
          rw [htx] at hse
          rw [htx, if_pos rfl] at hf
          refine DrawU_quiet (by rfl) ?_
          simp (disch := first | ((try simp only [heapN]) <;> omega) | fail) only [go_sem, seval, hlt, hlm, Int.toNat_natCast, hg1, hg2, hr1, ht1, hr2, ht2, heq, c1, c2, d1, d2, sx, sy, hse]
          exact AgainK.mk (l.length - (a + 1)) (by simp only; omega) ⟨a + 1, by omega, by omega, rfl, eh.trans (Ext.bump _ _), by omega, rfl, by simp [Has]⟩
        | false =>
          rw [htx] at hse
          rw [htx] at hf
          refine DrawU_quiet (by rfl) ?_
          simp (disch := first | ((try simp only [heapN]) <;> omega) | fail) only [go_sem, seval, hlt, hlm, Int.toNat_natCast, hg1, hg2, hr1, ht1, hr2, ht2, heq, c1, c2, d1, d2, sx, sy, hse]
          have hfr : frontN (sameT s t 0) l m = a := by simpa using hf
          refine LoopU_while (fun k st hh2 => ∃ b, b ≤ l.length - a ∧ b ≤ m.length - a ∧ k = l.length - a - b ∧ Ext h hh2 ∧ frontN (sameT s t ((t.length : Int) - s.length)) (l.drop a).reverse (m.drop a).reverse = b + frontN (sameT s t ((t.length : Int) - s.length)) ((l.drop a).reverse.drop b) ((m.drop a).reverse.drop b) ∧
              Keep st 156 [(0, .str s), (1, .slc (some (b1, o1)) an ac 3), (2, .str t), (3, .slc (some (b2, o2)) bn bc 3), (9, .int .i64 (a : Nat)), (10, .int .i64 (b : Nat))]) (l.length - a)
            ⟨0, by omega, by omega, by omega, eh.trans (Ext.bump _ _), by simp, rfl, by simp [Has]⟩ ?_
          rintro k st hh2 ⟨b, hba, hbb, rfl, eh2, hf2, hk⟩
          rw [hk.eq]
          obtain ⟨k0, k1, k2, k3, k9, k10, -⟩ := hk.2
          simp only [slotsFrom, Nat.reduceAdd] at k0 k1 k2 k3 k9 k10 ⊢
          simp only [k0, k1, k2, k3, k9, k10]
          have fin : frontN (sameT s t ((t.length : Int) - s.length)) ((l.drop a).reverse.drop b) ((m.drop a).reverse.drop b) = 0 → (keptN s t l m : Int) = a + b := fun h0 => by
            unfold keptN
            rw [hfr, hf2, h0]; simp
          have hend : (l.length ≤ a + b ∨ m.length ≤ a + b) → frontN (sameT s t ((t.length : Int) - s.length)) ((l.drop a).reverse.drop b) ((m.drop a).reverse.drop b) = 0 := fun h => frontN_end (by simp only [List.length_reverse, List.length_drop]; omega)
          by_cases p1 : (a : Int) + (b : Int) < (an : Int)
          · by_cases p2 : (a : Int) + (b : Int) < (bn : Int)
            · obtain ⟨p, hp⟩ : ∃ p, p = l.length - 1 - b := ⟨_, rfl⟩
              obtain ⟨q, hq⟩ : ∃ q, q = m.length - 1 - b := ⟨_, rfl⟩
              have hpx : p < l.length := by omega
              have hqy : q < m.length := by omega
              have hip : ((an : Nat) : Int) - 1 - b = (p : Nat) := by omega
              have hiq : ((bn : Nat) : Int) - 1 - b = (q : Nat) := by omega
              obtain ⟨b3, o3, cs3, l3, ⟨⟩, ⟨⟩, hb3, hg3, rfl, hr3, ht3, hc3⟩ := sl.at_ (i := p) (x := l[p]) (List.getElem?_eq_getElem hpx) (k := 3) rfl
              obtain ⟨b4, o4, cs4, l4, ⟨⟩, ⟨⟩, hb4, hg4, rfl, hr4, ht4, hc4⟩ := sm.at_ (i := q) (x := m[q]) (List.getElem?_eq_getElem hqy) (k := 3) rfl
              have g3 := (eh2.get _ hb3).trans hg3
              have g4 := (eh2.get _ hb4).trans hg4
              have hna : (p : Int) < (an : Int) := by omega
              have hnb : (q : Int) < (bn : Int) := by omega
              have hnx2 := eh2.nxt
              have hxe : (l.drop a).reverse[b]'(by simp; omega) = l[p] := by
                rw [List.getElem_reverse, List.getElem_drop]
                congr 1
                simp only [List.length_drop]; omega
              have hye : (m.drop a).reverse[b]'(by simp; omega) = m[q] := by
                rw [List.getElem_reverse, List.getElem_drop]
                congr 1
                simp only [List.length_drop]; omega
              have hst := frontN_at (f := sameT s t ((t.length : Int) - s.length)) (a := (l.drop a).reverse) (b := (m.drop a).reverse) (n := b) (by simp; omega) (by simp; omega)
              rw [hxe, hye] at hst
              have hx := inl l[p] (List.getElem_mem hpx)
              have hy := inm m[q] (List.getElem_mem hqy)
              simp (disch := first | ((try simp only [heapN]) <;> omega) | fail) only [go_sem, seval, p1, p2]
              refine DrawU_of' (fun b => b < h.nxt) [0, 0, 2, 6, 0, 30, 63, 127, 0, 0, 512, 1536, 0, 7680, 16128, 32512, 0, 0, 196863, 524287] (by rfl) (by rfl) (fun b hb => by omega) ?_
              simp (disch := first | ((try simp only [heapN]) <;> omega) | fail) only [go_sem, seval, hna, hnb, hip, hiq]
              refine LoadK_ofU rfl (by show _ < _; omega) ?_
              simp (disch := first | ((try simp only [heapN]) <;> omega) | fail) only [go_sem, seval, g3, hr3, ht3, Int.toNat_natCast, hna, hnb, hip, hiq]
              refine LoadK_ofU rfl (by show _ < _; omega) ?_
              simp (disch := first | ((try simp only [heapN]) <;> omega) | fail) only [go_sem, seval, g4, hr4, ht4, Int.toNat_natCast, hip, hiq]
              generalize l[p] = x at *
              generalize m[q] = y at *
              refine ⟨fun b hb => ?_, fun b hb => ?_, ?_⟩
              · rw [get_put_ne (by omega), get_put_ne (by omega), get_put_ne (by omega)]; simp
              · exact get_put_ne (by omega)
              generalize hH : Heap.put (Heap.put _ (hh2.nxt + 16) (.cells [.int .i64 x.kind, .int .i64 (x.at_ : Nat), .int .i64 (x.len : Nat)] true)) (hh2.nxt + 17) _ = H
              have gx : H.get (hh2.nxt + 16) = some (.cells [.int .i64 x.kind, .int .i64 (x.at_ : Nat), .int .i64 (x.len : Nat)] true) := by rw [← hH]; exact (get_put_ne (by omega)).trans get_put_self
              have gy : H.get (hh2.nxt + 17) = some (.cells [.int .i64 y.kind, .int .i64 (y.at_ : Nat), .int .i64 (y.len : Nat)] true) := by rw [← hH]; exact get_put_self
              have eH : Ext h H := by
                rw [← hH]
                exact ((((eh2.trans (Ext.bump _ _)).put (by omega)).put (by omega)).put (by omega)).put (by omega)
              clear hH
              have sx : sliceA T 9 (.str s) (some (.int .i64 (x.at_ : Nat))) (some (.int .i64 ((x.at_ : Nat) + (x.len : Nat)))) none = some (.str (x.text s)) := by
                obtain ⟨j, hj⟩ : ∃ j, j = x.at_ + x.len := ⟨_, rfl⟩
                simp only [sliceA, T_9]
                rw [show ((x.at_ : Nat) : Int) + (x.len : Nat) = ((j : Nat) : Int) by omega, sbounds_both (by omega) (by omega) (by omega)]
                simp [Tk.text]
                omega
              have sy : sliceA T 9 (.str t) (some (.int .i64 (y.at_ : Nat))) (some (.int .i64 ((y.at_ : Nat) + (y.len : Nat)))) none = some (.str (y.text t)) := by
                obtain ⟨j, hj⟩ : ∃ j, j = y.at_ + y.len := ⟨_, rfl⟩
                simp only [sliceA, T_9]
                rw [show ((y.at_ : Nat) : Int) + (y.len : Nat) = ((j : Nat) : Int) by omega, sbounds_both (by omega) (by omega) (by omega)]
                simp [Tk.text]
                omega
              have hse : strOp .neq (x.text s) (y.text t) = some (.bool (!(x.text s == y.text t))) := by simp [strOp]
              have no : sameT s t ((t.length : Int) - s.length) x y = false → (keptN s t l m : Int) = a + b := fun h0 => by
                rw [h0] at hst; exact fin hst
              by_cases r1 : x.kind = y.kind
              · by_cases r2 : ((x.len : Nat) : Int) = (y.len : Nat)
                · by_cases r3 : ((y.at_ : Nat) : Int) - (x.at_ : Nat) = (t.length : Int) - (s.length : Int)
                  · have hsm : sameT s t ((t.length : Int) - s.length) x y = (x.text s == y.text t) := by
                      unfold sameT
                      have w1 : x.len = y.len := by omega
                      have w2 : (x.at_ : Int) + ((t.length : Int) - s.length) = y.at_ := by omega
                      simp [r1, w1, w2]
                    cases htx : x.text s == y.text t with
                    | true =>
                      rw [htx] at hse hsm
                      rw [r2] at sx
                      refine DrawU_quiet (by rfl) ?_
                      simp (disch := first | ((try simp only [heapN]) <;> omega) | fail) only [go_sem, seval, gx, gy, r1, r2, r3, sx, sy, hse]
                      rw [hsm, if_pos rfl] at hst
                      exact AgainK.mk (l.length - a - (b + 1)) (by simp only; omega) ⟨b + 1, by omega, by omega, rfl, eH.trans (Ext.bump _ _), by omega, rfl, by simp [Has]⟩
                    | false =>
                      rw [htx] at hse hsm
                      rw [r2] at sx
                      refine DrawU_quiet (by rfl) ?_
                      simp (disch := first | ((try simp only [heapN]) <;> omega) | fail) only [go_sem, seval, gx, gy, r1, r2, r3, sx, sy, hse]
                      exact hQ _ _ ⟨eH.trans (Ext.bump _ _), by rw [no hsm]⟩
                  · skip
                    refine DrawU_quiet (by rfl) ?_
                    simp (disch := first | ((try simp only [heapN]) <;> omega) | fail) only [go_sem, seval, gx, gy, r1, r2, r3]
                    exact hQ _ _ ⟨eH.trans (Ext.bump _ _), by rw [no (by unfold sameT; have : ¬ (x.at_ : Int) + ((t.length : Int) - s.length) = y.at_ := by omega
                                                                         simp [this])]⟩
                · skip
                  refine DrawU_quiet (by rfl) ?_
                  simp (disch := first | ((try simp only [heapN]) <;> omega) | fail) only [go_sem, seval, gx, gy, r1, r2]
                  exact hQ _ _ ⟨eH.trans (Ext.bump _ _), by rw [no (by unfold sameT; have : ¬ x.len = y.len := by omega
                                                                       simp [this])]⟩
              · skip
                refine DrawU_quiet (by rfl) ?_
                simp (disch := first | ((try simp only [heapN]) <;> omega) | fail) only [go_sem, seval, gx, gy, r1]
                exact hQ _ _ ⟨eH.trans (Ext.bump _ _), by rw [no (by unfold sameT; simp [r1])]⟩
            · simp (disch := first | ((try simp only [heapN]) <;> omega) | fail) only [go_sem, seval, p1, p2]
              exact hQ _ _ ⟨eh2, by rw [fin (hend (by omega))]⟩
          · simp (disch := first | ((try simp only [heapN]) <;> omega) | fail) only [go_sem, seval, p1]
            exact hQ _ _ ⟨eh2, by rw [fin (hend (by omega))]⟩
      · rw [decide_eq_false hxy] at heq
        refine DrawU_quiet (by rfl) ?_
        simp (disch := first | ((try simp only [heapN]) <;> omega) | fail) only [go_sem, seval, hlt, hlm, Int.toNat_natCast, hg1, hg2, hr1, ht1, hr2, ht2, heq]
        have hns : sameT s t 0 x y = false := by
          unfold sameT
          by_cases h1 : x.kind = y.kind
          · by_cases h2 : x.at_ = y.at_
            · have h3 : ¬ x.len = y.len := fun h3 => hxy (by cases x; cases y; simp_all)
              simp [h3]
            · have : ¬ (x.at_ : Int) = y.at_ := by omega
              simp [this]
          · simp [h1]
        rw [hns] at hf
        have hfr : frontN (sameT s t 0) l m = a := by simpa using hf
        refine LoopU_while (fun k st hh2 => ∃ b, b ≤ l.length - a ∧ b ≤ m.length - a ∧ k = l.length - a - b ∧ Ext h hh2 ∧ frontN (sameT s t ((t.length : Int) - s.length)) (l.drop a).reverse (m.drop a).reverse = b + frontN (sameT s t ((t.length : Int) - s.length)) ((l.drop a).reverse.drop b) ((m.drop a).reverse.drop b) ∧
            Keep st 156 [(0, .str s), (1, .slc (some (b1, o1)) an ac 3), (2, .str t), (3, .slc (some (b2, o2)) bn bc 3), (9, .int .i64 (a : Nat)), (10, .int .i64 (b : Nat))]) (l.length - a)
          ⟨0, by omega, by omega, by omega, eh.trans (Ext.bump _ _), by simp, rfl, by simp [Has]⟩ ?_
        rintro k st hh2 ⟨b, hba, hbb, rfl, eh2, hf2, hk⟩
        rw [hk.eq]
        obtain ⟨k0, k1, k2, k3, k9, k10, -⟩ := hk.2
        simp only [slotsFrom, Nat.reduceAdd] at k0 k1 k2 k3 k9 k10 ⊢
        simp only [k0, k1, k2, k3, k9, k10]
        have fin : frontN (sameT s t ((t.length : Int) - s.length)) ((l.drop a).reverse.drop b) ((m.drop a).reverse.drop b) = 0 → (keptN s t l m : Int) = a + b := fun h0 => by
          unfold keptN
          rw [hfr, hf2, h0]; simp
        have hend : (l.length ≤ a + b ∨ m.length ≤ a + b) → frontN (sameT s t ((t.length : Int) - s.length)) ((l.drop a).reverse.drop b) ((m.drop a).reverse.drop b) = 0 := fun h => frontN_end (by simp only [List.length_reverse, List.length_drop]; omega)
        by_cases p1 : (a : Int) + (b : Int) < (an : Int)
        · by_cases p2 : (a : Int) + (b : Int) < (bn : Int)
          · obtain ⟨p, hp⟩ : ∃ p, p = l.length - 1 - b := ⟨_, rfl⟩
            obtain ⟨q, hq⟩ : ∃ q, q = m.length - 1 - b := ⟨_, rfl⟩
            have hpx : p < l.length := by omega
            have hqy : q < m.length := by omega
            have hip : ((an : Nat) : Int) - 1 - b = (p : Nat) := by omega
            have hiq : ((bn : Nat) : Int) - 1 - b = (q : Nat) := by omega
            obtain ⟨b3, o3, cs3, l3, ⟨⟩, ⟨⟩, hb3, hg3, rfl, hr3, ht3, hc3⟩ := sl.at_ (i := p) (x := l[p]) (List.getElem?_eq_getElem hpx) (k := 3) rfl
            obtain ⟨b4, o4, cs4, l4, ⟨⟩, ⟨⟩, hb4, hg4, rfl, hr4, ht4, hc4⟩ := sm.at_ (i := q) (x := m[q]) (List.getElem?_eq_getElem hqy) (k := 3) rfl
            have g3 := (eh2.get _ hb3).trans hg3
            have g4 := (eh2.get _ hb4).trans hg4
            have hna : (p : Int) < (an : Int) := by omega
            have hnb : (q : Int) < (bn : Int) := by omega
            have hnx2 := eh2.nxt
            have hxe : (l.drop a).reverse[b]'(by simp; omega) = l[p] := by
              rw [List.getElem_reverse, List.getElem_drop]
              congr 1
              simp only [List.length_drop]; omega
            have hye : (m.drop a).reverse[b]'(by simp; omega) = m[q] := by
              rw [List.getElem_reverse, List.getElem_drop]
              congr 1
              simp only [List.length_drop]; omega
            have hst := frontN_at (f := sameT s t ((t.length : Int) - s.length)) (a := (l.drop a).reverse) (b := (m.drop a).reverse) (n := b) (by simp; omega) (by simp; omega)
            rw [hxe, hye] at hst
            have hx := inl l[p] (List.getElem_mem hpx)
            have hy := inm m[q] (List.getElem_mem hqy)
            simp (disch := first | ((try simp only [heapN]) <;> omega) | fail) only [go_sem, seval, p1, p2]
            refine DrawU_of' (fun b => b < h.nxt) [0, 0, 2, 6, 0, 30, 63, 127, 0, 0, 512, 1536, 0, 7680, 16128, 32512, 0, 0, 196863, 524287] (by rfl) (by rfl) (fun b hb => by omega) ?_
            simp (disch := first | ((try simp only [heapN]) <;> omega) | fail) only [go_sem, seval, hna, hnb, hip, hiq]
            refine LoadK_ofU rfl (by show _ < _; omega) ?_
            simp (disch := first | ((try simp only [heapN]) <;> omega) | fail) only [go_sem, seval, g3, hr3, ht3, Int.toNat_natCast, hna, hnb, hip, hiq]
            refine LoadK_ofU rfl (by show _ < _; omega) ?_
            simp (disch := first | ((try simp only [heapN]) <;> omega) | fail) only [go_sem, seval, g4, hr4, ht4, Int.toNat_natCast, hip, hiq]
            generalize l[p] = x at *
            generalize m[q] = y at *
            refine ⟨fun b hb => ?_, fun b hb => ?_, ?_⟩
            · rw [get_put_ne (by omega), get_put_ne (by omega), get_put_ne (by omega)]; simp
            · exact get_put_ne (by omega)
            generalize hH : Heap.put (Heap.put _ (hh2.nxt + 16) (.cells [.int .i64 x.kind, .int .i64 (x.at_ : Nat), .int .i64 (x.len : Nat)] true)) (hh2.nxt + 17) _ = H
            have gx : H.get (hh2.nxt + 16) = some (.cells [.int .i64 x.kind, .int .i64 (x.at_ : Nat), .int .i64 (x.len : Nat)] true) := by rw [← hH]; exact (get_put_ne (by omega)).trans get_put_self
            have gy : H.get (hh2.nxt + 17) = some (.cells [.int .i64 y.kind, .int .i64 (y.at_ : Nat), .int .i64 (y.len : Nat)] true) := by rw [← hH]; exact get_put_self
            have eH : Ext h H := by
              rw [← hH]
              exact ((((eh2.trans (Ext.bump _ _)).put (by omega)).put (by omega)).put (by omega)).put (by omega)
            clear hH
            have sx : sliceA T 9 (.str s) (some (.int .i64 (x.at_ : Nat))) (some (.int .i64 ((x.at_ : Nat) + (x.len : Nat)))) none = some (.str (x.text s)) := by
              obtain ⟨j, hj⟩ : ∃ j, j = x.at_ + x.len := ⟨_, rfl⟩
              simp only [sliceA, T_9]
              rw [show ((x.at_ : Nat) : Int) + (x.len : Nat) = ((j : Nat) : Int) by omega, sbounds_both (by omega) (by omega) (by omega)]
              simp [Tk.text]
              omega
            have sy : sliceA T 9 (.str t) (some (.int .i64 (y.at_ : Nat))) (some (.int .i64 ((y.at_ : Nat) + (y.len : Nat)))) none = some (.str (y.text t)) := by
              obtain ⟨j, hj⟩ : ∃ j, j = y.at_ + y.len := ⟨_, rfl⟩
              simp only [sliceA, T_9]
              rw [show ((y.at_ : Nat) : Int) + (y.len : Nat) = ((j : Nat) : Int) by omega, sbounds_both (by omega) (by omega) (by omega)]
              simp [Tk.text]
              omega
            have hse : strOp .neq (x.text s) (y.text t) = some (.bool (!(x.text s == y.text t))) := by simp [strOp]
            have no : sameT s t ((t.length : Int) - s.length) x y = false → (keptN s t l m : Int) = a + b := fun h0 => by
              rw [h0] at hst; exact fin hst
            by_cases r1 : x.kind = y.kind
            · by_cases r2 : ((x.len : Nat) : Int) = (y.len : Nat)
              · by_cases r3 : ((y.at_ : Nat) : Int) - (x.at_ : Nat) = (t.length : Int) - (s.length : Int)
                · have hsm : sameT s t ((t.length : Int) - s.length) x y = (x.text s == y.text t) := by
                    unfold sameT
                    have w1 : x.len = y.len := by omega
                    have w2 : (x.at_ : Int) + ((t.length : Int) - s.length) = y.at_ := by omega
                    simp [r1, w1, w2]
                  cases htx : x.text s == y.text t with
                  | true =>
                    rw [htx] at hse hsm
                    rw [r2] at sx
                    refine DrawU_quiet (by rfl) ?_
                    simp (disch := first | ((try simp only [heapN]) <;> omega) | fail) only [go_sem, seval, gx, gy, r1, r2, r3, sx, sy, hse]
                    rw [hsm, if_pos rfl] at hst
                    exact AgainK.mk (l.length - a - (b + 1)) (by simp only; omega) ⟨b + 1, by omega, by omega, rfl, eH.trans (Ext.bump _ _), by omega, rfl, by simp [Has]⟩
                  | false =>
                    rw [htx] at hse hsm
                    rw [r2] at sx
                    refine DrawU_quiet (by rfl) ?_
                    simp (disch := first | ((try simp only [heapN]) <;> omega) | fail) only [go_sem, seval, gx, gy, r1, r2, r3, sx, sy, hse]
                    exact hQ _ _ ⟨eH.trans (Ext.bump _ _), by rw [no hsm]⟩
                · skip
                  refine DrawU_quiet (by rfl) ?_
                  simp (disch := first | ((try simp only [heapN]) <;> omega) | fail) only [go_sem, seval, gx, gy, r1, r2, r3]
                  exact hQ _ _ ⟨eH.trans (Ext.bump _ _), by rw [no (by unfold sameT; have : ¬ (x.at_ : Int) + ((t.length : Int) - s.length) = y.at_ := by omega
                                                                       simp [this])]⟩
              · skip
                refine DrawU_quiet (by rfl) ?_
                simp (disch := first | ((try simp only [heapN]) <;> omega) | fail) only [go_sem, seval, gx, gy, r1, r2]
                exact hQ _ _ ⟨eH.trans (Ext.bump _ _), by rw [no (by unfold sameT; have : ¬ x.len = y.len := by omega
                                                                     simp [this])]⟩
            · skip
              refine DrawU_quiet (by rfl) ?_
              simp (disch := first | ((try simp only [heapN]) <;> omega) | fail) only [go_sem, seval, gx, gy, r1]
              exact hQ _ _ ⟨eH.trans (Ext.bump _ _), by rw [no (by unfold sameT; simp [r1])]⟩
          · simp (disch := first | ((try simp only [heapN]) <;> omega) | fail) only [go_sem, seval, p1, p2]
            exact hQ _ _ ⟨eh2, by rw [fin (hend (by omega))]⟩
        · simp (disch := first | ((try simp only [heapN]) <;> omega) | fail) only [go_sem, seval, p1]
          exact hQ _ _ ⟨eh2, by rw [fin (hend (by omega))]⟩
    · skip
      refine DrawU_quiet (by rfl) ?_
      simp (disch := first | ((try simp only [heapN]) <;> omega) | fail) only [go_sem, seval, hlt, hlm]
      have hfr : frontN (sameT s t 0) l m = a := by rw [frontN_end (by omega)] at hf; simpa using hf
      refine LoopU_while (fun k st hh2 => ∃ b, b ≤ l.length - a ∧ b ≤ m.length - a ∧ k = l.length - a - b ∧ Ext h hh2 ∧ frontN (sameT s t ((t.length : Int) - s.length)) (l.drop a).reverse (m.drop a).reverse = b + frontN (sameT s t ((t.length : Int) - s.length)) ((l.drop a).reverse.drop b) ((m.drop a).reverse.drop b) ∧
          Keep st 156 [(0, .str s), (1, .slc aa an ac az), (2, .str t), (3, .slc ba bn bc bz), (9, .int .i64 (a : Nat)), (10, .int .i64 (b : Nat))]) (l.length - a)
        ⟨0, by omega, by omega, by omega, eh.trans (Ext.bump _ _), by simp, rfl, by simp [Has]⟩ ?_
      rintro k st hh2 ⟨b, hba, hbb, rfl, eh2, hf2, hk⟩
      rw [hk.eq]
      obtain ⟨k0, k1, k2, k3, k9, k10, -⟩ := hk.2
      simp only [slotsFrom, Nat.reduceAdd] at k0 k1 k2 k3 k9 k10 ⊢
      simp only [k0, k1, k2, k3, k9, k10]
      have fin : frontN (sameT s t ((t.length : Int) - s.length)) ((l.drop a).reverse.drop b) ((m.drop a).reverse.drop b) = 0 → (keptN s t l m : Int) = a + b := fun h0 => by
        unfold keptN
        rw [hfr, hf2, h0]; simp
      have hend : (l.length ≤ a + b ∨ m.length ≤ a + b) → frontN (sameT s t ((t.length : Int) - s.length)) ((l.drop a).reverse.drop b) ((m.drop a).reverse.drop b) = 0 := fun h => frontN_end (by simp only [List.length_reverse, List.length_drop]; omega)
      by_cases p1 : (a : Int) + (b : Int) < (an : Int)
      · by_cases p2 : (a : Int) + (b : Int) < (bn : Int)
        · exfalso; omega
        · simp (disch := first | ((try simp only [heapN]) <;> omega) | fail) only [go_sem, seval, p1, p2]
          exact hQ _ _ ⟨eh2, by rw [fin (hend (by omega))]⟩
      · simp (disch := first | ((try simp only [heapN]) <;> omega) | fail) only [go_sem, seval, p1]
        exact hQ _ _ ⟨eh2, by rw [fin (hend (by omega))]⟩
  · skip
    refine DrawU_quiet (by rfl) ?_
    simp (disch := first | ((try simp only [heapN]) <;> omega) | fail) only [go_sem, seval, hlt]
    have hfr : frontN (sameT s t 0) l m = a := by rw [frontN_end (by omega)] at hf; simpa using hf
    refine LoopU_while (fun k st hh2 => ∃ b, b ≤ l.length - a ∧ b ≤ m.length - a ∧ k = l.length - a - b ∧ Ext h hh2 ∧ frontN (sameT s t ((t.length : Int) - s.length)) (l.drop a).reverse (m.drop a).reverse = b + frontN (sameT s t ((t.length : Int) - s.length)) ((l.drop a).reverse.drop b) ((m.drop a).reverse.drop b) ∧
        Keep st 156 [(0, .str s), (1, .slc aa an ac az), (2, .str t), (3, .slc ba bn bc bz), (9, .int .i64 (a : Nat)), (10, .int .i64 (b : Nat))]) (l.length - a)
      ⟨0, by omega, by omega, by omega, eh.trans (Ext.bump _ _), by simp, rfl, by simp [Has]⟩ ?_
    rintro k st hh2 ⟨b, hba, hbb, rfl, eh2, hf2, hk⟩
    rw [hk.eq]
    obtain ⟨k0, k1, k2, k3, k9, k10, -⟩ := hk.2
    simp only [slotsFrom, Nat.reduceAdd] at k0 k1 k2 k3 k9 k10 ⊢
    simp only [k0, k1, k2, k3, k9, k10]
    have fin : frontN (sameT s t ((t.length : Int) - s.length)) ((l.drop a).reverse.drop b) ((m.drop a).reverse.drop b) = 0 → (keptN s t l m : Int) = a + b := fun h0 => by
      unfold keptN
      rw [hfr, hf2, h0]; simp
    have hend : (l.length ≤ a + b ∨ m.length ≤ a + b) → frontN (sameT s t ((t.length : Int) - s.length)) ((l.drop a).reverse.drop b) ((m.drop a).reverse.drop b) = 0 := fun h => frontN_end (by simp only [List.length_reverse, List.length_drop]; omega)
    by_cases p1 : (a : Int) + (b : Int) < (an : Int)
    · by_cases p2 : (a : Int) + (b : Int) < (bn : Int)
      · exfalso; omega
      · simp (disch := first | ((try simp only [heapN]) <;> omega) | fail) only [go_sem, seval, p1, p2]
        exact hQ _ _ ⟨eh2, by rw [fin (hend (by omega))]⟩
    · simp (disch := first | ((try simp only [heapN]) <;> omega) | fail) only [go_sem, seval, p1]
      exact hQ _ _ ⟨eh2, by rw [fin (hend (by omega))]⟩

end Go.Proofs.Ytenpjkinpecnfaa
