/-
  Layer relex: how many are the same.
-/
import Derived.Test.YtenpjkinpecnfaaRelexA
import Derived.KernelRfl
namespace Go.Proofs.Ytenpjkinpecnfaa
open Go Go.Am
set_option maxRecDepth 100000
set_option maxHeartbeats 1000000
set_option linter.unusedSimpArgs false
set_option linter.unusedVariables false

theorem fronts_uf {h : Heap} {a b : AV} {xs ys : List Tk} {caps : List AV} {f : Tk → Tk → Bool} (sx : Lst h a xs) (sy : Lst h b ys) (hx : xs.length ≤ 10000) (hy : ys.length ≤ 10000)
    (hf : ∀ x ∈ xs, ∀ y ∈ ys, ∀ h', Ext h h' → UF T F 64 ([.agg [.int .i64 x.kind, .int .i64 (x.at_ : Nat), .int .i64 (x.len : Nat)], .agg [.int .i64 y.kind, .int .i64 (y.at_ : Nat), .int .i64 (y.len : Nat)]] ++ caps) h' fun v h'' => Ext h' h'' ∧ v = .bool (f x y)) :
    UF T F 66 [a, b, .func (.func 64) caps] h fun v' h' => Ext h h' ∧ v' = .int .i64 (frontN f xs ys : Nat) := by
  obtain ⟨aa, an, ac, az, rfl, han⟩ := sx.form
  obtain ⟨ba, bn, bc, bz, rfl, hbn⟩ := sy.form
  refine UF.gen fun Q hQ => UF.of (F_66) (c := _) rfl ?_
  unfold Try.f66
  simp only [List.length, Nat.reduceSub, Nat.reduceAdd, List.replicate, List.cons_append, List.nil_append]
  simp (disch := first | ((try simp only [heapN]) <;> omega) | fail) only [go_sem, seval]
  refine LoopU_while (fun m st hh => ∃ (n : Nat), n ≤ xs.length ∧ m = xs.length - n ∧ Ext h hh ∧ frontN f xs ys = n + frontN f (xs.drop n) (ys.drop n) ∧
      Keep st 29 [(0, .slc aa an ac az), (1, .slc ba bn bc bz), (2, .func (.func 64) caps), (6, .int .i64 (n : Nat))]) xs.length
    ⟨0, by omega, by omega, Ext.refl _, by simp, rfl, by simp [Has]⟩ ?_
  rintro m st hh ⟨n, hn, rfl, eh, hfn, hk⟩
  rw [hk.eq]
  obtain ⟨k0, k1, k2, k6, -⟩ := hk.2
  simp only [slotsFrom, Nat.reduceAdd] at k0 k1 k2 k6 ⊢
  simp only [k0, k1, k2, k6]
  have hnx := eh.nxt
  simp (disch := first | ((try simp only [heapN]) <;> omega) | fail) only [go_sem, seval]
  refine DrawU_of' (fun b => b < h.nxt) [0, 0, 2, 0, 8, 30, 63, 127, 255, 255, 255, 1791, 3839, 255, 255, 24831, 57599, 131071, 262143] (by rfl) (by rfl) (fun b hb => by omega) ?_
  simp (disch := first | ((try simp only [heapN]) <;> omega) | fail) only [go_sem, seval]
  have hmn : ((n : Int) < if (bn : Int) < (an : Int) then (bn : Int) else (an : Int)) ↔ (n < xs.length ∧ n < ys.length) := by
    split <;> omega
  by_cases hlt : (n : Int) < if (bn : Int) < (an : Int) then (bn : Int) else (an : Int)
  · obtain ⟨hnx1, hny1⟩ := hmn.1 hlt
    obtain ⟨b1, o1, cs1, l1, rfl, rfl, hb1, hg1, rfl, hr1, ht1, hc1⟩ := sx.at_ (i := n) (x := xs[n]) (List.getElem?_eq_getElem hnx1) (k := 3) rfl
    obtain ⟨b2, o2, cs2, l2, rfl, rfl, hb2, hg2, rfl, hr2, ht2, hc2⟩ := sy.at_ (i := n) (x := ys[n]) (List.getElem?_eq_getElem hny1) (k := 3) rfl
    have g1 := (eh.get _ hb1).trans hg1
    have g2 := (eh.get _ hb2).trans hg2
    have hna : (n : Int) < (an : Int) := by omega
    have hnb : (n : Int) < (bn : Int) := by omega
    simp (disch := first | ((try simp only [heapN]) <;> omega) | fail) only [go_sem, seval, hlt, hna, hnb]
    refine LoadK_ofU rfl (by show _ < _; omega) ?_
    simp (disch := first | ((try simp only [heapN]) <;> omega) | fail) only [go_sem, seval, g1, hr1, ht1, Int.toNat_natCast, hlt, hnb]
    refine LoadK_ofU rfl (by show _ < _; omega) ?_
    simp (disch := first | ((try simp only [heapN]) <;> omega) | fail) only [go_sem, seval, g2, hr2, ht2, Int.toNat_natCast, hlt]
    refine callV_ofU F_64 rfl ((hf xs[n] (List.getElem_mem hnx1) ys[n] (List.getElem_mem hny1) _ (eh.trans (Ext.bump _ _))).mono ?_)
    rintro v3 h3 ⟨e3, rfl⟩
    simp (disch := first | ((try simp only [heapN]) <;> omega) | fail) only [go_sem, seval, hlt]
    refine ⟨fun b hb => (e3.get _ (by simp; omega)).trans (by simp), ?_⟩
    have e4 := (eh.trans (Ext.bump hh 19)).trans e3
    rw [frontN_at hnx1 hny1] at hfn
    cases hv : f xs[n] ys[n] with
    | true =>
      rw [hv, if_pos rfl] at hfn
      simp (disch := first | ((try simp only [heapN]) <;> omega) | fail) only [go_sem, seval]
      exact AgainK.mk (xs.length - (n + 1)) (by simp only; omega) ⟨n + 1, by omega, rfl, e4, by omega, rfl, by simp [Has]⟩
    | false =>
      rw [hv] at hfn
      simp (disch := first | ((try simp only [heapN]) <;> omega) | fail) only [go_sem, seval]
      exact hQ _ _ ⟨e4, by rw [hfn]; simp⟩
  · simp (disch := first | ((try simp only [heapN]) <;> omega) | fail) only [go_sem, seval, hlt]
    rw [frontN_end (by have := mt hmn.2 hlt; omega), Nat.add_zero] at hfn
    exact hQ _ _ ⟨eh.trans (Ext.bump _ _), by rw [hfn]⟩

theorem backs_uf {h : Heap} {a b : AV} {xs ys : List Tk} {caps : List AV} {f : Tk → Tk → Bool} (sx : Lst h a xs) (sy : Lst h b ys) (hx : xs.length ≤ 10000) (hy : ys.length ≤ 10000)
    (hf : ∀ x ∈ xs, ∀ y ∈ ys, ∀ h', Ext h h' → UF T F 64 ([.agg [.int .i64 x.kind, .int .i64 (x.at_ : Nat), .int .i64 (x.len : Nat)], .agg [.int .i64 y.kind, .int .i64 (y.at_ : Nat), .int .i64 (y.len : Nat)]] ++ caps) h' fun v h'' => Ext h' h'' ∧ v = .bool (f x y)) :
    UF T F 67 [a, b, .func (.func 64) caps] h fun v' h' => Ext h h' ∧ v' = .int .i64 (frontN f xs.reverse ys.reverse : Nat) := by
  obtain ⟨aa, an, ac, az, rfl, han⟩ := sx.form
  obtain ⟨ba, bn, bc, bz, rfl, hbn⟩ := sy.form
  refine UF.gen fun Q hQ => UF.of (F_67) (c := _) rfl ?_
  unfold Try.f67
  simp only [List.length, Nat.reduceSub, Nat.reduceAdd, List.replicate, List.cons_append, List.nil_append]
  simp (disch := first | ((try simp only [heapN]) <;> omega) | fail) only [go_sem, seval]
  refine LoopU_while (fun m st hh => ∃ (n : Nat), n ≤ xs.length ∧ m = xs.length - n ∧ Ext h hh ∧ frontN f xs.reverse ys.reverse = n + frontN f (xs.reverse.drop n) (ys.reverse.drop n) ∧
      Keep st 37 [(0, .slc aa an ac az), (1, .slc ba bn bc bz), (2, .func (.func 64) caps), (6, .int .i64 (n : Nat))]) xs.length
    ⟨0, by omega, by omega, Ext.refl _, by simp, rfl, by simp [Has]⟩ ?_
  rintro m st hh ⟨n, hn, rfl, eh, hfn, hk⟩
  rw [hk.eq]
  obtain ⟨k0, k1, k2, k6, -⟩ := hk.2
  simp only [slotsFrom, Nat.reduceAdd] at k0 k1 k2 k6 ⊢
  simp only [k0, k1, k2, k6]
  have hnx := eh.nxt
  simp (disch := first | ((try simp only [heapN]) <;> omega) | fail) only [go_sem, seval]
  refine DrawU_of' (fun b => b < h.nxt) [0, 0, 2, 0, 8, 30, 63, 127, 255, 255, 255, 1279, 3327, 255, 15615, 32511, 65279, 255, 255, 262399, 786687, 255, 3932415, 8257791, 16646399, 33554431, 67108863] (by rfl) (by rfl) (fun b hb => by omega) ?_
  simp (disch := first | ((try simp only [heapN]) <;> omega) | fail) only [go_sem, seval]
  have hmn : ((n : Int) < if (bn : Int) < (an : Int) then (bn : Int) else (an : Int)) ↔ (n < xs.length ∧ n < ys.length) := by
    split <;> omega
  by_cases hlt : (n : Int) < if (bn : Int) < (an : Int) then (bn : Int) else (an : Int)
  · obtain ⟨hnx1, hny1⟩ := hmn.1 hlt
    obtain ⟨p, hp⟩ : ∃ p, p = xs.length - 1 - n := ⟨_, rfl⟩
    obtain ⟨q, hq⟩ : ∃ q, q = ys.length - 1 - n := ⟨_, rfl⟩
    have hpx : p < xs.length := by omega
    have hqy : q < ys.length := by omega
    have hip : ((an : Nat) : Int) - 1 - n = (p : Nat) := by omega
    have hiq : ((bn : Nat) : Int) - 1 - n = (q : Nat) := by omega
    obtain ⟨b1, o1, cs1, l1, rfl, rfl, hb1, hg1, rfl, hr1, ht1, hc1⟩ := sx.at_ (i := p) (x := xs[p]) (List.getElem?_eq_getElem hpx) (k := 3) rfl
    obtain ⟨b2, o2, cs2, l2, rfl, rfl, hb2, hg2, rfl, hr2, ht2, hc2⟩ := sy.at_ (i := q) (x := ys[q]) (List.getElem?_eq_getElem hqy) (k := 3) rfl
    have g1 := (eh.get _ hb1).trans hg1
    have g2 := (eh.get _ hb2).trans hg2
    have hna : (p : Int) < (an : Int) := by omega
    have hnb : (q : Int) < (bn : Int) := by omega
    simp (disch := first | ((try simp only [heapN]) <;> omega) | fail) only [go_sem, seval, hlt, hna, hnb, hip, hiq]
    refine LoadK_ofU rfl (by show _ < _; omega) ?_
    simp (disch := first | ((try simp only [heapN]) <;> omega) | fail) only [go_sem, seval, g1, hr1, ht1, Int.toNat_natCast, hlt, hnb, hip, hiq]
    refine LoadK_ofU rfl (by show _ < _; omega) ?_
    simp (disch := first | ((try simp only [heapN]) <;> omega) | fail) only [go_sem, seval, g2, hr2, ht2, Int.toNat_natCast, hlt, hip, hiq]
    refine callV_ofU F_64 rfl ((hf xs[p] (List.getElem_mem hpx) ys[q] (List.getElem_mem hqy) _ (eh.trans (Ext.bump _ _))).mono ?_)
    rintro v3 h3 ⟨e3, rfl⟩
    simp (disch := first | ((try simp only [heapN]) <;> omega) | fail) only [go_sem, seval, hlt]
    refine ⟨fun b hb => (e3.get _ (by simp; omega)).trans (by simp), ?_⟩
    have e4 := (eh.trans (Ext.bump hh 27)).trans e3
    rw [frontN_at (by simpa using hnx1) (by simpa using hny1), List.getElem_reverse, List.getElem_reverse] at hfn
    simp only [← hp, ← hq] at hfn
    cases hv : f xs[p] ys[q] with
    | true =>
      rw [hv, if_pos rfl] at hfn
      simp (disch := first | ((try simp only [heapN]) <;> omega) | fail) only [go_sem, seval]
      exact AgainK.mk (xs.length - (n + 1)) (by simp only; omega) ⟨n + 1, by omega, rfl, e4, by omega, rfl, by simp [Has]⟩
    | false =>
      rw [hv] at hfn
      simp (disch := first | ((try simp only [heapN]) <;> omega) | fail) only [go_sem, seval]
      exact hQ _ _ ⟨e4, by rw [hfn]; simp⟩
  · simp (disch := first | ((try simp only [heapN]) <;> omega) | fail) only [go_sem, seval, hlt]
    rw [frontN_end (by have := mt hmn.2 hlt; simp only [List.length_reverse]; omega), Nat.add_zero] at hfn
    exact hQ _ _ ⟨eh.trans (Ext.bump _ _), by rw [hfn]⟩

end Go.Proofs.Ytenpjkinpecnfaa
