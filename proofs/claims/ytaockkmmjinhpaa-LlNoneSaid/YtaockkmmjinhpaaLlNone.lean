/- A production that is told is one of that nonterminal, and a clash names two of one. For numbers (150) of which the grammar is made. -/
import Derived.Test.YtaockkmmjinhpaaLlT
import Derived.Test.YtaockkmmjinhpaaGBeg13
import Derived.KernelRfl
namespace Go.Proofs.Ytaockkmmjinhpaa
open Go Go.Am
set_option maxRecDepth 100000
set_option maxHeartbeats 4000000
set_option linter.unusedSimpArgs false
set_option linter.unusedVariables false

theorem LlNone_uf {h : Heap} {v : AV} {l : List UInt8} (hn : h.nxt = 16) (hv : Lst h v l) : UF T F 15 [v] h fun v' _ => v' = .bool true := by
  obtain ⟨va, n, c, z, rfl, hln⟩ := hv.form
  refine UF.gen fun Q hQ => UF.of (F_15) (c := _) rfl ?_
  unfold Try.f15
  simp only [List.length, Nat.reduceSub, Nat.reduceAdd, List.replicate, List.cons_append, List.nil_append]
  simp (disch := omega) only [go_sem, seval]
  refine callV_ofU F_49 rfl ((beg13.begun13_uf hn).mono ?_)
  rintro v1 h1 ⟨e1, rfl⟩
  simp (disch := omega) only [go_sem, seval]
  by_cases h150 : (n : Int) > 150
  · simp (disch := omega) only [go_sem, seval, h150]
    exact hQ _ _ rfl
  simp (disch := omega) only [go_sem, seval, h150]
  refine callV_ofU F_25 rfl ((Made_uf (hv.ext e1)).mono ?_)
  rintro v2 h2 ⟨e2, rfl, P2⟩
  simp (disch := omega) only [go_sem, seval]
  refine callV_ofU F_26 rfl ((Grammar_uf P2 (by omega)).mono ?_)
  rintro v3 h3 ⟨u3, g, ⟨ga, gb, gc, rfl, Lt, Ln, Lp⟩, M⟩
  simp (disch := omega) only [go_sem, seval]
  have MM := M.may
  obtain ⟨ta, tn, tc, tz, rfl, htn⟩ := Lt.form
  obtain ⟨na, nn, nc, nz, rfl, hnn⟩ := Ln.form
  obtain ⟨pa, pn, pc, pz, rfl, hpn⟩ := Lp.form
  have hpl := MM.pl
  have hnl := MM.nl
  have htl := MM.tl
  simp (disch := omega) only [go_sem, seval]
  have e4 : Ext h3 ((h3.add (.cells [.slc none 0 (some 0) 0, .slc none 0 (some 0) 0, .slc none 0 (some 0) 0] true)).put h3.nxt (.cells [.slc ta tn tc tz, .slc na nn nc nz, .slc pa pn pc pz] true)) := (Ext.add _ _).put (Nat.le_refl _)
  have g4 : ((h3.add (.cells [.slc none 0 (some 0) 0, .slc none 0 (some 0) 0, .slc none 0 (some 0) 0] true)).put h3.nxt (.cells [.slc ta tn tc tz, .slc na nn nc nz, .slc pa pn pc pz] true)).get h3.nxt = some (.cells [.slc ta tn tc tz, .slc na nn nc nz, .slc pa pn pc pz] true) := get_put_self
  have n4 : ((h3.add (.cells [.slc none 0 (some 0) 0, .slc none 0 (some 0) 0, .slc none 0 (some 0) 0] true)).put h3.nxt (.cells [.slc ta tn tc tz, .slc na nn nc nz, .slc pa pn pc pz] true)).nxt = h3.nxt + 1 := by simp
  generalize ((h3.add (.cells [.slc none 0 (some 0) 0, .slc none 0 (some 0) 0, .slc none 0 (some 0) 0] true)).put h3.nxt (.cells [.slc ta tn tc tz, .slc na nn nc nz, .slc pa pn pc pz] true)) = h4 at *
  refine callV_ofU F_50 rfl ((Table_uf (Lt.ext e4) (Ln.ext e4) (Lp.ext e4) MM).mono ?_)
  rintro v5 h5 ⟨e5, fo, w1, w2, FO, rfl, L1, L2⟩
  simp (disch := omega) only [go_sem, seval]
  have g5 := (e5.get _ (by omega)).trans g4
  have hn5 := e5.nxt
  have LpE := (Lp.ext e4).ext e5
  obtain ⟨MS, hMS⟩ : ∃ MS, MS = g.prods.map (meanR g fo) := ⟨_, rfl⟩
  rw [← hMS] at L1 L2
  rw [← htn, ← hnn] at L1 L2
  have htab : (tabC g.prods MS tn nn).length = nn := by simp [tabC]
  have hcl := claN_len (ps := g.prods) (M := MS) (tn := tn) nn
  have hcl2 : (claN g.prods MS tn nn).length ≤ 10000 := by
    have y1 : (tn + 1) * g.prods.length ≤ 9 * 16 := Nat.mul_le_mul (by omega) (by omega)
    have y2 : nn * ((tn + 1) * g.prods.length) ≤ 8 * (9 * 16) := Nat.mul_le_mul (by omega) y1
    omega
  obtain ⟨wa, wn, wc, wz, rfl, hwn⟩ := L1.form
  obtain ⟨ca, cn, cc, cz, rfl, hcn⟩ := L2.form
  have q1 : (wn : Int) = (nn : Int) := by omega
  simp (disch := omega) only [go_sem, seval, g5, q1]
  refine LoopU_while (fun m st hh => ∃ (i : Nat), i ≤ nn ∧ m = nn - i ∧ Ext h5 hh ∧ Keep st 234 [(3, .ptr (some (h3.nxt, 0))), (4, .slc wa wn wc wz), (5, .slc ca cn cc cz), (6, .int .i64 (i : Nat))]) nn
    ⟨0, by omega, by omega, Ext.refl _, rfl, by simp [Has]⟩ ?_
  rintro m st hh ⟨i, hi, rfl, eh, hk⟩
  rw [hk.eq]
  obtain ⟨k3, k4, k5, k6, -⟩ := hk.2
  simp only [slotsFrom, Nat.reduceAdd] at k3 k4 k5 k6 ⊢
  simp only [k3, k4, k5, k6]
  have gh := (eh.get _ (by omega)).trans g5
  have hnh := eh.nxt
  by_cases hlt : (i : Int) < (wn : Int)
  · have hil : i < nn := by omega
    have hrow : (tabC g.prods MS tn nn)[i]? = some (rowC g.prods MS tn i) := by rw [tabC, List.getElem?_map, List.getElem?_range hil]; rfl
    obtain ⟨b1, o1, cs1, l1, rfl, rfl, hb1, hg1, ⟨rv, rfl, Lr⟩, hr1, ht1, hc1⟩ := (L1.ext eh).at_ (i := i) (x := rowC g.prods MS tn i) hrow (k := 1) rfl
    have c1 : cs1[o1 + i * 1]? = some rv := hc1 0 (by decide)
    obtain ⟨ra, rn, rc, rz, rfl, hrn⟩ := Lr.form
    have hrl : rn = tn + 1 := by rw [hrn]; simp [rowC]
    have q2 : (rn : Int) = (tn : Int) + 1 := by omega
    simp (disch := omega) only [go_sem, seval, hlt]
    refine DrawU_quiet (by rfl) ?_
    simp (disch := omega) only [go_sem, seval, hlt, hg1, c1, gh, q2, Int.toNat_natCast]
    refine LoopU_while (fun m st hx => ∃ (k : Nat), k ≤ tn + 1 ∧ m = tn + 1 - k ∧ Ext hh hx ∧ Keep st 234 [(3, .ptr (some (h3.nxt, 0))), (4, .slc (some (b1, o1)) wn wc 1), (5, .slc ca cn cc cz), (6, .int .i64 (i : Nat)), (7, .int .i64 (k : Nat))]) (tn + 1)
      ⟨0, by omega, by omega, Ext.bump _ _, rfl, by simp [Has]⟩ ?_
    clear hk k3 k4 k5 k6
    rintro m st hx ⟨k, hk0, rfl, ex, hk⟩
    rw [hk.eq]
    obtain ⟨k3, k4, k5, k6, k7, -⟩ := hk.2
    simp only [slotsFrom, Nat.reduceAdd] at k3 k4 k5 k6 k7 ⊢
    simp only [k3, k4, k5, k6, k7]
    have gx := (ex.get _ (by omega)).trans gh
    have gx1 := (ex.get _ hb1).trans hg1
    by_cases hltk : (k : Int) < (rn : Int)
    · have hkl : k < tn + 1 := by omega
      have hat : (rowC g.prods MS tn i)[k]? = some ((cndA g.prods MS i k).headD (-1)) := by rw [rowC, List.getElem?_map, List.getElem?_range hkl]; rfl
      obtain ⟨b2, o2, cs2, l2, rfl, rfl, hb2, hg2, rfl, hr2, ht2, hc2⟩ := (Lr.ext ex).at_ (i := k) hat (k := 1) rfl
      have c2 : cs2[o2 + k * 1]? = some (.int .i64 ((cndA g.prods MS i k).headD (-1))) := hc2 0 (by decide)
      rcases row_out (ps := g.prods) (M := MS) (k := i) (t := k) with hp | ⟨a, hp, hap, p, hpa, hpl2⟩
      · rw [hp] at c2
        have r1 : ¬ (-1 : Int) ≥ (pn : Int) := by omega
        simp (disch := omega) only [go_sem, seval, hlt, hltk, gx, gx1, c1, hg2, c2, r1, Int.toNat_natCast]
        exact AgainK.mk (tn + 1 - (k + 1)) (by simp only; omega) ⟨k + 1, by omega, rfl, ex, rfl, by simp [Has]⟩
      · rw [hp] at c2
        have r1 : ¬ (a : Int) ≥ (pn : Int) := by omega
        have r2 : ¬ (a : Int) < (-1 : Int) := by omega
        have r3 : (a : Int) ≥ 0 := by omega
        have r4 : (a : Int) < (pn : Int) := by omega
        obtain ⟨b3, o3, cs3, l3, rfl, rfl, hb3, hg3, ⟨ra3, xa3, rfl, sr3, sx3⟩, hr3, ht3, hc3⟩ := ((LpE.ext eh).ext ex).at_ (i := a) (x := p) hpa (k := 3) rfl
        have c3 : cs3[o3 + a * 3]? = some (.int .i64 (i : Nat)) := by have := hc3 0 (by decide); rw [← hpl2]; simpa using this
        simp (disch := omega) only [go_sem, seval, hlt, hltk, gx, gx1, c1, hg2, c2, r1, r2, r3, r4, hg3, c3, Int.toNat_natCast]
        exact AgainK.mk (tn + 1 - (k + 1)) (by simp only; omega) ⟨k + 1, by omega, rfl, ex, rfl, by simp [Has]⟩
    · simp (disch := omega) only [go_sem, seval, hlt, gx1, c1, hltk, Int.toNat_natCast]
      exact AgainK.mk (nn - (i + 1)) (by simp only; omega) ⟨i + 1, by omega, rfl, eh.trans ex, rfl, by simp [Has]⟩
  · simp (disch := omega) only [go_sem, seval, hlt]
    refine LoopU_while (fun m st hx => ∃ (j : Nat), j ≤ cn ∧ m = cn - j ∧ Ext h5 hx ∧ Keep st 234 [(3, .ptr (some (h3.nxt, 0))), (4, .slc wa wn wc wz), (5, .slc ca cn cc cz), (9, .int .i64 (j : Nat))]) cn
      ⟨0, by omega, by omega, eh, rfl, by simp [Has]⟩ ?_
    clear hk k3 k4 k5 k6
    rintro m st hx ⟨j, hj, rfl, ex, hk⟩
    rw [hk.eq]
    obtain ⟨k3, k4, k5, k9, -⟩ := hk.2
    simp only [slotsFrom, Nat.reduceAdd] at k3 k4 k5 k9 ⊢
    simp only [k3, k4, k5, k9]
    have gx := (ex.get _ (by omega)).trans g5
    have hnx := ex.nxt
    by_cases hltj : (j : Int) < (cn : Int)
    · have hjl : j < (claN g.prods MS tn nn).length := by omega
      have hjx := List.getElem?_eq_getElem hjl
      obtain ⟨k, t, a, b, hx0, hkn, htn', hab, hbl, ⟨p, hpa, hpl1⟩, ⟨q, hqb, hql⟩, hhd⟩ := (claN_mem (List.getElem_mem hjl)).out
      rw [hx0] at hjx
      obtain ⟨b1, o1, cs1, l1, rfl, rfl, hb1, hg1, rfl, hr1, ht1, hc1⟩ := (L2.ext ex).at_ (i := j) hjx (k := 4) rfl
      have e6 : Ext hx ((hx.add (.cells [.int .i64 0, .int .i64 0, .int .i64 0, .int .i64 0] true)).put hx.nxt (.cells [.int .i64 (k : Nat), .int .i64 (t : Nat), .int .i64 (a : Nat), .int .i64 (b : Nat)] true)) := (Ext.add _ _).put (Nat.le_refl _)
      have g6 : ((hx.add (.cells [.int .i64 0, .int .i64 0, .int .i64 0, .int .i64 0] true)).put hx.nxt (.cells [.int .i64 (k : Nat), .int .i64 (t : Nat), .int .i64 (a : Nat), .int .i64 (b : Nat)] true)).get hx.nxt = some (.cells [.int .i64 (k : Nat), .int .i64 (t : Nat), .int .i64 (a : Nat), .int .i64 (b : Nat)] true) := get_put_self
      simp (disch := omega) only [go_sem, seval, hltj, hg1, hr1, ht1, Int.toNat_natCast]
      have gx6 := (e6.get _ (by omega)).trans gx
      have hg6 := (e6.get _ hb1).trans hg1
      generalize ((hx.add (.cells [.int .i64 0, .int .i64 0, .int .i64 0, .int .i64 0] true)).put hx.nxt (.cells [.int .i64 (k : Nat), .int .i64 (t : Nat), .int .i64 (a : Nat), .int .i64 (b : Nat)] true)) = h6 at *
      have E6 := ex.trans e6
      obtain ⟨b3, o3, cs3, l3, rfl, rfl, hb3, hg3, ⟨ra3, xa3, rfl, sr3, sx3⟩, hr3, ht3, hc3⟩ := (LpE.ext E6).at_ (i := a) (x := p) hpa (k := 3) rfl
      have c3 : cs3[o3 + a * 3]? = some (.int .i64 (k : Nat)) := by have := hc3 0 (by decide); rw [← hpl1]; simpa using this
      obtain ⟨b4, o4, cs4, l4, e4', _, hb4, hg4, ⟨ra4, xa4, rfl, sr4, sx4⟩, hr4, ht4, hc4⟩ := (LpE.ext E6).at_ (i := b) (x := q) hqb (k := 3) rfl
      simp only [Option.some.injEq, Prod.mk.injEq] at e4'
      obtain ⟨rfl, rfl⟩ := e4'
      rw [hg3] at hg4
      simp only [Option.some.injEq, Blk.cells.injEq, and_true] at hg4
      subst hg4
      have c4 : cs3[o3 + b * 3]? = some (.int .i64 (k : Nat)) := by have := hc4 0 (by decide); rw [← hql]; simpa using this
      have hrow : (tabC g.prods MS tn nn)[k]? = some (rowC g.prods MS tn k) := by rw [tabC, List.getElem?_map, List.getElem?_range hkn]; rfl
      obtain ⟨b5, o5, cs5, l5, rfl, rfl, hb5, hg5', ⟨rv, rfl, Lr⟩, hr5, ht5, hc5⟩ := (L1.ext E6).at_ (i := k) hrow (k := 1) rfl
      have c5 : cs5[o5 + k * 1]? = some rv := hc5 0 (by decide)
      obtain ⟨ra, rn, rc, rz, rfl, hrn⟩ := Lr.form
      have hrl : rn = tn + 1 := by rw [hrn]; simp [rowC]
      have hat : (rowC g.prods MS tn k)[t]? = some (a : Int) := by rw [rowC, List.getElem?_map, List.getElem?_range htn', ← hhd]; rfl
      obtain ⟨b7, o7, cs7, l7, rfl, rfl, hb7, hg7, rfl, hr7, ht7, hc7⟩ := Lr.at_ (i := t) hat (k := 1) rfl
      have c7 : cs7[o7 + t * 1]? = some (.int .i64 (a : Nat)) := hc7 0 (by decide)
      have r1 : ¬ (k : Int) < 0 := by omega
      have r2 : ¬ (k : Int) ≥ (nn : Int) := by omega
      have r3 : ¬ (t : Int) < 0 := by omega
      have r4 : ¬ (t : Int) > (tn : Int) := by omega
      have r5 : ¬ (a : Int) < 0 := by omega
      have r6 : ¬ (b : Int) ≤ (a : Int) := by omega
      have r7 : ¬ (b : Int) ≥ (pn : Int) := by omega
      have r8 : (a : Int) < (pn : Int) := by omega
      have r9 : (b : Int) < (pn : Int) := by omega
      have r10 : (k : Int) < (wn : Int) := by omega
      have r11 : (t : Int) < (rn : Int) := by omega
      refine DrawU_quiet (by rfl) ?_
      simp (disch := omega) only [go_sem, seval, g6, gx6, hg3, c3, c4, hg5', c5, hg7, c7, r1, r2, r3, r4, r5, r6, r7, r8, r9, r10, r11, Int.toNat_natCast, List.append_eq, List.cons_append, List.nil_append, List.toList_toArray]
      have eE : Ext h5 ((h6.bump 82).bump 57) := (E6.trans (Ext.bump _ _)).trans (Ext.bump _ _)
      by_cases hj0 : (j : Int) > 0
      · have hj1 : j - 1 < (claN g.prods MS tn nn).length := by omega
        have hjx' := List.getElem?_eq_getElem hj1
        obtain ⟨k', t', a', b', hx1, _⟩ := (claN_mem (List.getElem_mem hj1)).out
        have hlt' := List.pairwise_iff_getElem.1 (claN_up g.prods MS tn nn) (j - 1) j hj1 hjl (by omega)
        rw [hx1] at hjx' hlt'
        rw [hx0] at hlt'
        obtain ⟨b8, o8, cs8, l8, e8', _, hb8, hg8, rfl, hr8, ht8, hc8⟩ := (L2.ext ex).at_ (i := j - 1) hjx' (k := 4) rfl
        simp only [Option.some.injEq, Prod.mk.injEq] at e8'
        obtain ⟨rfl, rfl⟩ := e8'
        rw [hg1] at hg8
        simp only [Option.some.injEq, Blk.cells.injEq, and_true] at hg8
        obtain ⟨rfl, _⟩ := hg8
        have d0 : cs1[o1 + (j - 1) * 4]? = some (.int .i64 (k' : Nat)) := hc8 0 (by decide)
        have d1 : cs1[o1 + (j - 1) * 4 + 1]? = some (.int .i64 (t' : Nat)) := hc8 1 (by decide)
        have d3 : cs1[o1 + (j - 1) * 4 + 3]? = some (.int .i64 (b' : Nat)) := hc8 3 (by decide)
        have him : (j : Int) - 1 = ((j - 1 : Nat) : Int) := by omega
        have s1 : ((j - 1 : Nat) : Int) < (cn : Int) := by omega
        simp only [GCl.lt] at hlt'
        rcases hlt' with x1 | ⟨x1, x2 | ⟨x2, x3⟩⟩
        · have y1 : ¬ (k' : Int) > (k : Int) := by omega
          have y2 : ¬ (k' : Int) = (k : Int) := by omega
          refine DrawU_quiet (by rfl) ?_
          simp (disch := omega) only [go_sem, seval, hj0, g6, hg6, d0, him, s1, y1, y2, Int.toNat_natCast]
          exact AgainK.mk (cn - (j + 1)) (by simp only; omega) ⟨j + 1, by omega, rfl, eE, rfl, by simp [Has]⟩
        · have y1 : ¬ (k' : Int) > (k : Int) := by omega
          have y3 : ¬ (t' : Int) > (t : Int) := by omega
          have y4 : ¬ (t' : Int) = (t : Int) := by omega
          have y0 : ¬ (k : Int) > (k : Int) := by omega
          refine DrawU_quiet (by rfl) ?_
          simp (disch := omega) only [go_sem, seval, hj0, g6, hg6, d0, d1, him, s1, y1, y0, x1, y3, y4, Int.toNat_natCast]
          exact AgainK.mk (cn - (j + 1)) (by simp only; omega) ⟨j + 1, by omega, rfl, eE, rfl, by simp [Has]⟩
        · have y1 : ¬ (k' : Int) > (k : Int) := by omega
          have y3 : ¬ (t' : Int) > (t : Int) := by omega
          have y4 : ¬ (b' : Int) ≥ (b : Int) := by omega
          have y0 : ¬ (k : Int) > (k : Int) := by omega
          have y5 : ¬ (t : Int) > (t : Int) := by omega
          refine DrawU_quiet (by rfl) ?_
          simp (disch := omega) only [go_sem, seval, hj0, g6, hg6, d0, d1, d3, him, s1, y1, y0, y5, x1, y3, x2, y4, Int.toNat_natCast]
          exact AgainK.mk (cn - (j + 1)) (by simp only; omega) ⟨j + 1, by omega, rfl, eE, rfl, by simp [Has]⟩
      · skip
        refine DrawU_quiet (by rfl) ?_
        simp (disch := omega) only [go_sem, seval, hj0]
        exact AgainK.mk (cn - (j + 1)) (by simp only; omega) ⟨j + 1, by omega, rfl, eE, rfl, by simp [Has]⟩
    · simp (disch := omega) only [go_sem, seval, hltj]
      exact hQ _ _ rfl

theorem LlNone_law {h : Heap} {v : AV} {zs : List Int} (hn : h.nxt = 16) (hv : Slc h v 1 (zs.map fun z => [.int .u8 z])) (hb : ∀ z ∈ zs, IntKind.u8.min ≤ z ∧ z ≤ IntKind.u8.max) :
    WF T F 15 [v] h fun v' h' => v' = .bool true := by
  obtain ⟨l, _, L⟩ := bytes_lst hv hb
  exact (UF.less (frzV_le _ _) (LlNone_uf ((frzV_le h v).nxt.symm.trans hn) L)).toW

end Go.Proofs.Ytaockkmmjinhpaa
