/- What two rows begin with, one behind the other. For numbers (150) of which the grammar is made. -/
import Derived.Test.YtaockkmmjinhpaaFstH
import Derived.Test.YtaockkmmjinhpaaGBeg12
import Derived.KernelRfl
namespace Go.Proofs.Ytaockkmmjinhpaa
open Go Go.Am
set_option maxRecDepth 100000
set_option maxHeartbeats 4000000
set_option linter.unusedSimpArgs false
set_option linter.unusedVariables false

theorem FirstRow_uf {h : Heap} {v : AV} {l : List UInt8} {a b : UInt8} (hn : h.nxt = 16) (hv : Lst h v l) : UF T F 12 [v, .int .u8 (a.toNat : Nat), .int .u8 (b.toNat : Nat)] h fun v' _ => v' = .bool true := by
  obtain ⟨va, n, c, z, rfl, hln⟩ := hv.form
  refine UF.gen fun Q hQ => UF.of (F_12) (c := _) rfl ?_
  unfold Try.f12
  simp only [List.length, Nat.reduceSub, Nat.reduceAdd, List.replicate, List.cons_append, List.nil_append]
  simp (disch := first | ((try simp only [heapN]) <;> omega) | fail) only [go_sem, seval]
  refine callV_ofU F_34 rfl ((begun12_uf hn).mono ?_)
  rintro v1 h1 ⟨e1, rfl⟩
  simp (disch := first | ((try simp only [heapN]) <;> omega) | fail) only [go_sem, seval]
  by_cases h150 : (n : Int) > 150
  · simp (disch := first | ((try simp only [heapN]) <;> omega) | fail) only [go_sem, seval, h150]
    exact hQ _ _ rfl
  simp (disch := first | ((try simp only [heapN]) <;> omega) | fail) only [go_sem, seval, h150]
  refine callV_ofU F_25 rfl ((Made_uf (hv.ext e1)).mono ?_)
  rintro v2 h2 ⟨e2, rfl, P2⟩
  simp (disch := first | ((try simp only [heapN]) <;> omega) | fail) only [go_sem, seval]
  refine callV_ofU F_26 rfl ((Grammar_uf P2 (by omega)).mono ?_)
  rintro v3 h3 ⟨u3, g, ⟨ga, gb, gc, rfl, Lt, Ln, Lp⟩, M⟩
  simp (disch := first | ((try simp only [heapN]) <;> omega) | fail) only [go_sem, seval]
  have MM := M.may
  obtain ⟨ta, tn, tc, tz, rfl, htn⟩ := Lt.form
  obtain ⟨na, nn, nc, nz, rfl, hnn⟩ := Ln.form
  obtain ⟨pa, pn, pc, pz, rfl, hpn⟩ := Lp.form
  have hpl := MM.pl
  have hnl := MM.nl
  have htl := MM.tl
  simp (disch := first | ((try simp only [heapN]) <;> omega) | fail) only [go_sem, seval]
  have e4 : Ext h3 ((h3.add (.cells [.slc none 0 (some 0) 0, .slc none 0 (some 0) 0, .slc none 0 (some 0) 0] true)).put h3.nxt (.cells [.slc ta tn tc tz, .slc na nn nc nz, .slc pa pn pc pz] true)) := (Ext.add _ _).put (Nat.le_refl _)
  have g4 : ((h3.add (.cells [.slc none 0 (some 0) 0, .slc none 0 (some 0) 0, .slc none 0 (some 0) 0] true)).put h3.nxt (.cells [.slc ta tn tc tz, .slc na nn nc nz, .slc pa pn pc pz] true)).get h3.nxt = some (.cells [.slc ta tn tc tz, .slc na nn nc nz, .slc pa pn pc pz] true) := get_put_self
  have n4 : ((h3.add (.cells [.slc none 0 (some 0) 0, .slc none 0 (some 0) 0, .slc none 0 (some 0) 0] true)).put h3.nxt (.cells [.slc ta tn tc tz, .slc na nn nc nz, .slc pa pn pc pz] true)).nxt = h3.nxt + 1 := by simp
  generalize ((h3.add (.cells [.slc none 0 (some 0) 0, .slc none 0 (some 0) 0, .slc none 0 (some 0) 0] true)).put h3.nxt (.cells [.slc ta tn tc tz, .slc na nn nc nz, .slc pa pn pc pz] true)) = h4 at *
  obtain ⟨ia, hia⟩ : ∃ i, i = a.toNat % pn := ⟨_, rfl⟩
  obtain ⟨ib, hib⟩ : ∃ i, i = b.toNat % pn := ⟨_, rfl⟩
  have hial : ia < g.prods.length := by rw [hia, ← hpn]; exact Nat.mod_lt _ (by omega)
  have hibl : ib < g.prods.length := by rw [hib, ← hpn]; exact Nat.mod_lt _ (by omega)
  have ta1 : ((a.toNat : Nat) : Int).tmod (pn : Int) = (ia : Nat) := by rw [← Int.ofNat_tmod, ← hia]
  have tb1 : ((b.toNat : Nat) : Int).tmod (pn : Int) = (ib : Nat) := by rw [← Int.ofNat_tmod, ← hib]
  have hp0 : ¬ (pn : Int) = 0 := by omega
  have qa : (ia : Int) < (pn : Int) := by omega
  have qb : (ib : Int) < (pn : Int) := by omega
  have wa : IntKind.i64.wrap ((a.toNat : Nat) : Int) = (a.toNat : Nat) := by have := a.toNat_lt; exact wrap_i64 (by omega) (by omega)
  have wb : IntKind.i64.wrap ((b.toNat : Nat) : Int) = (b.toNat : Nat) := by have := b.toNat_lt; exact wrap_i64 (by omega) (by omega)
  obtain ⟨b1, o1, cs1, l1, rfl, rfl, hb1, hg1, ⟨ra, xa, rfl, sr1, sx1⟩, hr1, ht1, hc1⟩ := (Lp.ext e4).at_ (i := ia) (x := g.prods[ia]) (List.getElem?_eq_getElem hial) (k := 3) rfl
  obtain ⟨b2, o2, cs2, l2, e2', _, hb2, hg2, ⟨rb, xb, rfl, sr2, sx2⟩, hr2, ht2, hc2⟩ := (Lp.ext e4).at_ (i := ib) (x := g.prods[ib]) (List.getElem?_eq_getElem hibl) (k := 3) rfl
  simp only [Option.some.injEq, Prod.mk.injEq] at e2'
  obtain ⟨rfl, rfl⟩ := e2'
  rw [hg1] at hg2
  simp only [Option.some.injEq, Blk.cells.injEq, and_true] at hg2
  subst hg2
  have c1 : cs1[o1 + ia * 3 + 1]? = some ra := hc1 1 (by decide)
  have c2 : cs1[o1 + ib * 3 + 1]? = some rb := hc2 1 (by decide)
  obtain ⟨_, pa2, pa3⟩ := MM.pr g.prods[ia] (List.getElem_mem hial)
  obtain ⟨_, pb2, pb3⟩ := MM.pr g.prods[ib] (List.getElem_mem hibl)
  generalize g.prods[ia].right = x at *
  generalize g.prods[ib].right = y at *
  refine DrawU_quiet (by rfl) ?_
  simp (disch := first | ((try simp only [heapN]) <;> omega) | fail) only [go_sem, seval, g4, wa, wb, ta1, tb1, hp0, qa, qb, hg1, c1, c2, Int.toNat_natCast]
  obtain ⟨ra, rn, rc, rz, rfl, hrn⟩ := sr1.form
  obtain ⟨sa, sn, sc, sz, rfl, hsn⟩ := sr2.form
  refine callV_ofU F_41 rfl ((Row_uf ((Lt.ext e4).ext (Ext.bump _ _)) ((Ln.ext e4).ext (Ext.bump _ _)) ((Lp.ext e4).ext (Ext.bump _ _)) (sr1.ext (Ext.bump _ _)) MM pa3 (by omega)).mono ?_)
  rintro v5 h5 ⟨e5, w1, rfl, L5⟩
  have e45 := (Ext.bump h4 _).trans e5
  have g5 := (e45.get _ (by omega)).trans g4
  simp (disch := first | ((try simp only [heapN]) <;> omega) | fail) only [go_sem, seval, g5]
  refine callV_ofU F_41 rfl ((Row_uf ((Lt.ext e4).ext e45) ((Ln.ext e4).ext e45) ((Lp.ext e4).ext e45) (sr2.ext e45) MM pb3 (by omega)).mono ?_)
  rintro v6 h6 ⟨e6, w2, rfl, L6⟩
  have e46 := e45.trans e6
  have g6 := (e46.get _ (by omega)).trans g4
  have hn6 := e46.nxt
  simp (disch := first | ((try simp only [heapN]) <;> omega) | fail) only [go_sem, seval, g6]
  refine DrawU_of' (fun b => b = h3.nxt) [0, 0, 0, 6, 0, 30, 63, 127, 255, 255, 511, 2047] (by rfl) (by rfl) (fun b hb => by subst hb; omega) ?_
  simp (disch := first | ((try simp only [heapN]) <;> omega) | fail) only [go_sem, seval]
  refine LoadK_ofU rfl rfl ?_
  simp (disch := first | ((try simp only [heapN]) <;> omega) | fail) only [go_sem, seval, g6]
  have nA : ((h6.bump 12).put (h6.nxt + 1) (.cells [] true)).nxt = h6.nxt + 12 := by simp
  have eA : Ext h6 ((h6.bump 12).put (h6.nxt + 1) (.cells [] true)) := (Ext.bump _ _).put (by omega)
  generalize ((h6.bump 12).put (h6.nxt + 1) (.cells [] true)) = hA at *
  have sx := (sr1.ext e46).ext eA
  have sy := (sr2.ext e46).ext eA
  refine gappend (m := h6.nxt) (xs := ([] : List GSym)) (ys := x) T_60 rfl T_66 rfl (by decide) (by decide) (.inl ⟨[], .inl ⟨rfl, _, _, rfl, fun _ => rfl⟩, .nil⟩) sx.slc (by omega) (by simp [roomA]; omega) ?_
  intro v7 h7 G7 u7 b7
  rw [List.nil_append] at G7
  obtain ⟨xa', xn', xc', xz', rfl, hxn'⟩ := G7.form
  have e67 : Ext h6 h7 := (eA.upd fun _ => False).trans' u7 (fun b e hb => by simp [AV.blk] at e) |>.ext fun b hb f => f
  have hn7 := e67.nxt
  have ux := u7.pst
  simp (disch := first | ((try simp only [heapN]) <;> omega) | fail) only [go_sem, seval]
  refine ⟨fun b hb => by subst hb; exact e67.get _ (by omega), ?_⟩
  refine gappend (m := h6.nxt) (xs := x) (ys := y) T_60 rfl T_66 rfl (by decide) (by decide) G7 (sy.pst u7.pst).slc (by omega) (by simp [roomA]; omega) ?_
  intro v8 h8 G8 u8 b8
  obtain ⟨ya, yn, yc, yz, rfl, hyn⟩ := G8.form
  rw [List.length_append] at hyn
  have e68 : Ext h6 h8 := ((e67.upd (h6.nxt ≤ ·)).trans' u8 fun b e hb => G7.blk e).ext fun b hb => by omega
  have hn8 := e68.nxt
  simp (disch := first | ((try simp only [heapN]) <;> omega) | fail) only [go_sem, seval]
  refine ⟨fun b hb => by subst hb; exact (e68.get _ (by omega)).trans (e67.get _ (by omega)).symm, ?_⟩
  obtain ⟨h9, l9, n9, O9, u9⟩ := G8.frz
  have e69 : Ext h6 h9 := ((e68.upd (h6.nxt ≤ ·)).trans' u9 fun b e _ => e.1).ext fun b hb => by omega
  have e49 := e46.trans e69
  refine callV_ofU F_41 rfl ((UF.less l9 (Row_uf ((Lt.ext e4).ext e49) ((Ln.ext e4).ext e49) ((Lp.ext e4).ext e49) O9 MM (fun s hs => (List.mem_append.1 hs).elim (pa3 s) (pb3 s)) (by rw [List.length_append]; omega))).mono ?_)
  rintro v10 h10 ⟨e10, w3, rfl, L10⟩
  have e610 := e69.trans e10
  refine ⟨fun b hb => by subst hb; exact (e610.get _ (by omega)).trans (e68.get _ (by omega)).symm, ?_⟩
  have g10 := (e46.trans e610).get _ (by omega) |>.trans g4
  have L5' := (L5.ext e6).ext e610
  have L6' := L6.ext e610
  obtain ⟨A1, A2⟩ := rowL_app g x y
  have hf := rowL_len g x
  have hq := rowL_len g y
  have hz := rowL_len g (x ++ y)
  generalize rowL g (x ++ y) = Z at *
  generalize rowL g x = X at *
  generalize rowL g y = Y at *
  obtain ⟨X, p⟩ := X
  obtain ⟨Y, q⟩ := Y
  obtain ⟨Z, r⟩ := Z
  simp only at A1 A2 hf hq hz L5' L6' L10 ⊢
  subst A1
  obtain ⟨wa1, wn1, wc1, wz1, rfl, hwn1⟩ := L5'.form
  obtain ⟨wa2, wn2, wc2, wz2, rfl, hwn2⟩ := L6'.form
  obtain ⟨wa3, wn3, wc3, wz3, rfl, hwn3⟩ := L10.form
  have q1 : (wn1 : Int) = (tn : Int) := by omega
  have q2 : (wn2 : Int) = (tn : Int) := by omega
  have q3 : (wn3 : Int) = (tn : Int) := by omega
  simp (disch := first | ((try simp only [heapN]) <;> omega) | fail) only [go_sem, seval, q1, q2, q3, g10]
  obtain ⟨pp, hpp⟩ : ∃ pp, pp = p := ⟨_, rfl⟩
  cases p <;> cases q
  all_goals
    simp (disch := first | ((try simp only [heapN]) <;> omega) | fail) only [go_sem, seval]
    refine LoopU_while (fun m st hh => ∃ (i : Nat), i ≤ tn ∧ m = tn - i ∧ Ext h10 hh ∧ Keep st 121 [(10, .slc wa1 wn1 wc1 wz1), (11, .bool pp), (12, .slc wa2 wn2 wc2 wz2), (14, .slc wa3 wn3 wc3 wz3), (16, .int .i64 (i : Nat))]) tn
      ⟨0, by omega, by omega, Ext.refl _, rfl, by simp [Has, hpp]⟩ ?_
    subst hpp
    rintro m st hh ⟨i, hi, rfl, eh, hk⟩
    rw [hk.eq]
    obtain ⟨k10, k11, k12, k14, k16, -⟩ := hk.2
    simp only [slotsFrom, Nat.reduceAdd] at k10 k11 k12 k14 k16 ⊢
    simp only [k10, k11, k12, k14, k16]
    simp (disch := first | ((try simp only [heapN]) <;> omega) | fail) only [go_sem, seval]
    by_cases hlt : (i : Int) < (wn3 : Int)
    · have hit : i < tn := by omega
      have hA := A2 i (by omega)
      obtain ⟨b5, o5, cs5, l5, rfl, rfl, hb5, hg5, rfl, hr5, ht5, hc5⟩ := (L5'.ext eh).at_ (i := i) (x := X[i]) (List.getElem?_eq_getElem (by omega)) (k := 1) rfl
      obtain ⟨b6, o6, cs6, l6, rfl, rfl, hb6, hg6, rfl, hr6, ht6, hc6⟩ := (L6'.ext eh).at_ (i := i) (x := Y[i]) (List.getElem?_eq_getElem (by omega)) (k := 1) rfl
      obtain ⟨b7, o7, cs7, l7, rfl, rfl, hb7, hg7, rfl, hr7, ht7, hc7⟩ := (L10.ext eh).at_ (i := i) (x := Z[i]) (List.getElem?_eq_getElem (by omega)) (k := 1) rfl
      have c5 : cs5[o5 + i * 1]? = some (.bool X[i]) := hc5 0 (by decide)
      have c6 : cs6[o6 + i * 1]? = some (.bool Y[i]) := hc6 0 (by decide)
      have c7 : cs7[o7 + i * 1]? = some (.bool Z[i]) := hc7 0 (by decide)
      simp only [List.getD_eq_getElem?_getD, List.getElem?_eq_getElem (show i < X.length by omega), List.getElem?_eq_getElem (show i < Y.length by omega), List.getElem?_eq_getElem (show i < Z.length by omega), Option.getD_some] at hA
      have r1 : (i : Int) < (wn1 : Int) := by omega
      have r2 : (i : Int) < (wn2 : Int) := by omega
      generalize X[i] = xi at *
      generalize Y[i] = yi at *
      generalize Z[i] = zi at *
      subst hA
      simp (disch := first | ((try simp only [heapN]) <;> omega) | fail) only [go_sem, seval, hlt]
      cases xi <;> cases yi
      all_goals
        try simp only [Bool.or_false, Bool.false_or, Bool.true_and, Bool.false_and, Bool.true_or, Bool.or_true, Bool.and_true, Bool.and_false, Bool.or_self, Bool.and_self] at c7
        refine DrawU_quiet (by rfl) ?_
        simp (disch := first | ((try simp only [heapN]) <;> omega) | fail) only [go_sem, seval, hlt, r1, r2, hg5, hg6, hg7, c5, c6, c7, Int.toNat_natCast]
        exact AgainK.mk (tn - (i + 1)) (by simp only; omega) ⟨i + 1, by omega, rfl, eh.trans (Ext.bump _ _), rfl, by simp [Has]⟩
    · simp (disch := first | ((try simp only [heapN]) <;> omega) | fail) only [go_sem, seval, hlt]
      exact hQ _ _ rfl

theorem FirstRow_law {h : Heap} {v : AV} {zs : List Int} {a b : Int} (hn : h.nxt = 16) (hv : Slc h v 1 (zs.map fun z => [.int .u8 z])) (hb : ∀ z ∈ zs, IntKind.u8.min ≤ z ∧ z ≤ IntKind.u8.max) (w2 : (Lit.int .u8 a).wf = true) (w3 : (Lit.int .u8 b).wf = true) :
    WF T F 12 [v, .int .u8 a, .int .u8 b] h fun v' h' => v' = .bool true := by
  obtain ⟨l, _, L⟩ := bytes_lst hv hb
  obtain ⟨a, rfl⟩ := u8_lit w2
  obtain ⟨b, rfl⟩ := u8_lit w3
  exact (UF.less (frzV_le _ _) (FirstRow_uf ((frzV_le h v).nxt.symm.trans hn) L)).toW

end Go.Proofs.Ytaockkmmjinhpaa
