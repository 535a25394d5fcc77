/- What may begin, what may follow, what can be nothing. For numbers (150) of which the grammar is made, and each grammar of sums. -/
import Derived.Test.YtaockkmmjinhpaaSameB
import Derived.Test.YtaockkmmjinhpaaGBeg12
import Derived.KernelRfl
namespace Go.Proofs.Ytaockkmmjinhpaa
open Go Go.Am
set_option maxRecDepth 100000
set_option maxHeartbeats 4000000
set_option linter.unusedSimpArgs false
set_option linter.unusedVariables false

theorem lst_len {α : Type} [Rep α] {h : Heap} {a : Option (Nat × Nat)} {n z : Nat} {c : Option Nat} {xs : List α} (s : Lst h (.slc a n c z) xs) : n = xs.length := by
  obtain ⟨a', n', c', z', e, hn⟩ := s.form
  cases e
  exact hn

theorem FirstAll_uf {h : Heap} {v : AV} {l : List UInt8} {a : UInt8} (hn : h.nxt = 16) (hv : Lst h v l) : UF T F 9 [v, .int .u8 (a.toNat : Nat)] h fun v' _ => v' = .bool true := by
  obtain ⟨va, n, c, z, rfl, hln⟩ := hv.form
  refine UF.gen fun Q hQ => UF.of (F_9) (c := _) rfl ?_
  unfold Try.f9
  simp only [List.length, Nat.reduceSub, Nat.reduceAdd, List.replicate, List.cons_append, List.nil_append]
  simp (disch := first | ((try simp only [heapN]) <;> omega) | fail) only [go_sem, seval]
  refine callV_ofU F_34 rfl ((begun12_uf hn).mono ?_)
  rintro v1 h1 ⟨e1, rfl⟩
  simp (disch := first | ((try simp only [heapN]) <;> omega) | fail) only [go_sem, seval]
  by_cases h150 : (n : Int) > 150
  · simp (disch := first | ((try simp only [heapN]) <;> omega) | fail) only [go_sem, seval, h150]
    exact hQ _ _ rfl
  simp (disch := first | ((try simp only [heapN]) <;> omega) | fail) only [go_sem, seval, h150]
  refine callV_ofU F_25 rfl ((Made_uf (hv.ext e1)).mono ?_)
  rintro v2 h2 ⟨e2, rfl, P2⟩
  simp (disch := first | ((try simp only [heapN]) <;> omega) | fail) only [go_sem, seval]
  refine callV_ofU F_26 rfl ((Grammar_uf P2 (by omega)).mono ?_)
  rintro v3 h3 ⟨u3, g1, ⟨ga, gb, gc, rfl, Lt, Ln, Lp⟩, M⟩
  simp (disch := first | ((try simp only [heapN]) <;> omega) | fail) only [go_sem, seval]
  have M1 := M.may
  obtain ⟨ta, tn, tc, tz, rfl, htn0⟩ := Lt.form
  obtain ⟨na, nn, nc, nz, rfl, hnn0⟩ := Ln.form
  obtain ⟨pa, pn, pc, pz, rfl, hpn0⟩ := Lp.form
  have wa : IntKind.i64.wrap ((a.toNat : Nat) : Int) = (a.toNat : Nat) := by have := a.toNat_lt; exact wrap_i64 (by omega) (by omega)
  simp (disch := first | ((try simp only [heapN]) <;> omega) | fail) only [go_sem, seval, wa]
  refine callV_ofU F_27 rfl ((Sums_uf (w := a.toNat) a.toNat_lt).mono ?_)
  rintro v3' h3' ⟨e3', g2, ⟨gd, ge, gf, rfl, Lt2, Ln2, Lp2⟩, M2⟩
  obtain ⟨ta2, tn2, tc2, tz2, rfl, htn2⟩ := Lt2.form
  obtain ⟨na2, nn2, nc2, nz2, rfl, hnn2⟩ := Ln2.form
  obtain ⟨pa2, pn2, pc2, pz2, rfl, hpn2⟩ := Lp2.form
  simp (disch := first | ((try simp only [heapN]) <;> omega) | fail) only [go_sem, seval]
  obtain ⟨bL, hbL⟩ : ∃ bL, bL = h3'.nxt := ⟨_, rfl⟩
  have eL : Ext h3' (h3'.add (.cells [.slc ta tn tc tz, .slc na nn nc nz, .slc pa pn pc pz, .slc ta2 tn2 tc2 tz2, .slc na2 nn2 nc2 nz2, .slc pa2 pn2 pc2 pz2] true)) := Ext.add _ _
  have gL : (h3'.add (.cells [.slc ta tn tc tz, .slc na nn nc nz, .slc pa pn pc pz, .slc ta2 tn2 tc2 tz2, .slc na2 nn2 nc2 nz2, .slc pa2 pn2 pc2 pz2] true)).get h3'.nxt = some (.cells [.slc ta tn tc tz, .slc na nn nc nz, .slc pa pn pc pz, .slc ta2 tn2 tc2 tz2, .slc na2 nn2 nc2 nz2, .slc pa2 pn2 pc2 pz2] true) := get_add_self
  have nL : (h3'.add (.cells [.slc ta tn tc tz, .slc na nn nc nz, .slc pa pn pc pz, .slc ta2 tn2 tc2 tz2, .slc na2 nn2 nc2 nz2, .slc pa2 pn2 pc2 pz2] true)).nxt = h3'.nxt + 1 := by simp
  generalize (h3'.add (.cells [.slc ta tn tc tz, .slc na nn nc nz, .slc pa pn pc pz, .slc ta2 tn2 tc2 tz2, .slc na2 nn2 nc2 nz2, .slc pa2 pn2 pc2 pz2] true)) = hL at *
  rw [← hbL] at gL nL ⊢
  have X1 := (Lt.ext e3').ext eL
  have X2 := (Ln.ext e3').ext eL
  have X3 := (Lp.ext e3').ext eL
  have Y1 := Lt2.ext eL
  have Y2 := Ln2.ext eL
  have Y3 := Lp2.ext eL
  refine LoopU_while (fun m st hh => ∃ (i : Nat), i ≤ 2 ∧ m = 2 - i ∧ Ext hL hh ∧ Keep st 97 [(5, .slc (some (bL, 0)) 2 (some 2) 3), (6, .int .i64 (i : Nat))]) 2
    ⟨0, by omega, by omega, Ext.refl _, rfl, by simp [Has]⟩ ?_
  rintro m st hh ⟨i, hi, rfl, ex, hk⟩
  rw [hk.eq]
  obtain ⟨k5, k6, -⟩ := hk.2
  simp only [slotsFrom, Nat.reduceAdd] at k5 k6 ⊢
  simp only [k5, k6]
  have hi3 : i = 0 ∨ i = 1 ∨ i = 2 := by omega
  rcases hi3 with rfl | rfl | rfl
  · skip
    -- round k of the law: grammar g
    have LtH := (X1.ext ex)
    have LnH := (X2.ext ex)
    have LpH := (X3.ext ex)
    have htn := (lst_len LtH)
    have hnn := (lst_len LnH)
    have hpn := (lst_len LpH)
    have hpl := M1.pl
    have hnl := M1.nl
    have htl := M1.tl
    have gl := (ex.get _ (by omega)).trans gL
    have e4 : Ext hh ((hh.add (.cells [.slc none 0 (some 0) 0, .slc none 0 (some 0) 0, .slc none 0 (some 0) 0] true)).put hh.nxt (.cells [.slc ta tn tc tz, .slc na nn nc nz, .slc pa pn pc pz] true)) := (Ext.add _ _).put (Nat.le_refl _)
    have g4 : ((hh.add (.cells [.slc none 0 (some 0) 0, .slc none 0 (some 0) 0, .slc none 0 (some 0) 0] true)).put hh.nxt (.cells [.slc ta tn tc tz, .slc na nn nc nz, .slc pa pn pc pz] true)).get hh.nxt = some (.cells [.slc ta tn tc tz, .slc na nn nc nz, .slc pa pn pc pz] true) := get_put_self
    have n4 : ((hh.add (.cells [.slc none 0 (some 0) 0, .slc none 0 (some 0) 0, .slc none 0 (some 0) 0] true)).put hh.nxt (.cells [.slc ta tn tc tz, .slc na nn nc nz, .slc pa pn pc pz] true)).nxt = hh.nxt + 1 := by simp
    simp (disch := first | ((try simp only [heapN]) <;> omega) | fail) only [go_sem, seval, gl]
    generalize ((hh.add (.cells [.slc none 0 (some 0) 0, .slc none 0 (some 0) 0, .slc none 0 (some 0) 0] true)).put hh.nxt (.cells [.slc ta tn tc tz, .slc na nn nc nz, .slc pa pn pc pz] true)) = h4 at *
    have hnh := ex.nxt
    refine callV_ofU F_35 rfl ((Reckon_uf (LtH.ext e4) (LnH.ext e4) (LpH.ext e4) M1).mono ?_)
    rintro v5 h5 ⟨e5, nb, fv, ov, bl1, bl2, fo, rfl, BN, T1, T2, FO⟩
    obtain ⟨fa, fn, fc, fz, rfl, _⟩ := T1.lst.form
    obtain ⟨oa, on, oc, oz, rfl, _⟩ := T2.lst.form
    have hn5 := e5.nxt
    have g5 := (e5.get _ (by omega)).trans g4
    have hul := nulL_len (g1).nts.length (g1).prods
    obtain ⟨un, hun⟩ : ∃ un, un = (nulL (g1).nts.length (g1).prods).length := ⟨_, rfl⟩
    rw [← hun] at BN ⊢
    have e6 : Ext h5 ((h5.add (.cells [.slc none 0 (some 0) 0, .slc none 0 (some 0) 0, .slc none 0 (some 0) 0] true)).put h5.nxt (.cells [.slc (some (nb, 0)) un (some un) 1, .slc fa fn fc fz, .slc oa on oc oz] true)) := (Ext.add _ _).put (Nat.le_refl _)
    have g6 : ((h5.add (.cells [.slc none 0 (some 0) 0, .slc none 0 (some 0) 0, .slc none 0 (some 0) 0] true)).put h5.nxt (.cells [.slc (some (nb, 0)) un (some un) 1, .slc fa fn fc fz, .slc oa on oc oz] true)).get h5.nxt = some (.cells [.slc (some (nb, 0)) un (some un) 1, .slc fa fn fc fz, .slc oa on oc oz] true) := get_put_self
    have n6 : ((h5.add (.cells [.slc none 0 (some 0) 0, .slc none 0 (some 0) 0, .slc none 0 (some 0) 0] true)).put h5.nxt (.cells [.slc (some (nb, 0)) un (some un) 1, .slc fa fn fc fz, .slc oa on oc oz] true)).nxt = h5.nxt + 1 := by simp
    simp (disch := first | ((try simp only [heapN]) <;> omega) | fail) only [go_sem, seval]
    generalize ((h5.add (.cells [.slc none 0 (some 0) 0, .slc none 0 (some 0) 0, .slc none 0 (some 0) 0] true)).put h5.nxt (.cells [.slc (some (nb, 0)) un (some un) 1, .slc fa fn fc fz, .slc oa on oc oz] true)) = h6 at *
    have g46 := (e6.get hh.nxt (by omega)).trans g5
    have x6 := (e4.trans e5).trans e6
    have R1 := firL_rows M1
    refine DrawU_of' (fun b => b = hh.nxt ∨ b = h5.nxt) [0, 1, 0, 4, 15, 31, 63, 127, 255, 127, 639, 2047, 4095, 8191, 16383, 32767, 65535, 32767, 163839, 524287, 1048575, 2097151] (by rfl) (by rfl) (fun b hb => by rcases hb with rfl | rfl <;> omega) ?_
    simp (disch := first | ((try simp only [heapN]) <;> omega) | fail) only [go_sem, seval]
    refine LoadK_ofU rfl (.inl rfl) ?_
    simp (disch := first | ((try simp only [heapN]) <;> omega) | fail) only [go_sem, seval, g46]
    refine callV_ofU F_37 rfl ((Nullable_uf ((LtH.ext x6).ext (Ext.bump _ _)) ((LnH.ext x6).ext (Ext.bump _ _)) ((LpH.ext x6).ext (Ext.bump _ _)) M1).mono ?_)
    rintro v7 h7 ⟨e7, N7⟩
    have e67 := (Ext.bump h6 _).trans e7
    have hn7 := e67.nxt
    have g47 := (e67.get hh.nxt (by omega)).trans g46
    have g67 := (e67.get h5.nxt (by omega)).trans g6
    refine ⟨fun b hb => e67.get b (by rcases hb with rfl | rfl <;> omega), ?_⟩
    simp (disch := first | ((try simp only [heapN]) <;> omega) | fail) only [go_sem, seval]
    refine LoadK_ofU rfl (.inr rfl) ?_
    simp (disch := first | ((try simp only [heapN]) <;> omega) | fail) only [go_sem, seval, g67]
    have BN7 := (BN.ext e6).ext e67
    refine callV_ofU F_36 rfl ((sameRow_uf (rdB_lst N7) (rdB_bits (by rw [hun] at BN7 ⊢; exact BN7)) (by omega)).mono ?_)
    rintro v8 h8 ⟨e8, rfl⟩
    have hn8 := e8.nxt
    have g48 := (e8.get hh.nxt (by omega)).trans g47
    have g68 := (e8.get h5.nxt (by omega)).trans g67
    refine ⟨fun b hb => e8.get b (by rcases hb with rfl | rfl <;> omega), ?_⟩
    simp (disch := first | ((try simp only [heapN]) <;> omega) | fail) only [go_sem, seval]
    refine LoadK_ofU rfl (.inl rfl) ?_
    simp (disch := first | ((try simp only [heapN]) <;> omega) | fail) only [go_sem, seval, g48]
    have x8 := (x6.trans e67).trans e8
    refine callV_ofU F_39 rfl ((First_uf (LtH.ext x8) (LnH.ext x8) (LpH.ext x8) M1).mono ?_)
    rintro v9 h9 ⟨e9, fb, blF, rfl, tbF, _, _⟩
    have hn9 := e9.nxt
    have g49 := (e9.get hh.nxt (by omega)).trans g48
    have g69 := (e9.get h5.nxt (by omega)).trans g68
    refine ⟨fun b hb => e9.get b (by rcases hb with rfl | rfl <;> omega), ?_⟩
    simp (disch := first | ((try simp only [heapN]) <;> omega) | fail) only [go_sem, seval]
    refine LoadK_ofU rfl (.inr rfl) ?_
    simp (disch := first | ((try simp only [heapN]) <;> omega) | fail) only [go_sem, seval, g69]
    have x59 := ((e6.trans e67).trans e8).trans e9
    refine callV_ofU F_38 rfl ((sameRows_uf (rdT_tbl tbF R1.len.symm) (rdT_tbL (T1.ext x59)) (by rw [R1.len]; omega) (fun r hr => by rw [R1.row r hr]; omega)).mono ?_)
    rintro v10 h10 ⟨e10, rfl⟩
    have hn10 := e10.nxt
    have g410 := (e10.get hh.nxt (by omega)).trans g49
    have g610 := (e10.get h5.nxt (by omega)).trans g69
    refine ⟨fun b hb => e10.get b (by rcases hb with rfl | rfl <;> omega), ?_⟩
    simp (disch := first | ((try simp only [heapN]) <;> omega) | fail) only [go_sem, seval]
    refine LoadK_ofU rfl (.inl rfl) ?_
    simp (disch := first | ((try simp only [heapN]) <;> omega) | fail) only [go_sem, seval, g410]
    have x10 := (x8.trans e9).trans e10
    refine callV_ofU F_40 rfl ((Follow_uf (LtH.ext x10) (LnH.ext x10) (LpH.ext x10) M1).mono ?_)
    rintro v11 h11 ⟨e11, ob, blO, fo2, rfl, tbO, FO2, _, _⟩
    have hn11 := e11.nxt
    have g411 := (e11.get hh.nxt (by omega)).trans g410
    have g611 := (e11.get h5.nxt (by omega)).trans g610
    have hfo : fo2 = fo := FO2.unique FO
    subst hfo
    refine ⟨fun b hb => e11.get b (by rcases hb with rfl | rfl <;> omega), ?_⟩
    simp (disch := first | ((try simp only [heapN]) <;> omega) | fail) only [go_sem, seval]
    refine LoadK_ofU rfl (.inr rfl) ?_
    simp (disch := first | ((try simp only [heapN]) <;> omega) | fail) only [go_sem, seval, g611]
    have x511 := (x59.trans e10).trans e11
    refine callV_ofU F_38 rfl ((sameRows_uf (rdT_tbl tbO FO.rows.len.symm) (rdT_tbL (T2.ext x511)) (by rw [FO.rows.len]; omega) (fun r hr => by rw [FO.rows.row r hr]; omega)).mono ?_)
    rintro v12 h12 ⟨e12, rfl⟩
    have hn12 := e12.nxt
    have g412 := (e12.get hh.nxt (by omega)).trans g411
    have g612 := (e12.get h5.nxt (by omega)).trans g611
    refine ⟨fun b hb => e12.get b (by rcases hb with rfl | rfl <;> omega), ?_⟩
    simp (disch := first | ((try simp only [heapN]) <;> omega) | fail) only [go_sem, seval]
    have x12 := (x10.trans e11).trans e12
    have x512 := x511.trans e12
    refine LoopU_while (fun m st hx => ∃ (j : Nat), j ≤ pn ∧ m = pn - j ∧ Ext h12 hx ∧ Keep st 97 [(5, .slc (some (bL, 0)) 2 (some 2) 3), (6, .int .i64 0), (7, .ptr (some (hh.nxt, 0))), (8, .ptr (some (h5.nxt, 0))), (9, .int .i64 (j : Nat))]) pn
      ⟨0, by omega, by omega, Ext.refl _, rfl, by simp [Has]⟩ ?_
    clear hk
    rintro m st hx ⟨j, hj, rfl, ey, hk⟩
    rw [hk.eq]
    obtain ⟨k5, k6, k7, k8, k9, -⟩ := hk.2
    simp only [slotsFrom, Nat.reduceAdd] at k5 k6 k7 k8 k9 ⊢
    simp only [k5, k6, k7, k8, k9]
    have hny := ey.nxt
    have g4x := (ey.get hh.nxt (by omega)).trans g412
    have g6x := (ey.get h5.nxt (by omega)).trans g612
    have xx := x12.trans ey
    by_cases hltj : (j : Int) < (pn : Int)
    · have hjl : j < (g1).prods.length := by omega
      obtain ⟨b1, o1, cs1, l1, eq1, _, hb1, hg1, ⟨ra, xa, rfl, sr, sx⟩, hr1, ht1, hc1⟩ := (LpH.ext xx).at_ (i := j) (x := (g1).prods[j]) (List.getElem?_eq_getElem hjl) (k := 3) rfl
      subst eq1
      have c1 : cs1[o1 + j * 3 + 1]? = some ra := hc1 1 (by decide)
      obtain ⟨_, q3, q4⟩ := M1.pr (g1).prods[j] (List.getElem_mem hjl)
      generalize (g1).prods[j] = p at *
      obtain ⟨ra, rn, rc, rz, rfl, hrn⟩ := sr.form
      simp (disch := first | ((try simp only [heapN]) <;> omega) | fail) only [go_sem, seval, g4x, hltj]
      refine DrawU_of' (fun b => b = hh.nxt ∨ b = b1) [0, 0, 2, 0, 14, 30, 62, 127, 255, 511, 511, 1023, 4095] (by rfl) (by rfl) (fun b hb => by rcases hb with rfl | rfl <;> omega) ?_
      simp (disch := first | ((try simp only [heapN]) <;> omega) | fail) only [go_sem, seval]
      refine LoadK_ofU rfl (.inl rfl) ?_
      simp (disch := first | ((try simp only [heapN]) <;> omega) | fail) only [go_sem, seval, g4x]
      refine LoadK_ofU rfl (.inl rfl) ?_
      simp (disch := first | ((try simp only [heapN]) <;> omega) | fail) only [go_sem, seval, g4x, hltj]
      refine LoadK_ofU rfl (.inr rfl) ?_
      simp (disch := first | ((try simp only [heapN]) <;> omega) | fail) only [go_sem, seval, hg1, c1, Int.toNat_natCast]
      refine callV_ofU F_41 rfl ((Row_uf ((LtH.ext xx).ext (Ext.bump _ _)) ((LnH.ext xx).ext (Ext.bump _ _)) ((LpH.ext xx).ext (Ext.bump _ _)) (sr.ext (Ext.bump _ _)) M1 q4 (by omega)).mono ?_)
      rintro v13 h13 ⟨e13, w1, rfl, L13, _⟩
      have e13' := (Ext.bump hx _).trans e13
      have hn13 := e13'.nxt
      have g413 := (e13'.get hh.nxt (by omega)).trans g4x
      have g613 := (e13'.get h5.nxt (by omega)).trans g6x
      have g113 := (e13'.get b1 (by omega)).trans hg1
      refine ⟨fun b hb => e13'.get b (by rcases hb with rfl | rfl <;> omega), ?_⟩
      simp (disch := first | ((try simp only [heapN]) <;> omega) | fail) only [go_sem, seval]
      refine DrawU_of' (fun b => b = hh.nxt ∨ b = h5.nxt ∨ b = b1) [0, 0, 0, 4, 0, 28, 60, 124, 255, 511, 1023, 1023, 2047, 8191] (by rfl) (by rfl) (fun b hb => by rcases hb with rfl | rfl | rfl <;> omega) ?_
      simp (disch := first | ((try simp only [heapN]) <;> omega) | fail) only [go_sem, seval]
      refine LoadK_ofU rfl (.inr (.inl rfl)) ?_
      simp (disch := first | ((try simp only [heapN]) <;> omega) | fail) only [go_sem, seval, g613]
      refine LoadK_ofU rfl (.inl rfl) ?_
      simp (disch := first | ((try simp only [heapN]) <;> omega) | fail) only [go_sem, seval, g413]
      refine LoadK_ofU rfl (.inl rfl) ?_
      simp (disch := first | ((try simp only [heapN]) <;> omega) | fail) only [go_sem, seval, g413, hltj]
      refine LoadK_ofU rfl (.inr (.inr rfl)) ?_
      simp (disch := first | ((try simp only [heapN]) <;> omega) | fail) only [go_sem, seval, g113, c1, Int.toNat_natCast]
      have x13 := xx.trans e13'
      have y13 := (x512.trans ey).trans e13'
      have BN13 := (BN.ext y13)
      have w42 := RRow_uf (nb := nb) (nu := nulL (g1).nts.length (g1).prods) (fi := firL (g1).toks.length (g1).nts.length (g1).prods) (ov := .slc oa on oc oz) ((LtH.ext x13).ext (Ext.bump h13 14)) ((LnH.ext x13).ext (Ext.bump h13 14)) ((LpH.ext x13).ext (Ext.bump h13 14)) (by rw [← hun]; exact BN13.ext (Ext.bump h13 14)) ((T1.ext y13).ext (Ext.bump h13 14)) ⟨_, _, _, _, rfl⟩ ((sr.ext e13').ext (Ext.bump h13 14)) hul R1.len q4 (by omega) M1
      rw [← hun] at w42
      refine callV_ofU F_42 rfl (w42.mono ?_)
      rintro v14 h14 ⟨e14, w2, rfl, L14⟩
      have e14' := (Ext.bump h13 14).trans e14
      have hn14 := e14'.nxt
      refine ⟨fun b hb => e14'.get b (by rcases hb with rfl | rfl | rfl <;> omega), ?_⟩
      have ebl : begL (g1).toks.length (nulL (g1).nts.length (g1).prods) (firL (g1).toks.length (g1).nts.length (g1).prods) p.right = rowL g1 p.right := rfl
      rw [ebl] at L14 ⊢
      have hrl := rowL_len g1 p.right
      simp (disch := first | ((try simp only [heapN]) <;> omega) | fail) only [go_sem, seval]
      refine callV_ofU F_36 rfl ((sameRow_uf (rdB_lst (L13.ext e14')) (rdB_lst L14) (by omega)).mono ?_)
      rintro v15 h15 ⟨e15, rfl⟩
      have y15 := (e13'.trans e14').trans e15
      cases (rowL g1 p.right).2 <;>
      · simp (disch := first | ((try simp only [heapN]) <;> omega) | fail) only [go_sem, seval]
        exact AgainK.mk (pn - (j + 1)) (by simp only; omega) ⟨j + 1, by omega, rfl, ey.trans y15, rfl, by simp [Has]⟩
    · simp (disch := first | ((try simp only [heapN]) <;> omega) | fail) only [go_sem, seval, g4x, hltj]
      exact AgainK.mk (2 - (0 + 1)) (by simp only; omega) ⟨0 + 1, by omega, rfl, ex.trans xx, rfl, by simp [Has]⟩
  · skip
    -- round k of the law: grammar g
    have LtH := (Y1.ext ex)
    have LnH := (Y2.ext ex)
    have LpH := (Y3.ext ex)
    have htn := (lst_len LtH)
    have hnn := (lst_len LnH)
    have hpn := (lst_len LpH)
    have hpl := M2.pl
    have hnl := M2.nl
    have htl := M2.tl
    have gl := (ex.get _ (by omega)).trans gL
    have e4 : Ext hh ((hh.add (.cells [.slc none 0 (some 0) 0, .slc none 0 (some 0) 0, .slc none 0 (some 0) 0] true)).put hh.nxt (.cells [.slc ta2 tn2 tc2 tz2, .slc na2 nn2 nc2 nz2, .slc pa2 pn2 pc2 pz2] true)) := (Ext.add _ _).put (Nat.le_refl _)
    have g4 : ((hh.add (.cells [.slc none 0 (some 0) 0, .slc none 0 (some 0) 0, .slc none 0 (some 0) 0] true)).put hh.nxt (.cells [.slc ta2 tn2 tc2 tz2, .slc na2 nn2 nc2 nz2, .slc pa2 pn2 pc2 pz2] true)).get hh.nxt = some (.cells [.slc ta2 tn2 tc2 tz2, .slc na2 nn2 nc2 nz2, .slc pa2 pn2 pc2 pz2] true) := get_put_self
    have n4 : ((hh.add (.cells [.slc none 0 (some 0) 0, .slc none 0 (some 0) 0, .slc none 0 (some 0) 0] true)).put hh.nxt (.cells [.slc ta2 tn2 tc2 tz2, .slc na2 nn2 nc2 nz2, .slc pa2 pn2 pc2 pz2] true)).nxt = hh.nxt + 1 := by simp
    simp (disch := first | ((try simp only [heapN]) <;> omega) | fail) only [go_sem, seval, gl]
    generalize ((hh.add (.cells [.slc none 0 (some 0) 0, .slc none 0 (some 0) 0, .slc none 0 (some 0) 0] true)).put hh.nxt (.cells [.slc ta2 tn2 tc2 tz2, .slc na2 nn2 nc2 nz2, .slc pa2 pn2 pc2 pz2] true)) = h4 at *
    have hnh := ex.nxt
    refine callV_ofU F_35 rfl ((Reckon_uf (LtH.ext e4) (LnH.ext e4) (LpH.ext e4) M2).mono ?_)
    rintro v5 h5 ⟨e5, nb, fv, ov, bl1, bl2, fo, rfl, BN, T1, T2, FO⟩
    obtain ⟨fa, fn, fc, fz, rfl, _⟩ := T1.lst.form
    obtain ⟨oa, on, oc, oz, rfl, _⟩ := T2.lst.form
    have hn5 := e5.nxt
    have g5 := (e5.get _ (by omega)).trans g4
    have hul := nulL_len (g2).nts.length (g2).prods
    obtain ⟨un, hun⟩ : ∃ un, un = (nulL (g2).nts.length (g2).prods).length := ⟨_, rfl⟩
    rw [← hun] at BN ⊢
    have e6 : Ext h5 ((h5.add (.cells [.slc none 0 (some 0) 0, .slc none 0 (some 0) 0, .slc none 0 (some 0) 0] true)).put h5.nxt (.cells [.slc (some (nb, 0)) un (some un) 1, .slc fa fn fc fz, .slc oa on oc oz] true)) := (Ext.add _ _).put (Nat.le_refl _)
    have g6 : ((h5.add (.cells [.slc none 0 (some 0) 0, .slc none 0 (some 0) 0, .slc none 0 (some 0) 0] true)).put h5.nxt (.cells [.slc (some (nb, 0)) un (some un) 1, .slc fa fn fc fz, .slc oa on oc oz] true)).get h5.nxt = some (.cells [.slc (some (nb, 0)) un (some un) 1, .slc fa fn fc fz, .slc oa on oc oz] true) := get_put_self
    have n6 : ((h5.add (.cells [.slc none 0 (some 0) 0, .slc none 0 (some 0) 0, .slc none 0 (some 0) 0] true)).put h5.nxt (.cells [.slc (some (nb, 0)) un (some un) 1, .slc fa fn fc fz, .slc oa on oc oz] true)).nxt = h5.nxt + 1 := by simp
    simp (disch := first | ((try simp only [heapN]) <;> omega) | fail) only [go_sem, seval]
    generalize ((h5.add (.cells [.slc none 0 (some 0) 0, .slc none 0 (some 0) 0, .slc none 0 (some 0) 0] true)).put h5.nxt (.cells [.slc (some (nb, 0)) un (some un) 1, .slc fa fn fc fz, .slc oa on oc oz] true)) = h6 at *
    have g46 := (e6.get hh.nxt (by omega)).trans g5
    have x6 := (e4.trans e5).trans e6
    have R1 := firL_rows M2
    refine DrawU_of' (fun b => b = hh.nxt ∨ b = h5.nxt) [0, 1, 0, 4, 15, 31, 63, 127, 255, 127, 639, 2047, 4095, 8191, 16383, 32767, 65535, 32767, 163839, 524287, 1048575, 2097151] (by rfl) (by rfl) (fun b hb => by rcases hb with rfl | rfl <;> omega) ?_
    simp (disch := first | ((try simp only [heapN]) <;> omega) | fail) only [go_sem, seval]
    refine LoadK_ofU rfl (.inl rfl) ?_
    simp (disch := first | ((try simp only [heapN]) <;> omega) | fail) only [go_sem, seval, g46]
    refine callV_ofU F_37 rfl ((Nullable_uf ((LtH.ext x6).ext (Ext.bump _ _)) ((LnH.ext x6).ext (Ext.bump _ _)) ((LpH.ext x6).ext (Ext.bump _ _)) M2).mono ?_)
    rintro v7 h7 ⟨e7, N7⟩
    have e67 := (Ext.bump h6 _).trans e7
    have hn7 := e67.nxt
    have g47 := (e67.get hh.nxt (by omega)).trans g46
    have g67 := (e67.get h5.nxt (by omega)).trans g6
    refine ⟨fun b hb => e67.get b (by rcases hb with rfl | rfl <;> omega), ?_⟩
    simp (disch := first | ((try simp only [heapN]) <;> omega) | fail) only [go_sem, seval]
    refine LoadK_ofU rfl (.inr rfl) ?_
    simp (disch := first | ((try simp only [heapN]) <;> omega) | fail) only [go_sem, seval, g67]
    have BN7 := (BN.ext e6).ext e67
    refine callV_ofU F_36 rfl ((sameRow_uf (rdB_lst N7) (rdB_bits (by rw [hun] at BN7 ⊢; exact BN7)) (by omega)).mono ?_)
    rintro v8 h8 ⟨e8, rfl⟩
    have hn8 := e8.nxt
    have g48 := (e8.get hh.nxt (by omega)).trans g47
    have g68 := (e8.get h5.nxt (by omega)).trans g67
    refine ⟨fun b hb => e8.get b (by rcases hb with rfl | rfl <;> omega), ?_⟩
    simp (disch := first | ((try simp only [heapN]) <;> omega) | fail) only [go_sem, seval]
    refine LoadK_ofU rfl (.inl rfl) ?_
    simp (disch := first | ((try simp only [heapN]) <;> omega) | fail) only [go_sem, seval, g48]
    have x8 := (x6.trans e67).trans e8
    refine callV_ofU F_39 rfl ((First_uf (LtH.ext x8) (LnH.ext x8) (LpH.ext x8) M2).mono ?_)
    rintro v9 h9 ⟨e9, fb, blF, rfl, tbF, _, _⟩
    have hn9 := e9.nxt
    have g49 := (e9.get hh.nxt (by omega)).trans g48
    have g69 := (e9.get h5.nxt (by omega)).trans g68
    refine ⟨fun b hb => e9.get b (by rcases hb with rfl | rfl <;> omega), ?_⟩
    simp (disch := first | ((try simp only [heapN]) <;> omega) | fail) only [go_sem, seval]
    refine LoadK_ofU rfl (.inr rfl) ?_
    simp (disch := first | ((try simp only [heapN]) <;> omega) | fail) only [go_sem, seval, g69]
    have x59 := ((e6.trans e67).trans e8).trans e9
    refine callV_ofU F_38 rfl ((sameRows_uf (rdT_tbl tbF R1.len.symm) (rdT_tbL (T1.ext x59)) (by rw [R1.len]; omega) (fun r hr => by rw [R1.row r hr]; omega)).mono ?_)
    rintro v10 h10 ⟨e10, rfl⟩
    have hn10 := e10.nxt
    have g410 := (e10.get hh.nxt (by omega)).trans g49
    have g610 := (e10.get h5.nxt (by omega)).trans g69
    refine ⟨fun b hb => e10.get b (by rcases hb with rfl | rfl <;> omega), ?_⟩
    simp (disch := first | ((try simp only [heapN]) <;> omega) | fail) only [go_sem, seval]
    refine LoadK_ofU rfl (.inl rfl) ?_
    simp (disch := first | ((try simp only [heapN]) <;> omega) | fail) only [go_sem, seval, g410]
    have x10 := (x8.trans e9).trans e10
    refine callV_ofU F_40 rfl ((Follow_uf (LtH.ext x10) (LnH.ext x10) (LpH.ext x10) M2).mono ?_)
    rintro v11 h11 ⟨e11, ob, blO, fo2, rfl, tbO, FO2, _, _⟩
    have hn11 := e11.nxt
    have g411 := (e11.get hh.nxt (by omega)).trans g410
    have g611 := (e11.get h5.nxt (by omega)).trans g610
    have hfo : fo2 = fo := FO2.unique FO
    subst hfo
    refine ⟨fun b hb => e11.get b (by rcases hb with rfl | rfl <;> omega), ?_⟩
    simp (disch := first | ((try simp only [heapN]) <;> omega) | fail) only [go_sem, seval]
    refine LoadK_ofU rfl (.inr rfl) ?_
    simp (disch := first | ((try simp only [heapN]) <;> omega) | fail) only [go_sem, seval, g611]
    have x511 := (x59.trans e10).trans e11
    refine callV_ofU F_38 rfl ((sameRows_uf (rdT_tbl tbO FO.rows.len.symm) (rdT_tbL (T2.ext x511)) (by rw [FO.rows.len]; omega) (fun r hr => by rw [FO.rows.row r hr]; omega)).mono ?_)
    rintro v12 h12 ⟨e12, rfl⟩
    have hn12 := e12.nxt
    have g412 := (e12.get hh.nxt (by omega)).trans g411
    have g612 := (e12.get h5.nxt (by omega)).trans g611
    refine ⟨fun b hb => e12.get b (by rcases hb with rfl | rfl <;> omega), ?_⟩
    simp (disch := first | ((try simp only [heapN]) <;> omega) | fail) only [go_sem, seval]
    have x12 := (x10.trans e11).trans e12
    have x512 := x511.trans e12
    refine LoopU_while (fun m st hx => ∃ (j : Nat), j ≤ pn2 ∧ m = pn2 - j ∧ Ext h12 hx ∧ Keep st 97 [(5, .slc (some (bL, 0)) 2 (some 2) 3), (6, .int .i64 1), (7, .ptr (some (hh.nxt, 0))), (8, .ptr (some (h5.nxt, 0))), (9, .int .i64 (j : Nat))]) pn2
      ⟨0, by omega, by omega, Ext.refl _, rfl, by simp [Has]⟩ ?_
    clear hk
    rintro m st hx ⟨j, hj, rfl, ey, hk⟩
    rw [hk.eq]
    obtain ⟨k5, k6, k7, k8, k9, -⟩ := hk.2
    simp only [slotsFrom, Nat.reduceAdd] at k5 k6 k7 k8 k9 ⊢
    simp only [k5, k6, k7, k8, k9]
    have hny := ey.nxt
    have g4x := (ey.get hh.nxt (by omega)).trans g412
    have g6x := (ey.get h5.nxt (by omega)).trans g612
    have xx := x12.trans ey
    by_cases hltj : (j : Int) < (pn2 : Int)
    · have hjl : j < (g2).prods.length := by omega
      obtain ⟨b1, o1, cs1, l1, eq1, _, hb1, hg1, ⟨ra, xa, rfl, sr, sx⟩, hr1, ht1, hc1⟩ := (LpH.ext xx).at_ (i := j) (x := (g2).prods[j]) (List.getElem?_eq_getElem hjl) (k := 3) rfl
      subst eq1
      have c1 : cs1[o1 + j * 3 + 1]? = some ra := hc1 1 (by decide)
      obtain ⟨_, q3, q4⟩ := M2.pr (g2).prods[j] (List.getElem_mem hjl)
      generalize (g2).prods[j] = p at *
      obtain ⟨ra, rn, rc, rz, rfl, hrn⟩ := sr.form
      simp (disch := first | ((try simp only [heapN]) <;> omega) | fail) only [go_sem, seval, g4x, hltj]
      refine DrawU_of' (fun b => b = hh.nxt ∨ b = b1) [0, 0, 2, 0, 14, 30, 62, 127, 255, 511, 511, 1023, 4095] (by rfl) (by rfl) (fun b hb => by rcases hb with rfl | rfl <;> omega) ?_
      simp (disch := first | ((try simp only [heapN]) <;> omega) | fail) only [go_sem, seval]
      refine LoadK_ofU rfl (.inl rfl) ?_
      simp (disch := first | ((try simp only [heapN]) <;> omega) | fail) only [go_sem, seval, g4x]
      refine LoadK_ofU rfl (.inl rfl) ?_
      simp (disch := first | ((try simp only [heapN]) <;> omega) | fail) only [go_sem, seval, g4x, hltj]
      refine LoadK_ofU rfl (.inr rfl) ?_
      simp (disch := first | ((try simp only [heapN]) <;> omega) | fail) only [go_sem, seval, hg1, c1, Int.toNat_natCast]
      refine callV_ofU F_41 rfl ((Row_uf ((LtH.ext xx).ext (Ext.bump _ _)) ((LnH.ext xx).ext (Ext.bump _ _)) ((LpH.ext xx).ext (Ext.bump _ _)) (sr.ext (Ext.bump _ _)) M2 q4 (by omega)).mono ?_)
      rintro v13 h13 ⟨e13, w1, rfl, L13, _⟩
      have e13' := (Ext.bump hx _).trans e13
      have hn13 := e13'.nxt
      have g413 := (e13'.get hh.nxt (by omega)).trans g4x
      have g613 := (e13'.get h5.nxt (by omega)).trans g6x
      have g113 := (e13'.get b1 (by omega)).trans hg1
      refine ⟨fun b hb => e13'.get b (by rcases hb with rfl | rfl <;> omega), ?_⟩
      simp (disch := first | ((try simp only [heapN]) <;> omega) | fail) only [go_sem, seval]
      refine DrawU_of' (fun b => b = hh.nxt ∨ b = h5.nxt ∨ b = b1) [0, 0, 0, 4, 0, 28, 60, 124, 255, 511, 1023, 1023, 2047, 8191] (by rfl) (by rfl) (fun b hb => by rcases hb with rfl | rfl | rfl <;> omega) ?_
      simp (disch := first | ((try simp only [heapN]) <;> omega) | fail) only [go_sem, seval]
      refine LoadK_ofU rfl (.inr (.inl rfl)) ?_
      simp (disch := first | ((try simp only [heapN]) <;> omega) | fail) only [go_sem, seval, g613]
      refine LoadK_ofU rfl (.inl rfl) ?_
      simp (disch := first | ((try simp only [heapN]) <;> omega) | fail) only [go_sem, seval, g413]
      refine LoadK_ofU rfl (.inl rfl) ?_
      simp (disch := first | ((try simp only [heapN]) <;> omega) | fail) only [go_sem, seval, g413, hltj]
      refine LoadK_ofU rfl (.inr (.inr rfl)) ?_
      simp (disch := first | ((try simp only [heapN]) <;> omega) | fail) only [go_sem, seval, g113, c1, Int.toNat_natCast]
      have x13 := xx.trans e13'
      have y13 := (x512.trans ey).trans e13'
      have BN13 := (BN.ext y13)
      have w42 := RRow_uf (nb := nb) (nu := nulL (g2).nts.length (g2).prods) (fi := firL (g2).toks.length (g2).nts.length (g2).prods) (ov := .slc oa on oc oz) ((LtH.ext x13).ext (Ext.bump h13 14)) ((LnH.ext x13).ext (Ext.bump h13 14)) ((LpH.ext x13).ext (Ext.bump h13 14)) (by rw [← hun]; exact BN13.ext (Ext.bump h13 14)) ((T1.ext y13).ext (Ext.bump h13 14)) ⟨_, _, _, _, rfl⟩ ((sr.ext e13').ext (Ext.bump h13 14)) hul R1.len q4 (by omega) M2
      rw [← hun] at w42
      refine callV_ofU F_42 rfl (w42.mono ?_)
      rintro v14 h14 ⟨e14, w2, rfl, L14⟩
      have e14' := (Ext.bump h13 14).trans e14
      have hn14 := e14'.nxt
      refine ⟨fun b hb => e14'.get b (by rcases hb with rfl | rfl | rfl <;> omega), ?_⟩
      have ebl : begL (g2).toks.length (nulL (g2).nts.length (g2).prods) (firL (g2).toks.length (g2).nts.length (g2).prods) p.right = rowL g2 p.right := rfl
      rw [ebl] at L14 ⊢
      have hrl := rowL_len g2 p.right
      simp (disch := first | ((try simp only [heapN]) <;> omega) | fail) only [go_sem, seval]
      refine callV_ofU F_36 rfl ((sameRow_uf (rdB_lst (L13.ext e14')) (rdB_lst L14) (by omega)).mono ?_)
      rintro v15 h15 ⟨e15, rfl⟩
      have y15 := (e13'.trans e14').trans e15
      cases (rowL g2 p.right).2 <;>
      · simp (disch := first | ((try simp only [heapN]) <;> omega) | fail) only [go_sem, seval]
        exact AgainK.mk (pn2 - (j + 1)) (by simp only; omega) ⟨j + 1, by omega, rfl, ey.trans y15, rfl, by simp [Has]⟩
    · simp (disch := first | ((try simp only [heapN]) <;> omega) | fail) only [go_sem, seval, g4x, hltj]
      exact AgainK.mk (2 - (1 + 1)) (by simp only; omega) ⟨1 + 1, by omega, rfl, ex.trans xx, rfl, by simp [Has]⟩
  · simp (disch := first | ((try simp only [heapN]) <;> omega) | fail) only [go_sem, seval]
    exact hQ _ _ rfl

theorem FirstAll_law {h : Heap} {v : AV} {zs : List Int} {a : Int} (hn : h.nxt = 16) (hv : Slc h v 1 (zs.map fun z => [.int .u8 z])) (hb : ∀ z ∈ zs, IntKind.u8.min ≤ z ∧ z ≤ IntKind.u8.max) (w2 : (Lit.int .u8 a).wf = true) :
    WF T F 9 [v, .int .u8 a] h fun v' h' => v' = .bool true := by
  obtain ⟨l, _, L⟩ := bytes_lst hv hb
  obtain ⟨a, rfl⟩ := u8_lit w2
  exact (UF.less (frzV_le _ _) (FirstAll_uf ((frzV_le h v).nxt.symm.trans hn) L)).toW

end Go.Proofs.Ytaockkmmjinhpaa
