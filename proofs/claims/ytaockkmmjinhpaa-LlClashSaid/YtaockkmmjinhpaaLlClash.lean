/- Two productions of one right side clash, if anything can come of them where they stand. For numbers (150) of which the grammar is made; which one is there twice. -/
import Derived.Test.YtaockkmmjinhpaaRkD
import Derived.Test.YtaockkmmjinhpaaGBeg13
import Derived.KernelRfl
namespace Go.Proofs.Ytaockkmmjinhpaa
open Go Go.Am
set_option maxRecDepth 100000
set_option maxHeartbeats 4000000
set_option linter.unusedSimpArgs false
set_option linter.unusedVariables false

theorem LlClash_uf {h : Heap} {v : AV} {l : List UInt8} {a : UInt8} (hn : h.nxt = 16) (hv : Lst h v l) : UF T F 14 [v, .int .u8 (a.toNat : Nat)] h fun v' _ => v' = .bool true := by
  obtain ⟨va, n, c, z, rfl, hln⟩ := hv.form
  refine UF.gen fun Q hQ => UF.of (F_14) (c := _) rfl ?_
  unfold Try.f14
  simp only [List.length, Nat.reduceSub, Nat.reduceAdd, List.replicate, List.cons_append, List.nil_append]
  simp (disch := first | ((try simp only [heapN]) <;> omega) | fail) only [go_sem, seval]
  refine callV_ofU F_49 rfl ((beg13.begun13_uf hn).mono ?_)
  rintro v1 h1 ⟨e1, rfl⟩
  simp (disch := first | ((try simp only [heapN]) <;> omega) | fail) only [go_sem, seval]
  by_cases h150 : (n : Int) > 150
  · simp (disch := first | ((try simp only [heapN]) <;> omega) | fail) only [go_sem, seval, h150]
    exact hQ _ _ rfl
  simp (disch := first | ((try simp only [heapN]) <;> omega) | fail) only [go_sem, seval, h150]
  refine callV_ofU F_25 rfl ((Made_uf (hv.ext e1)).mono ?_)
  rintro v2 h2 ⟨e2, rfl, P2⟩
  simp (disch := first | ((try simp only [heapN]) <;> omega) | fail) only [go_sem, seval]
  refine callV_ofU F_26 rfl ((Grammar_uf P2 (by omega)).mono ?_)
  rintro v3 h3 ⟨u3, g, ⟨ga, gb, gc, rfl, Lt, Ln, Lp⟩, M⟩
  simp (disch := first | ((try simp only [heapN]) <;> omega) | fail) only [go_sem, seval]
  have MM := M.may
  obtain ⟨ta, tn, tc, tz, rfl, htn⟩ := Lt.form
  obtain ⟨na, nn, nc, nz, rfl, hnn⟩ := Ln.form
  obtain ⟨pa, pn, pc, pz, rfl, hpn⟩ := Lp.form
  have hpl := M.pl
  have hnl := M.nl
  have htl := M.tl
  simp (disch := first | ((try simp only [heapN]) <;> omega) | fail) only [go_sem, seval]
  have e4 : Ext h3 ((h3.add (.cells [.slc none 0 (some 0) 0, .slc none 0 (some 0) 0, .slc none 0 (some 0) 0] true)).put h3.nxt (.cells [.slc ta tn tc tz, .slc na nn nc nz, .slc pa pn pc pz] true)) := (Ext.add _ _).put (Nat.le_refl _)
  have g4 : ((h3.add (.cells [.slc none 0 (some 0) 0, .slc none 0 (some 0) 0, .slc none 0 (some 0) 0] true)).put h3.nxt (.cells [.slc ta tn tc tz, .slc na nn nc nz, .slc pa pn pc pz] true)).get h3.nxt = some (.cells [.slc ta tn tc tz, .slc na nn nc nz, .slc pa pn pc pz] true) := get_put_self
  have n4 : ((h3.add (.cells [.slc none 0 (some 0) 0, .slc none 0 (some 0) 0, .slc none 0 (some 0) 0] true)).put h3.nxt (.cells [.slc ta tn tc tz, .slc na nn nc nz, .slc pa pn pc pz] true)).nxt = h3.nxt + 1 := by simp
  generalize ((h3.add (.cells [.slc none 0 (some 0) 0, .slc none 0 (some 0) 0, .slc none 0 (some 0) 0] true)).put h3.nxt (.cells [.slc ta tn tc tz, .slc na nn nc nz, .slc pa pn pc pz] true)) = h4 at *
  obtain ⟨ia, hia⟩ : ∃ i, i = a.toNat % pn := ⟨_, rfl⟩
  have hial : ia < g.prods.length := by rw [hia, ← hpn]; exact Nat.mod_lt _ (by omega)
  have ta1 : ((a.toNat : Nat) : Int).tmod (pn : Int) = (ia : Nat) := by rw [← Int.ofNat_tmod, ← hia]
  have hp0 : ¬ (pn : Int) = 0 := by omega
  have qa : (ia : Int) < (pn : Int) := by omega
  have wa : IntKind.i64.wrap ((a.toNat : Nat) : Int) = (a.toNat : Nat) := by have := a.toNat_lt; exact wrap_i64 (by omega) (by omega)
  obtain ⟨b1, o1, cs1, l1, rfl, rfl, hb1, hg1, ⟨ra, xa, rfl, sr, sx⟩, hr1, ht1, hc1⟩ := (Lp.ext e4).at_ (i := ia) (x := g.prods[ia]) (List.getElem?_eq_getElem hial) (k := 3) rfl
  have hpd := List.getElem?_eq_getElem hial
  have hpm := List.getElem_mem hial
  obtain ⟨⟨p1, p2⟩, p3, p4⟩ := MM.prods g.prods[ia] hpm
  generalize g.prods[ia] = d at *
  obtain ⟨ra, rn, rc, rz, rfl, hrn⟩ := sr.form
  obtain ⟨xa, xn, xc, xz, rfl, hxn⟩ := sx.form
  obtain ⟨lf, hlf⟩ : ∃ lf : Nat, d.left = lf := ⟨d.left.toNat, by omega⟩
  rw [hlf] at ht1
  have e5 : Ext h4 ((h4.add (.cells [.int .i64 0, .slc none 0 (some 0) 0, .slc none 0 (some 0) 0] true)).put h4.nxt (.cells [.int .i64 (lf : Nat), .slc ra rn rc rz, .slc xa xn xc xz] true)) := (Ext.add _ _).put (Nat.le_refl _)
  have g5 : ((h4.add (.cells [.int .i64 0, .slc none 0 (some 0) 0, .slc none 0 (some 0) 0] true)).put h4.nxt (.cells [.int .i64 (lf : Nat), .slc ra rn rc rz, .slc xa xn xc xz] true)).get h4.nxt = some (.cells [.int .i64 (lf : Nat), .slc ra rn rc rz, .slc xa xn xc xz] true) := get_put_self
  have n5 : ((h4.add (.cells [.int .i64 0, .slc none 0 (some 0) 0, .slc none 0 (some 0) 0] true)).put h4.nxt (.cells [.int .i64 (lf : Nat), .slc ra rn rc rz, .slc xa xn xc xz] true)).nxt = h4.nxt + 1 := by simp
  have g45 := (e5.get h3.nxt (by omega)).trans g4
  have q16 : ¬ (pn : Int) ≥ 16 := by omega
  simp (disch := first | ((try simp only [heapN]) <;> omega) | fail) only [go_sem, seval, g4, wa, ta1, hp0, qa, hg1, hr1, ht1, Int.toNat_natCast]
  generalize ((h4.add (.cells [.int .i64 0, .slc none 0 (some 0) 0, .slc none 0 (some 0) 0] true)).put h4.nxt (.cells [.int .i64 (lf : Nat), .slc ra rn rc rz, .slc xa xn xc xz] true)) = h5 at *
  simp (disch := first | ((try simp only [heapN]) <;> omega) | fail) only [go_sem, seval, g45, q16]
  have e12 : Ext h5 ((h5.add (.cells [.slc none 0 (some 0) 0, .slc none 0 (some 0) 0, .slc none 0 (some 0) 0] true)).put h5.nxt (.cells [.slc ta tn tc tz, .slc na nn nc nz, .slc (some (b1, o1)) pn pc 3] true)) := (Ext.add _ _).put (Nat.le_refl _)
  have g12 : ((h5.add (.cells [.slc none 0 (some 0) 0, .slc none 0 (some 0) 0, .slc none 0 (some 0) 0] true)).put h5.nxt (.cells [.slc ta tn tc tz, .slc na nn nc nz, .slc (some (b1, o1)) pn pc 3] true)).get h5.nxt = some (.cells [.slc ta tn tc tz, .slc na nn nc nz, .slc (some (b1, o1)) pn pc 3] true) := get_put_self
  have n12 : ((h5.add (.cells [.slc none 0 (some 0) 0, .slc none 0 (some 0) 0, .slc none 0 (some 0) 0] true)).put h5.nxt (.cells [.slc ta tn tc tz, .slc na nn nc nz, .slc (some (b1, o1)) pn pc 3] true)).nxt = h5.nxt + 1 := by simp
  generalize ((h5.add (.cells [.slc none 0 (some 0) 0, .slc none 0 (some 0) 0, .slc none 0 (some 0) 0] true)).put h5.nxt (.cells [.slc ta tn tc tz, .slc na nn nc nz, .slc (some (b1, o1)) pn pc 3] true)) = h12 at *
  have gB12 := (e12.get _ (by omega)).trans g45
  have gD12 := (e12.get _ (by omega)).trans g5
  obtain ⟨os, rP, oP⟩ := Lst.opq (n := 3) Lp rfl
  have hosl : os.length = pn := by have := rP.length; rw [List.length_map] at this; omega
  refine DrawU_of' (fun b => b = h3.nxt ∨ b = h4.nxt) [0, 0, 2, 7, 0, 16, 63, 127, 255] (by rfl) (by rfl) (fun b hb => by rcases hb with rfl | rfl <;> omega) ?_
  simp (disch := first | ((try simp only [heapN]) <;> omega) | fail) only [go_sem, seval]
  refine LoadK_ofU rfl (.inl rfl) ?_
  simp (disch := first | ((try simp only [heapN]) <;> omega) | fail) only [go_sem, seval, gB12]
  have nA : ((h12.bump 9).put h12.nxt (.cells [] true)).nxt = h12.nxt + 9 := by simp
  have eA : Ext h12 ((h12.bump 9).put h12.nxt (.cells [] true)) := (Ext.bump _ _).put (by omega)
  generalize ((h12.bump 9).put h12.nxt (.cells [] true)) = hA at *
  have p3A : Pst h3 hA := (((e4.trans e5).trans e12).trans eA).pst
  refine fappends (m := h12.nxt) (xs := ([] : List (Opq 3))) (ys := os) T_48 rfl T_63 rfl (by decide) (by decide) ⟨[], .inl ⟨rfl, _, _, rfl, fun _ => rfl⟩, .nil⟩ (oP.pst p3A).slc (by omega) (by simp [roomA]; omega) ?_
  intro v13 h13 G13 w13 b13
  rw [List.nil_append] at G13
  obtain ⟨xa', xn', xc', xz', rfl, hxn'⟩ := G13.form
  have e1213 : Ext h12 h13 := (eA.upd fun _ => False).trans' w13 (fun b e hb => by simp [AV.blk] at e) |>.ext fun b hb f => f
  have hn13 := w13.nxt
  have gD13 := (e1213.get _ (by omega)).trans gD12
  have b13' : ∀ b, (AV.slc xa' xn' xc' xz').blk = some b → h12.nxt + 9 ≤ b := fun b e => by
    rcases b13 b e with e | e
    · simp [AV.blk] at e
    · omega
  simp (disch := first | ((try simp only [heapN]) <;> omega) | fail) only [go_sem, seval]
  refine ⟨fun b hb => (e1213.get b (by rcases hb with rfl | rfl <;> omega)), ?_⟩
  refine LoadK_ofU rfl (.inr rfl) ?_
  simp (disch := first | ((try simp only [heapN]) <;> omega) | fail) only [go_sem, seval, gD13]
  have w14 : Upd (fun _ => False) h12 (h13.put (h12.nxt + 5) (.cells [.int .i64 (lf : Nat), .slc ra rn rc rz, .slc xa xn xc xz] true)) := (e1213.upd _).putNew (by omega) _
  have e14 : Ext h12 (h13.put (h12.nxt + 5) (.cells [.int .i64 (lf : Nat), .slc ra rn rc rz, .slc xa xn xc xz] true)) := w14.ext fun b hb f => f
  have G14 : LFresh h12.nxt (h13.put (h12.nxt + 5) (.cells [.int .i64 (lf : Nat), .slc ra rn rc rz, .slc xa xn xc xz] true)) (.slc xa' xn' xc' xz') os := by
    obtain ⟨ls, s1, s2⟩ := G13
    exact ⟨ls, s1.keep (by simp) fun c h1 h2 h3 => get_put_ne (by have := b13' c h3; omega), opq_keep s2⟩
  have gl14 : (h13.put (h12.nxt + 5) (.cells [.int .i64 (lf : Nat), .slc ra rn rc rz, .slc xa xn xc xz] true)).get (h12.nxt + 5) = some (.cells [.int .i64 (lf : Nat), .slc ra rn rc rz, .slc xa xn xc xz] true) := get_put_self
  have n14 : (h13.put (h12.nxt + 5) (.cells [.int .i64 (lf : Nat), .slc ra rn rc rz, .slc xa xn xc xz] true)).nxt = h13.nxt := by simp
  generalize (h13.put (h12.nxt + 5) (.cells [.int .i64 (lf : Nat), .slc ra rn rc rz, .slc xa xn xc xz] true)) = h14 at *
  refine fappends (m := h12.nxt) (xs := os) (ys := ([⟨[.int .i64 (lf : Nat), .slc ra rn rc rz, .slc xa xn xc xz]⟩] : List (Opq 3))) T_48 rfl T_63 rfl (by decide) (by decide) G14 (LSlc.lit (b := h12.nxt + 5) (ls := [[.int .i64 (lf : Nat), .slc ra rn rc rz, .slc xa xn xc xz]]) (by omega) gl14 rfl (Reps.one (α := Opq 3) ⟨rfl, rfl, rfl⟩) rfl rfl) (by omega) (by simp [roomA]; omega) ?_
  intro v15 h15 G15 w15 b15
  obtain ⟨ya, yn, yc, yz, rfl, hyn⟩ := G15.form
  have e15 : Ext h12 h15 := ((e14.upd (h12.nxt ≤ ·)).trans' w15 fun b e hb => G14.blk e).ext fun b hb => by omega
  have hn15 := w15.nxt
  have k15 : ∀ b, b < h12.nxt → h15.get b = h13.get b := fun b hb => (e15.get b hb).trans (e1213.get b hb).symm
  simp (disch := first | ((try simp only [heapN]) <;> omega) | fail) only [go_sem, seval]
  refine ⟨fun b hb => k15 b (by rcases hb with rfl | rfl <;> omega), ?_⟩
  simp (disch := first | ((try simp only [heapN]) <;> omega) | fail) only [go_sem, seval, (e15.get h5.nxt (by omega)).trans g12]
  have uB : Upd (· = h5.nxt) h15 (h15.put h5.nxt (.cells [.slc ta tn tc tz, .slc na nn nc nz, .slc ya yn yc yz] true)) := Upd.put _ rfl fun cs e => by rw [(e15.get h5.nxt (by omega)).trans g12] at e; simp at e
  have gB : (h15.put h5.nxt (.cells [.slc ta tn tc tz, .slc na nn nc nz, .slc ya yn yc yz] true)).get h5.nxt = some (.cells [.slc ta tn tc tz, .slc na nn nc nz, .slc ya yn yc yz] true) := get_put_self
  refine ⟨fun b hb => get_put_ne (by rcases hb with rfl | rfl <;> omega), ?_⟩
  have gA15 := (e15.get h3.nxt (by omega)).trans gB12
  have gA := (uB.get h3.nxt (by omega) (by omega)).trans gA15
  have gD := (uB.get h4.nxt (by omega) (by omega)).trans ((e15.get _ (by omega)).trans gD12)
  simp (disch := first | ((try simp only [heapN]) <;> omega) | fail) only [go_sem, seval, gA15]
  have hnB := uB.nxt
  have uB3 : Upd (· = h5.nxt) h12 (h15.put h5.nxt (.cells [.slc ta tn tc tz, .slc na nn nc nz, .slc ya yn yc yz] true)) := (e15.upd _).trans uB
  have G16 := G15.upd uB fun b hb _ e => by omega
  generalize (h15.put h5.nxt (.cells [.slc ta tn tc tz, .slc na nn nc nz, .slc ya yn yc yz] true)) = hB at *
  obtain ⟨f1, lf1, nf1, L1, uf1⟩ := G16.frz
  have uF : Upd (fun b => h12.nxt ≤ b) hB f1 := uf1.weak fun b _ e => e.1
  have pF : Pst h3 f1 := (((e4.trans e5).trans e12).pst.trans uB3.pst).trans uF.pst
  have p4F : Pst h4 f1 := ((e5.trans e12).pst.trans uB3.pst).trans uF.pst
  have hnF := uF.nxt
  have LpF : Lst f1 (.slc ya yn yc yz) (g.prods ++ [d]) := Lst.unopq (n := 3) L1 (by
    rw [List.map_append]
    exact (rP.pst pF).app (Reps.one (x := d) ⟨_, _, by rw [hlf], sr.pst p4F, sx.pst p4F⟩)) rfl
  obtain ⟨g', hg'⟩ : ∃ g' : Gm, g' = ⟨g.toks, g.nts, g.prods ++ [d]⟩ := ⟨_, rfl⟩
  have MM' : MayG g' := by
    subst hg'
    refine ⟨MM.tl, MM.nl, ⟨by simp, by simp; omega⟩, MM.names, MM.attrs, fun p hp => ?_⟩
    rcases List.mem_append.1 hp with hp | hp
    · exact MM.prods p hp
    · simp only [List.mem_singleton] at hp
      subst hp
      exact ⟨⟨p1, p2⟩, p3, p4⟩
  have hgt : g'.toks = g.toks := by rw [hg']
  have hgn : g'.nts = g.nts := by rw [hg']
  have hgp : g'.prods = g.prods ++ [d] := by rw [hg']
  have hs1 : ∀ p ∈ g.prods, p ∈ g'.prods := fun p hp => by rw [hgp]; exact List.mem_append_left _ hp
  have hs2 : ∀ p ∈ g'.prods, p ∈ g.prods := fun p hp => by
    rw [hgp] at hp
    rcases List.mem_append.1 hp with hp | hp
    · exact hp
    · simp only [List.mem_singleton] at hp
      rw [hp]; exact hpm
  rw [← hgp] at LpF
  have LtF := Lt.pst pF
  have LnF := Ln.pst pF
  have LpG := Lp.pst pF
  refine callV_ofU F_35 rfl ((UF.less lf1 (Reckon_uf LtF LnF LpG MM)).mono ?_)
  rintro v17 h17 ⟨e17, nb, fv, ov, bl1, bl2, fo, rfl, BN, T1, T2, FO⟩
  obtain ⟨fa, fn, fc, fz, rfl, _⟩ := T1.lst.form
  obtain ⟨oa, on, oc, oz, rfl, _⟩ := T2.lst.form
  have hn17 := e17.nxt
  have gA17 := (e17.get h3.nxt (by omega)).trans ((uF.get _ (by omega) (by omega)).trans gA)
  have gD17 := (e17.get h4.nxt (by omega)).trans ((uF.get _ (by omega) (by omega)).trans gD)
  have gC17 := (e17.get h5.nxt (by omega)).trans ((uF.get _ (by omega) (by omega)).trans gB)
  obtain ⟨un, hun⟩ : ∃ un, un = (nulL g.nts.length g.prods).length := ⟨_, rfl⟩
  rw [← hun] at BN ⊢
  have e18 : Ext h17 ((h17.add (.cells [.slc none 0 (some 0) 0, .slc none 0 (some 0) 0, .slc none 0 (some 0) 0] true)).put h17.nxt (.cells [.slc (some (nb, 0)) un (some un) 1, .slc fa fn fc fz, .slc oa on oc oz] true)) := (Ext.add _ _).put (Nat.le_refl _)
  have g18 : ((h17.add (.cells [.slc none 0 (some 0) 0, .slc none 0 (some 0) 0, .slc none 0 (some 0) 0] true)).put h17.nxt (.cells [.slc (some (nb, 0)) un (some un) 1, .slc fa fn fc fz, .slc oa on oc oz] true)).get h17.nxt = some (.cells [.slc (some (nb, 0)) un (some un) 1, .slc fa fn fc fz, .slc oa on oc oz] true) := get_put_self
  have n18 : ((h17.add (.cells [.slc none 0 (some 0) 0, .slc none 0 (some 0) 0, .slc none 0 (some 0) 0] true)).put h17.nxt (.cells [.slc (some (nb, 0)) un (some un) 1, .slc fa fn fc fz, .slc oa on oc oz] true)).nxt = h17.nxt + 1 := by simp
  simp (disch := first | ((try simp only [heapN]) <;> omega) | fail) only [go_sem, seval]
  generalize ((h17.add (.cells [.slc none 0 (some 0) 0, .slc none 0 (some 0) 0, .slc none 0 (some 0) 0] true)).put h17.nxt (.cells [.slc (some (nb, 0)) un (some un) 1, .slc fa fn fc fz, .slc oa on oc oz] true)) = h18 at *
  have gA18 := (e18.get _ (by omega)).trans gA17
  have gD18 := (e18.get _ (by omega)).trans gD17
  have gC18 := (e18.get _ (by omega)).trans gC17
  have x18 := e17.trans e18
  refine LoopU_while (fun m st hh => ∃ (t : Nat) (any : Bool), t ≤ tn + 1 ∧ m = tn + 1 - t ∧ (any = true ↔ ∃ t', t' < t ∧ meanL g fo d t' = true) ∧ Ext h18 hh ∧ Keep st 101 [(5, .ptr (some (h3.nxt, 0))), (6, .int .i64 (ia : Nat)), (7, .ptr (some (h4.nxt, 0))), (8, .ptr (some (h5.nxt, 0))), (9, .ptr (some (h17.nxt, 0))), (10, .bool any), (11, .int .i64 (t : Nat))]) (tn + 1)
    ⟨0, false, by omega, by omega, by simp, Ext.refl _, rfl, by simp [Has]⟩ ?_
  rintro m st hh ⟨t, any, ht, rfl, hany, eh, hk⟩
  rw [hk.eq]
  obtain ⟨k5, k6, k7, k8, k9, k10, k11, -⟩ := hk.2
  simp only [slotsFrom, Nat.reduceAdd] at k5 k6 k7 k8 k9 k10 k11 ⊢
  simp only [k5, k6, k7, k8, k9, k10, k11]
  have hnh := eh.nxt
  have gh := (eh.get h3.nxt (by omega)).trans gA18
  have gs := (eh.get h17.nxt (by omega)).trans g18
  by_cases hltt : (t : Int) ≤ (tn : Int)
  · have hit : t < tn + 1 := by omega
    cases any with
    | true =>
      simp (disch := first | ((try simp only [heapN]) <;> omega) | fail) only [go_sem, seval, gh, hltt]
      exact AgainK.mk (tn + 1 - (t + 1)) (by simp only; omega) ⟨t + 1, true, by omega, rfl, (by
        refine ⟨fun _ => ?_, fun _ => rfl⟩
        obtain ⟨t', h1, h2⟩ := hany.1 rfl
        exact ⟨t', by omega, h2⟩), eh, rfl, by simp [Has]⟩
    | false =>
      simp (disch := first | ((try simp only [heapN]) <;> omega) | fail) only [go_sem, seval, gh, hltt, gs]
      have xh := x18.trans eh
      have w51 := Meant_uf (nb := nb) (k := ia) (t := t) (LtF.ext xh) (LnF.ext xh) (LpG.ext xh) (by rw [← hun]; exact BN.ext (e18.trans eh)) (T1.ext (e18.trans eh)) (T2.ext (e18.trans eh)) FO hpd (by omega) MM
      rw [← hun] at w51
      refine callV_ofU F_51 rfl (w51.mono ?_)
      rintro v19 h19 ⟨e19, rfl⟩
      simp (disch := first | ((try simp only [heapN]) <;> omega) | fail) only [go_sem, seval]
      exact AgainK.mk (tn + 1 - (t + 1)) (by simp only; omega) ⟨t + 1, meanL g fo d t, by omega, rfl, (by
        refine ⟨fun hm => ⟨t, by omega, hm⟩, fun ⟨t', h1, h2⟩ => ?_⟩
        rcases Nat.lt_or_ge t' t with h3 | h3
        · exact absurd (hany.2 ⟨t', h3, h2⟩) (by simp)
        · have : t' = t := by omega
          subst this; exact h2), eh.trans e19, rfl, by simp [Has]⟩
  · have hte : t = tn + 1 := by omega
    subst hte
    have gC := (eh.get h5.nxt (by omega)).trans gC18
    have gDh := (eh.get h4.nxt (by omega)).trans gD18
    have xh := x18.trans eh
    simp (disch := first | ((try simp only [heapN]) <;> omega) | fail) only [go_sem, seval, gh, hltt, gC]
    refine callV_ofU F_50 rfl ((Table_uf (g := g') (by rw [hgt]; exact LtF.ext xh) (by rw [hgn]; exact LnF.ext xh) (LpF.ext xh) MM').mono ?_)
    rintro v20 h20 ⟨e20, fo', w1, w2, FO', rfl, _, L2⟩
    have hmr : g'.prods.map (meanR g' fo') = (g.prods ++ [d]).map (meanR g fo) := by
      rw [hgp]
      refine List.map_congr_left fun p _ => ?_
      unfold meanR
      rw [hgt]
      exact List.map_congr_left fun t _ => mean_same MM MM' FO FO' (by rw [hgt]) (by rw [hgn]) hs1 hs2 p t
    rw [hmr, hgp, hgt, hgn] at L2
    have hci := clash_iff (g := g) (fo := fo) hpd hlf (by omega)
    have hcl : (claN (g.prods ++ [d]) ((g.prods ++ [d]).map (meanR g fo)) g.toks.length g.nts.length).length ≤ 10000 := by
      have x1 := claN_len (ps := g.prods ++ [d]) (M := (g.prods ++ [d]).map (meanR g fo)) (tn := g.toks.length) g.nts.length
      rw [List.length_append, List.length_singleton] at x1
      have y1 : (g.toks.length + 1) * (g.prods.length + 1) ≤ 4 * 8 := Nat.mul_le_mul (by omega) (by omega)
      have y2 : g.nts.length * ((g.toks.length + 1) * (g.prods.length + 1)) ≤ 4 * (4 * 8) := Nat.mul_le_mul (by omega) y1
      omega
    generalize claN (g.prods ++ [d]) ((g.prods ++ [d]).map (meanR g fo)) g.toks.length g.nts.length = cl at *
    obtain ⟨ca, cn, cc, cz, rfl, hcn⟩ := L2.form
    have g20 := (e20.get h3.nxt (by omega)).trans gh
    have gD20 := (e20.get h4.nxt (by omega)).trans gDh
    have hn20 := e20.nxt
    simp (disch := first | ((try simp only [heapN]) <;> omega) | fail) only [go_sem, seval]
    refine LoopU_while (fun m st hx => ∃ (j : Nat) (fd : Bool), j ≤ cn ∧ m = cn - j ∧ (fd = true ↔ ∃ j', j' < j ∧ ∃ x, cl[j']? = some x ∧ x.b = (g.prods.length : Nat) ∧ x.nt = (lf : Nat)) ∧ Ext h20 hx ∧ Keep st 101 [(5, .ptr (some (h3.nxt, 0))), (7, .ptr (some (h4.nxt, 0))), (10, .bool any), (13, .slc ca cn cc cz), (14, .bool fd), (15, .int .i64 (j : Nat))]) cn
      ⟨0, false, by omega, by omega, by simp, Ext.refl _, rfl, by simp [Has]⟩ ?_
    clear hk k5 k6 k7 k8 k9 k10 k11
    rintro m st hx ⟨j, fd, hj, rfl, hfd, ex, hk⟩
    rw [hk.eq]
    obtain ⟨k5, k7, k10, k13, k14, k15, -⟩ := hk.2
    simp only [slotsFrom, Nat.reduceAdd] at k5 k7 k10 k13 k14 k15 ⊢
    simp only [k5, k7, k10, k13, k14, k15]
    have gx := (ex.get h3.nxt (by omega)).trans g20
    have gDx := (ex.get h4.nxt (by omega)).trans gD20
    by_cases hltj : (j : Int) < (cn : Int)
    · have hjl : j < cl.length := by omega
      have hjx := List.getElem?_eq_getElem hjl
      generalize cl[j] = x at *
      obtain ⟨b6, o6, cs6, l6, rfl, rfl, hb6, hg6, rfl, hr6, ht6, hc6⟩ := (L2.ext ex).at_ (i := j) hjx (k := 4) rfl
      have d0 : cs6[o6 + j * 4]? = some (.int .i64 x.nt) := hc6 0 (by decide)
      have d3 : cs6[o6 + j * 4 + 3]? = some (.int .i64 x.b) := hc6 3 (by decide)
      have hstep : ∀ y : Bool, (y = true ↔ (x.b = (g.prods.length : Nat) ∧ x.nt = (lf : Nat))) → fd = false → (y = true ↔ ∃ j', j' < j + 1 ∧ ∃ x, cl[j']? = some x ∧ x.b = (g.prods.length : Nat) ∧ x.nt = (lf : Nat)) := fun y hy hf => by
        rw [hy]
        refine ⟨fun h => ⟨j, by omega, x, hjx, h⟩, fun ⟨j', h1, x', h2, h3⟩ => ?_⟩
        rcases Nat.lt_or_ge j' j with h4 | h4
        · exact absurd (hfd.2 ⟨j', h4, x', h2, h3⟩) (by rw [hf]; simp)
        · have : j' = j := by omega
          subst this
          rw [hjx] at h2
          cases h2
          exact h3
      rw [← hpn] at hstep
      simp (disch := first | ((try simp only [heapN]) <;> omega) | fail) only [go_sem, seval, hltj]
      cases fd with
      | true =>
        refine DrawU_quiet (by rfl) ?_
        simp (disch := first | ((try simp only [heapN]) <;> omega) | fail) only [go_sem, seval, hltj]
        exact AgainK.mk (cn - (j + 1)) (by simp only; omega) ⟨j + 1, true, by omega, rfl, (by
          refine ⟨fun _ => ?_, fun _ => rfl⟩
          obtain ⟨j', h1, h2⟩ := hfd.1 rfl
          exact ⟨j', by omega, h2⟩), ex.trans (Ext.bump _ _), rfl, by simp [Has]⟩
      | false =>
        by_cases y1 : x.b = (pn : Int)
        · by_cases y2 : x.nt = (lf : Int)
          · skip
            refine DrawU_quiet (by rfl) ?_
            simp (disch := first | ((try simp only [heapN]) <;> omega) | fail) only [go_sem, seval, hltj, hg6, d0, d3, gx, gDx, y1, y2, Int.toNat_natCast]
            exact AgainK.mk (cn - (j + 1)) (by simp only; omega) ⟨j + 1, true, by omega, rfl, (by rw [← hpn]; exact hstep true ⟨fun _ => ⟨y1, y2⟩, fun _ => rfl⟩ rfl), ex.trans (Ext.bump _ _), rfl, by simp [Has]⟩
          · skip
            refine DrawU_quiet (by rfl) ?_
            simp (disch := first | ((try simp only [heapN]) <;> omega) | fail) only [go_sem, seval, hltj, hg6, d0, d3, gx, gDx, y1, y2, Int.toNat_natCast]
            exact AgainK.mk (cn - (j + 1)) (by simp only; omega) ⟨j + 1, false, by omega, rfl, (by rw [← hpn]; exact hstep false ⟨fun h => (by cases h), fun h => absurd h.2 y2⟩ rfl), ex.trans (Ext.bump _ _), rfl, by simp [Has]⟩
        · skip
          refine DrawU_quiet (by rfl) ?_
          simp (disch := first | ((try simp only [heapN]) <;> omega) | fail) only [go_sem, seval, hltj, hg6, d0, d3, gx, gDx, y1, Int.toNat_natCast]
          exact AgainK.mk (cn - (j + 1)) (by simp only; omega) ⟨j + 1, false, by omega, rfl, (by rw [← hpn]; exact hstep false ⟨fun h => (by cases h), fun h => absurd h.1 y1⟩ rfl), ex.trans (Ext.bump _ _), rfl, by simp [Has]⟩
    · have hje : j = cn := by omega
      subst hje
      have hfa : fd = any := by
        refine Bool.eq_iff_iff.2 ?_
        rw [hfd, hany, htn, ← hci]
        constructor
        · rintro ⟨j', h1, x, h2, h3⟩
          exact ⟨x, List.mem_of_getElem? h2, h3⟩
        · rintro ⟨x, h2, h3⟩
          obtain ⟨j', h4, rfl⟩ := List.getElem_of_mem h2
          exact ⟨j', by omega, _, List.getElem?_eq_getElem h4, h3⟩
      subst hfa
      simp (disch := first | ((try simp only [heapN]) <;> omega) | fail) only [go_sem, seval, hltj]
      exact hQ _ _ (by simp)

theorem LlClash_law {h : Heap} {v : AV} {zs : List Int} {a : Int} (hn : h.nxt = 16) (hv : Slc h v 1 (zs.map fun z => [.int .u8 z])) (hb : ∀ z ∈ zs, IntKind.u8.min ≤ z ∧ z ≤ IntKind.u8.max) (w2 : (Lit.int .u8 a).wf = true) :
    WF T F 14 [v, .int .u8 a] h fun v' h' => v' = .bool true := by
  obtain ⟨l, _, L⟩ := bytes_lst hv hb
  obtain ⟨a, rfl⟩ := u8_lit w2
  exact (UF.less (frzV_le _ _) (LlClash_uf ((frzV_le h v).nxt.symm.trans hn) L)).toW

end Go.Proofs.Ytaockkmmjinhpaa
