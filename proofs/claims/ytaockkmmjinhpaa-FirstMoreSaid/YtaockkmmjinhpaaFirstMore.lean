/- With one more production nothing that may be is no more. For numbers (150) of which the grammar is made, and numbers (10) of which the production is made. -/
import Derived.Test.YtaockkmmjinhpaaFstS
import Derived.Test.YtaockkmmjinhpaaGBeg12
import Derived.KernelRfl
namespace Go.Proofs.Ytaockkmmjinhpaa
open Go Go.Am
set_option maxRecDepth 100000
set_option maxHeartbeats 4000000
set_option linter.unusedSimpArgs false
set_option linter.unusedVariables false

theorem FirstMore_uf {h : Heap} {v w : AV} {l l2 : List UInt8} (hn : h.nxt = 16) (hv : Lst h v l) (hw : Lst h w l2) : UF T F 11 [v, w] h fun v' _ => v' = .bool true := by
  obtain ⟨va, n, c, z, rfl, hln⟩ := hv.form
  obtain ⟨wa, n2, c2, z2, rfl, hln2⟩ := hw.form
  refine UF.gen fun Q hQ => UF.of (F_11) (c := _) rfl ?_
  unfold Try.f11
  simp only [List.length, Nat.reduceSub, Nat.reduceAdd, List.replicate, List.cons_append, List.nil_append]
  simp (disch := first | ((try simp only [heapN]) <;> omega) | fail) only [go_sem, seval]
  refine callV_ofU F_34 rfl ((begun12_uf hn).mono ?_)
  rintro v1 h1 ⟨e1, rfl⟩
  simp (disch := first | ((try simp only [heapN]) <;> omega) | fail) only [go_sem, seval]
  by_cases h150 : (n : Int) > 150
  · simp (disch := first | ((try simp only [heapN]) <;> omega) | fail) only [go_sem, seval, h150]
    exact hQ _ _ rfl
  by_cases h10 : (n2 : Int) > 10
  · simp (disch := first | ((try simp only [heapN]) <;> omega) | fail) only [go_sem, seval, h150, h10]
    exact hQ _ _ rfl
  simp (disch := first | ((try simp only [heapN]) <;> omega) | fail) only [go_sem, seval, h150, h10]
  refine callV_ofU F_25 rfl ((Made_uf (hv.ext e1)).mono ?_)
  rintro v2 h2 ⟨e2, rfl, P2⟩
  simp (disch := first | ((try simp only [heapN]) <;> omega) | fail) only [go_sem, seval]
  refine callV_ofU F_26 rfl ((Grammar_uf P2 (by omega)).mono ?_)
  rintro v3 h3 ⟨u3, g, ⟨ga, gb, gc, rfl, Lt, Ln, Lp⟩, M⟩
  simp (disch := first | ((try simp only [heapN]) <;> omega) | fail) only [go_sem, seval]
  have MM := M.may
  obtain ⟨ta, tn, tc, tz, rfl, htn⟩ := Lt.form
  obtain ⟨na, nn, nc, nz, rfl, hnn⟩ := Ln.form
  obtain ⟨pa, pn, pc, pz, rfl, hpn⟩ := Lp.form
  have hpl := M.pl
  have hnl := M.nl
  have htl := M.tl
  simp (disch := first | ((try simp only [heapN]) <;> omega) | fail) only [go_sem, seval]
  have e4 : Ext h3 ((h3.add (.cells [.slc none 0 (some 0) 0, .slc none 0 (some 0) 0, .slc none 0 (some 0) 0] true)).put h3.nxt (.cells [.slc ta tn tc tz, .slc na nn nc nz, .slc pa pn pc pz] true)) := (Ext.add _ _).put (Nat.le_refl _)
  have g4 : ((h3.add (.cells [.slc none 0 (some 0) 0, .slc none 0 (some 0) 0, .slc none 0 (some 0) 0] true)).put h3.nxt (.cells [.slc ta tn tc tz, .slc na nn nc nz, .slc pa pn pc pz] true)).get h3.nxt = some (.cells [.slc ta tn tc tz, .slc na nn nc nz, .slc pa pn pc pz] true) := get_put_self
  have n4 : ((h3.add (.cells [.slc none 0 (some 0) 0, .slc none 0 (some 0) 0, .slc none 0 (some 0) 0] true)).put h3.nxt (.cells [.slc ta tn tc tz, .slc na nn nc nz, .slc pa pn pc pz] true)).nxt = h3.nxt + 1 := by simp
  generalize ((h3.add (.cells [.slc none 0 (some 0) 0, .slc none 0 (some 0) 0, .slc none 0 (some 0) 0] true)).put h3.nxt (.cells [.slc ta tn tc tz, .slc na nn nc nz, .slc pa pn pc pz] true)) = h4 at *
  have q16 : ¬ (pn : Int) ≥ 16 := by omega
  simp (disch := first | ((try simp only [heapN]) <;> omega) | fail) only [go_sem, seval, g4, q16]
  refine callV_ofU F_25 rfl ((Made_uf ((((hw.ext e1).ext e2).pst u3.pst).ext e4)).mono ?_)
  rintro v5 h5 ⟨e5, rfl, P5⟩
  simp (disch := first | ((try simp only [heapN]) <;> omega) | fail) only [go_sem, seval]
  have g5 := (e5.get _ (by omega)).trans g4
  have hn5 := e5.nxt
  have hk5 := P5.lt
  simp (disch := first | ((try simp only [heapN]) <;> omega) | fail) only [go_sem, seval, g5]
  refine callV_ofU F_47 rfl ((Num_uf (m := nn) P5 (by omega) (by omega)).mono ?_)
  rintro v6 h6 ⟨u6, P6, left, hleft, rfl⟩
  simp (disch := first | ((try simp only [heapN]) <;> omega) | fail) only [go_sem, seval]
  have g6 := (u6.get _ (by omega) (by omega)).trans g5
  have hn6 := u6.nxt
  have e7 : Ext h6 ((h6.add (.cells [.int .i64 0, .slc none 0 (some 0) 0, .slc none 0 (some 0) 0] true)).put h6.nxt (.cells [.int .i64 (left : Nat), .slc none 0 (some 0) 0, .slc none 0 (some 0) 0] true)) := (Ext.add _ _).put (Nat.le_refl _)
  have g7 : ((h6.add (.cells [.int .i64 0, .slc none 0 (some 0) 0, .slc none 0 (some 0) 0] true)).put h6.nxt (.cells [.int .i64 (left : Nat), .slc none 0 (some 0) 0, .slc none 0 (some 0) 0] true)).get h6.nxt = some (.cells [.int .i64 (left : Nat), .slc none 0 (some 0) 0, .slc none 0 (some 0) 0] true) := get_put_self
  have n7 : ((h6.add (.cells [.int .i64 0, .slc none 0 (some 0) 0, .slc none 0 (some 0) 0] true)).put h6.nxt (.cells [.int .i64 (left : Nat), .slc none 0 (some 0) 0, .slc none 0 (some 0) 0] true)).nxt = h6.nxt + 1 := by simp
  generalize ((h6.add (.cells [.int .i64 0, .slc none 0 (some 0) 0, .slc none 0 (some 0) 0] true)).put h6.nxt (.cells [.int .i64 (left : Nat), .slc none 0 (some 0) 0, .slc none 0 (some 0) 0] true)) = h7 at *
  refine callV_ofU F_47 rfl ((Num_uf (m := 3) (P6.ext e7) (by omega) (by omega)).mono ?_)
  rintro v8 h8 ⟨u8, P8, w0, hw0, rfl⟩
  simp (disch := first | ((try simp only [heapN]) <;> omega) | fail) only [go_sem, seval]
  have g8 := (u8.get _ (by omega) (by omega)).trans g7
  have hn8 := u8.nxt
  have g58 := ((u8.get _ (by omega) (by omega)).trans ((e7.get _ (by omega)).trans g6) : h8.get h3.nxt = _)
  have p38 : Pst h3 h8 := e4.pst.trans (e5.pst.trans (u6.pst.trans (e7.pst.trans u8.pst)))
  obtain ⟨os, rP, oP⟩ := Lst.opq (n := 3) Lp rfl
  have hosl : os.length = pn := by have := rP.length; rw [List.length_map] at this; omega
  refine LoopU_while (fun m st hx => ∃ (i : Nat) (rv : AV) (rs : List GSym), i = m ∧ rs.length + i = w0 ∧ (∀ s ∈ rs, s.tok = false ∧ 0 ≤ s.at_ ∧ s.at_ < (nn : Int)) ∧ Upd (fun b => b = h4.nxt ∨ b = h6.nxt) h8 hx ∧ Pk hx h4.nxt (.slc wa n2 c2 z2) l2 ∧ LFresh h8.nxt hx rv rs ∧
      hx.get h6.nxt = some (.cells [.int .i64 (left : Nat), rv, .slc none 0 (some 0) 0] true) ∧ Keep st 176 [(5, .ptr (some (h3.nxt, 0))), (6, .ptr (some (h4.nxt, 0))), (7, .ptr (some (h6.nxt, 0))), (8, .int .i64 (i : Nat))]) w0
    ⟨w0, _, [], rfl, by simp, by simp, Upd.refl _ _, P8, LFresh.nil, g8, rfl, by simp [Has]⟩ ?_
  rintro m st hx ⟨i, rv, rs, rfl, hil, hrs, ux, Px, Rx, gx, hk⟩
  obtain ⟨ra, rn, rc, rz, rfl, hrn⟩ := Rx.form
  rw [hk.eq]
  obtain ⟨k5, k6, k7, k8, -⟩ := hk.2
  simp only [slotsFrom, Nat.reduceAdd] at k5 k6 k7 k8 ⊢
  simp only [k5, k6, k7, k8]
  have hnx := ux.nxt
  have gBx := (ux.get h3.nxt (by omega) (by omega)).trans g58
  by_cases hi0 : (i : Int) > 0
  · simp (disch := first | ((try simp only [heapN]) <;> omega) | fail) only [go_sem, seval, hi0]
    refine DrawZ_of' (fun b => b = h3.nxt ∨ b = h6.nxt) [0, 1, 0, 0, 8, 24, 60, 124, 252, 511, 1023, 2047] (by rfl) (by rfl) (fun b hb => by rcases hb with rfl | rfl <;> omega) ?_
    simp (disch := first | ((try simp only [heapN]) <;> omega) | fail) only [go_sem, seval]
    refine LoadK_ofZ rfl (.inr rfl) ?_
    simp (disch := first | ((try simp only [heapN]) <;> omega) | fail) only [go_sem, seval, gx]
    refine LoadK_ofZ rfl (.inl rfl) ?_
    simp (disch := first | ((try simp only [heapN]) <;> omega) | fail) only [go_sem, seval, gBx]
    refine callV_ofU F_47 rfl ((Num_uf (m := nn) (Px.ext (Ext.bump _ _)) (by omega) (by omega)).mono ?_)
    rintro v9 h9 ⟨u9, P9, at_, hat, rfl⟩
    have hn9 := u9.nxt
    simp only [bump_nxt] at hn9
    have k9 : ∀ b, b ≠ h4.nxt → b < hx.nxt → h9.get b = hx.get b := fun b h1 h2 => (u9.get b (by simp; omega) h1).trans (bump_get ..)
    refine ⟨.inl fun b hb => k9 b (by rcases hb with rfl | rfl <;> omega) (by rcases hb with rfl | rfl <;> omega), ?_⟩
    simp (disch := first | ((try simp only [heapN]) <;> omega) | fail) only [go_sem, seval]
    have u10 : Upd (· = h4.nxt) hx (h9.put (hx.nxt + 8) (.cells [.bool false, .int .i64 (at_ : Nat)] true)) := (((Ext.bump hx 12).upd _).trans u9).putNew (by omega) _
    have P10 := Px.putNew P9 u10 (get_put_ne (by omega))
    have R10 : LFresh h8.nxt (h9.put (hx.nxt + 8) (.cells [.bool false, .int .i64 (at_ : Nat)] true)) (.slc ra rn rc rz) rs := Rx.upd u10 fun b hb _ e => by omega
    have gl : (h9.put (hx.nxt + 8) (.cells [.bool false, .int .i64 (at_ : Nat)] true)).get (hx.nxt + 8) = some (.cells [.bool false, .int .i64 (at_ : Nat)] true) := get_put_self
    have nl : (h9.put (hx.nxt + 8) (.cells [.bool false, .int .i64 (at_ : Nat)] true)).nxt = h9.nxt := by simp
    have k10 : ∀ b, b < hx.nxt → (h9.put (hx.nxt + 8) (.cells [.bool false, .int .i64 (at_ : Nat)] true)).get b = h9.get b := fun b hb => get_put_ne (by omega)
    generalize (h9.put (hx.nxt + 8) (.cells [.bool false, .int .i64 (at_ : Nat)] true)) = h10 at *
    refine fappend (m := h8.nxt) (xs := rs) (y := (⟨false, (at_ : Nat)⟩ : GSym)) T_60 rfl T_66 rfl (by decide) (by decide) R10 (LSlc.lit (b := hx.nxt + 8) (ls := [[.bool false, .int .i64 (at_ : Nat)]]) (by omega) gl rfl (Reps.one (x := (⟨false, (at_ : Nat)⟩ : GSym)) rfl) rfl rfl) (by omega) (by simp [roomA]; omega) ?_
    intro v11 h11 R11 u11 b11
    obtain ⟨va, vn, vc, vz, rfl, hvn⟩ := R11.form
    have hn11 := u11.nxt
    have gx11 := (u11.get h6.nxt (by omega) (fun e => by have := R10.blk e; omega)).trans ((k10 _ (by omega)).trans ((k9 _ (by omega) (by omega)).trans gx))
    simp (disch := first | ((try simp only [heapN]) <;> omega) | fail) only [go_sem, seval]
    refine ⟨.inl fun b hb => (u11.get b (by rcases hb with rfl | rfl <;> omega) (fun e => by have := R10.blk e; rcases hb with rfl | rfl <;> omega)).trans (k10 b (by rcases hb with rfl | rfl <;> omega)), ?_⟩
    simp (disch := first | ((try simp only [heapN]) <;> omega) | fail) only [go_sem, seval, gx11]
    refine ⟨.inr (by rfl), ?_⟩
    have him : (i : Int) - 1 = ((i - 1 : Nat) : Int) := by omega
    rw [him]
    have u12 : Upd (· = h6.nxt) h11 (h11.put h6.nxt (.cells [.int .i64 (left : Nat), .slc va vn vc vz, .slc none 0 (some 0) 0] true)) := Upd.put _ rfl fun cs e => by rw [gx11] at e; simp at e
    refine AgainK.mk (i - 1) (by simp only; omega) ⟨i - 1, _, rs ++ [⟨false, (at_ : Nat)⟩], rfl, by simp; omega, fun s hs => ?_, ((ux.trans (u10.weak fun b _ e => .inl e)).trans' u11 fun b e hb => by have := R10.blk e; omega).trans (u12.weak fun b _ e => .inr e), (P10.upd u11 fun e => by have := R10.blk e; omega).upd u12 (by omega), R11.upd u12 fun b hb _ e => by omega, get_put_self, rfl, by simp [Has]⟩
    rcases List.mem_append.1 hs with hs | hs
    · exact hrs s hs
    · simp only [List.mem_singleton] at hs
      subst hs
      exact ⟨rfl, by simp, by simp only; omega⟩
  · have hi00 : i = 0 := by omega
    subst hi00
    simp (disch := first | ((try simp only [heapN]) <;> omega) | fail) only [go_sem, seval, hi0]
    have hSy : ∀ s ∈ rs, SymK g.toks g.nts.length s := fun s hs => by
      obtain ⟨q1, q2, q3⟩ := hrs s hs
      exact ⟨q2, fun e => (by rw [q1] at e; cases e), fun _ => by omega⟩
    refine callV_ofU F_47 rfl ((Num_uf (m := 2) Px (by omega) (by omega)).mono ?_)
    rintro v9 h9 ⟨u9, P9, cc, hcc, rfl⟩
    simp (disch := first | ((try simp only [heapN]) <;> omega) | fail) only [go_sem, seval]
    have hn9 := u9.nxt
    by_cases hc0 : (cc : Int) = 0
    · simp (disch := first | ((try simp only [heapN]) <;> omega) | fail) only [go_sem, seval, hc0]
      have P9' := P9
      have gBz := (u9.get h3.nxt (by omega) (by omega)).trans gBx
      have gDz := (u9.get h6.nxt (by omega) (by omega)).trans gx
      refine DrawZ_of' (fun b => b = h3.nxt ∨ b = h6.nxt) [0, 1, 0, 0, 8, 24, 60, 124, 252, 511, 1023, 2047] (by rfl) (by rfl) (fun b hb => by rcases hb with rfl | rfl <;> omega) ?_
      simp (disch := first | ((try simp only [heapN]) <;> omega) | fail) only [go_sem, seval]
      refine LoadK_ofZ rfl (.inr rfl) ?_
      simp (disch := first | ((try simp only [heapN]) <;> omega) | fail) only [go_sem, seval, gDz]
      refine LoadK_ofZ rfl (.inl rfl) ?_
      simp (disch := first | ((try simp only [heapN]) <;> omega) | fail) only [go_sem, seval, gBz]
      refine callV_ofU F_47 rfl ((Num_uf (m := tn) (P9.ext (Ext.bump _ _)) (by omega) (by omega)).mono ?_)
      rintro v9 h10 ⟨u10, P10, at_, hat, rfl⟩
      have hn10 := u10.nxt
      simp only [bump_nxt] at hn10
      have k10 : ∀ b, b ≠ h4.nxt → b < h9.nxt → h10.get b = h9.get b := fun b h1 h2 => (u10.get b (by simp; omega) h1).trans (bump_get ..)
      refine ⟨.inl fun b hb => k10 b (by rcases hb with rfl | rfl <;> omega) (by rcases hb with rfl | rfl <;> omega), ?_⟩
      simp (disch := first | ((try simp only [heapN]) <;> omega) | fail) only [go_sem, seval]
      have u11 : Upd (· = h4.nxt) h9 (h10.put (h9.nxt + 8) (.cells [.bool true, .int .i64 (at_ : Nat)] true)) := (((Ext.bump h9 12).upd _).trans u10).putNew (by omega) _
      have R11 : LFresh h8.nxt (h10.put (h9.nxt + 8) (.cells [.bool true, .int .i64 (at_ : Nat)] true)) (.slc ra rn rc rz) rs := (Rx.upd u9 fun b hb _ e => by omega).upd u11 fun b hb _ e => by omega
      have gl : (h10.put (h9.nxt + 8) (.cells [.bool true, .int .i64 (at_ : Nat)] true)).get (h9.nxt + 8) = some (.cells [.bool true, .int .i64 (at_ : Nat)] true) := get_put_self
      have nl : (h10.put (h9.nxt + 8) (.cells [.bool true, .int .i64 (at_ : Nat)] true)).nxt = h10.nxt := by simp
      have k11 : ∀ b, b < h9.nxt → (h10.put (h9.nxt + 8) (.cells [.bool true, .int .i64 (at_ : Nat)] true)).get b = h10.get b := fun b hb => get_put_ne (by omega)
      generalize (h10.put (h9.nxt + 8) (.cells [.bool true, .int .i64 (at_ : Nat)] true)) = h11 at *
      refine fappend (m := h8.nxt) (xs := rs) (y := (⟨true, (at_ : Nat)⟩ : GSym)) T_60 rfl T_66 rfl (by decide) (by decide) R11 (LSlc.lit (b := h9.nxt + 8) (ls := [[.bool true, .int .i64 (at_ : Nat)]]) (by omega) gl rfl (Reps.one (x := (⟨true, (at_ : Nat)⟩ : GSym)) rfl) rfl rfl) (by omega) (by simp [roomA]; omega) ?_
      intro v12 h12 R12 u12 b12
      obtain ⟨va, vn, vc, vz, rfl, hvn⟩ := R12.form
      have hn12 := u12.nxt
      have gx12 := (u12.get h6.nxt (by omega) (fun e => by have := R11.blk e; omega)).trans ((k11 _ (by omega)).trans ((k10 _ (by omega) (by omega)).trans gDz))
      simp (disch := first | ((try simp only [heapN]) <;> omega) | fail) only [go_sem, seval]
      refine ⟨.inl fun b hb => (u12.get b (by rcases hb with rfl | rfl <;> omega) (fun e => by have := R11.blk e; rcases hb with rfl | rfl <;> omega)).trans (k11 b (by rcases hb with rfl | rfl <;> omega)), ?_⟩
      simp (disch := first | ((try simp only [heapN]) <;> omega) | fail) only [go_sem, seval, gx12]
      refine ⟨.inr (by rfl), ?_⟩
      have u13 : Upd (· = h6.nxt) h12 (h12.put h6.nxt (.cells [.int .i64 (left : Nat), .slc va vn vc vz, .slc none 0 (some 0) 0] true)) := Upd.put _ rfl fun cs e => by rw [gx12] at e; simp at e
      have gz : (h12.put h6.nxt (.cells [.int .i64 (left : Nat), .slc va vn vc vz, .slc none 0 (some 0) 0] true)).get h6.nxt = some (.cells [.int .i64 (left : Nat), .slc va vn vc vz, .slc none 0 (some 0) 0] true) := get_put_self
      generalize (h12.put h6.nxt (.cells [.int .i64 (left : Nat), .slc va vn vc vz, .slc none 0 (some 0) 0] true)) = hz at *
      have uz : Upd (fun b => b = h4.nxt ∨ b = h6.nxt) h8 hz := (((ux.trans (u9.weak fun b _ e => .inl e)).trans (u11.weak fun b _ e => .inl e)).trans' u12 fun b e hb => by have := R11.blk e; omega).trans (u13.weak fun b _ e => .inr e)
      have Rz : LFresh h8.nxt hz (.slc va vn vc vz) (rs ++ [(⟨true, (at_ : Nat)⟩ : GSym)]) := R12.upd u13 fun b hb _ e => by omega
      have hSz : ∀ s ∈ rs ++ [(⟨true, (at_ : Nat)⟩ : GSym)], SymK g.toks g.nts.length s := fun s hs => by
        rcases List.mem_append.1 hs with hs | hs
        · exact hSy s hs
        · simp only [List.mem_singleton] at hs
          subst hs
          exact ⟨by simp, fun _ => M.tokAt (by simp only [Int.toNat_natCast]; omega), fun e => by cases e⟩
      have hlz : (rs ++ [(⟨true, (at_ : Nat)⟩ : GSym)]).length ≤ 5 := by simp; omega
      have gBy : h12.get h3.nxt = _ := (u12.get h3.nxt (by omega) (fun e => by have := R11.blk e; omega)).trans ((k11 _ (by omega)).trans ((k10 _ (by omega) (by omega)).trans gBz))
      clear u13 gx12
      simp (disch := first | ((try simp only [heapN]) <;> omega) | fail) only [go_sem, seval, gBy]
      have hnz := uz.nxt
      have gBz := (uz.get h3.nxt (by omega) (by omega)).trans g58
      have e12 : Ext hz ((hz.add (.cells [.slc none 0 (some 0) 0, .slc none 0 (some 0) 0, .slc none 0 (some 0) 0] true)).put hz.nxt (.cells [.slc ta tn tc tz, .slc na nn nc nz, .slc pa pn pc pz] true)) := (Ext.add _ _).put (Nat.le_refl _)
      have g12 : ((hz.add (.cells [.slc none 0 (some 0) 0, .slc none 0 (some 0) 0, .slc none 0 (some 0) 0] true)).put hz.nxt (.cells [.slc ta tn tc tz, .slc na nn nc nz, .slc pa pn pc pz] true)).get hz.nxt = some (.cells [.slc ta tn tc tz, .slc na nn nc nz, .slc pa pn pc pz] true) := get_put_self
      have n12 : ((hz.add (.cells [.slc none 0 (some 0) 0, .slc none 0 (some 0) 0, .slc none 0 (some 0) 0] true)).put hz.nxt (.cells [.slc ta tn tc tz, .slc na nn nc nz, .slc pa pn pc pz] true)).nxt = hz.nxt + 1 := by simp
      generalize ((hz.add (.cells [.slc none 0 (some 0) 0, .slc none 0 (some 0) 0, .slc none 0 (some 0) 0] true)).put hz.nxt (.cells [.slc ta tn tc tz, .slc na nn nc nz, .slc pa pn pc pz] true)) = h12 at *
      have gB12 := (e12.get _ (by omega)).trans gBz
      have gD12 := (e12.get _ (by omega)).trans gz
      refine DrawU_of' (fun b => b = h3.nxt ∨ b = h6.nxt) [0, 0, 2, 7, 0, 16, 63, 127, 255] (by rfl) (by rfl) (fun b hb => by rcases hb with rfl | rfl <;> omega) ?_
      simp (disch := first | ((try simp only [heapN]) <;> omega) | fail) only [go_sem, seval]
      refine LoadK_ofU rfl (.inl rfl) ?_
      simp (disch := first | ((try simp only [heapN]) <;> omega) | fail) only [go_sem, seval, gB12]
      have nA : ((h12.bump 9).put h12.nxt (.cells [] true)).nxt = h12.nxt + 9 := by simp
      have eA : Ext h12 ((h12.bump 9).put h12.nxt (.cells [] true)) := (Ext.bump _ _).put (by omega)
      generalize ((h12.bump 9).put h12.nxt (.cells [] true)) = hA at *
      have p3A : Pst h3 hA := (p38.trans uz.pst).trans (e12.trans eA).pst
      refine fappends (m := h12.nxt) (xs := ([] : List (Opq 3))) (ys := os) T_48 rfl T_63 rfl (by decide) (by decide) ⟨[], .inl ⟨rfl, _, _, rfl, fun _ => rfl⟩, .nil⟩ (oP.pst p3A).slc (by omega) (by simp [roomA]; omega) ?_
      intro v13 h13 G13 w13 b13
      rw [List.nil_append] at G13
      obtain ⟨xa', xn', xc', xz', rfl, hxn'⟩ := G13.form
      have e1213 : Ext h12 h13 := (eA.upd fun _ => False).trans' w13 (fun b e hb => by simp [AV.blk] at e) |>.ext fun b hb f => f
      have hn13 := w13.nxt
      have gD13 := (e1213.get _ (by omega)).trans gD12
      have b13' : ∀ b, (AV.slc xa' xn' xc' xz').blk = some b → h12.nxt + 9 ≤ b := fun b e => by
        rcases b13 b e with e | e
        · simp [AV.blk] at e
        · omega
      simp (disch := first | ((try simp only [heapN]) <;> omega) | fail) only [go_sem, seval]
      refine ⟨fun b hb => (e1213.get b (by rcases hb with rfl | rfl <;> omega)), ?_⟩
      refine LoadK_ofU rfl (.inr rfl) ?_
      simp (disch := first | ((try simp only [heapN]) <;> omega) | fail) only [go_sem, seval, gD13]
      have w14 : Upd (fun _ => False) h12 (h13.put (h12.nxt + 5) (.cells [.int .i64 (left : Nat), .slc va vn vc vz, .slc none 0 (some 0) 0] true)) := (e1213.upd _).putNew (by omega) _
      have e14 : Ext h12 (h13.put (h12.nxt + 5) (.cells [.int .i64 (left : Nat), .slc va vn vc vz, .slc none 0 (some 0) 0] true)) := w14.ext fun b hb f => f
      have G14 : LFresh h12.nxt (h13.put (h12.nxt + 5) (.cells [.int .i64 (left : Nat), .slc va vn vc vz, .slc none 0 (some 0) 0] true)) (.slc xa' xn' xc' xz') os := by
        obtain ⟨ls, s1, s2⟩ := G13
        exact ⟨ls, s1.keep (by simp) fun c h1 h2 h3 => get_put_ne (by have := b13' c h3; omega), opq_keep s2⟩
      have gl14 : (h13.put (h12.nxt + 5) (.cells [.int .i64 (left : Nat), .slc va vn vc vz, .slc none 0 (some 0) 0] true)).get (h12.nxt + 5) = some (.cells [.int .i64 (left : Nat), .slc va vn vc vz, .slc none 0 (some 0) 0] true) := get_put_self
      have n14 : (h13.put (h12.nxt + 5) (.cells [.int .i64 (left : Nat), .slc va vn vc vz, .slc none 0 (some 0) 0] true)).nxt = h13.nxt := by simp
      have k14 : ∀ b, b < h12.nxt + 5 → (h13.put (h12.nxt + 5) (.cells [.int .i64 (left : Nat), .slc va vn vc vz, .slc none 0 (some 0) 0] true)).get b = h13.get b := fun b hb => get_put_ne (by omega)
      generalize (h13.put (h12.nxt + 5) (.cells [.int .i64 (left : Nat), .slc va vn vc vz, .slc none 0 (some 0) 0] true)) = h14 at *
      refine fappends (m := h12.nxt) (xs := os) (ys := ([⟨[.int .i64 (left : Nat), .slc va vn vc vz, .slc none 0 (some 0) 0]⟩] : List (Opq 3))) T_48 rfl T_63 rfl (by decide) (by decide) G14 (LSlc.lit (b := h12.nxt + 5) (ls := [[.int .i64 (left : Nat), .slc va vn vc vz, .slc none 0 (some 0) 0]]) (by omega) gl14 rfl (Reps.one (α := Opq 3) ⟨rfl, rfl, rfl⟩) rfl rfl) (by omega) (by simp [roomA]; omega) ?_
      intro v15 h15 G15 w15 b15
      obtain ⟨ya, yn, yc, yz, rfl, hyn⟩ := G15.form
      have e15 : Ext h12 h15 := ((e14.upd (h12.nxt ≤ ·)).trans' w15 fun b e hb => G14.blk e).ext fun b hb => by omega
      have hn15 := w15.nxt
      have k15 : ∀ b, b < h12.nxt → h15.get b = h13.get b := fun b hb => (e15.get b hb).trans (e1213.get b hb).symm
      simp (disch := first | ((try simp only [heapN]) <;> omega) | fail) only [go_sem, seval]
      refine ⟨fun b hb => k15 b (by rcases hb with rfl | rfl <;> omega), ?_⟩
      simp (disch := first | ((try simp only [heapN]) <;> omega) | fail) only [go_sem, seval, (e15.get hz.nxt (by omega)).trans g12]
      have uB : Upd (· = hz.nxt) h15 (h15.put hz.nxt (.cells [.slc ta tn tc tz, .slc na nn nc nz, .slc ya yn yc yz] true)) := Upd.put _ rfl fun cs e => by rw [(e15.get hz.nxt (by omega)).trans g12] at e; simp at e
      have gB : (h15.put hz.nxt (.cells [.slc ta tn tc tz, .slc na nn nc nz, .slc ya yn yc yz] true)).get hz.nxt = some (.cells [.slc ta tn tc tz, .slc na nn nc nz, .slc ya yn yc yz] true) := get_put_self
      refine ⟨fun b hb => get_put_ne (by rcases hb with rfl | rfl <;> omega), ?_⟩
      generalize (h15.put hz.nxt (.cells [.slc ta tn tc tz, .slc na nn nc nz, .slc ya yn yc yz] true)) = hB at *
      have hnB := uB.nxt
      have gA : hB.get h3.nxt = some (.cells [.slc ta tn tc tz, .slc na nn nc nz, .slc pa pn pc pz] true) := (uB.get _ (by omega) (by omega)).trans ((e15.get _ (by omega)).trans gB12)
      have pB : Pst h3 hB := ((p38.trans uz.pst).trans (e12.trans e15).pst).trans uB.pst
      have GB : LFresh h12.nxt (hB.bump 9) (.slc ya yn yc yz) (os ++ [(⟨[.int .i64 (left : Nat), .slc va vn vc vz, .slc none 0 (some 0) 0]⟩ : Opq 3)]) := (G15.upd uB fun b hb _ e => by omega).ext (Ext.bump _ 9)
      have RB : LFresh h8.nxt (hB.bump 9) (.slc va vn vc vz) (rs ++ [(⟨true, (at_ : Nat)⟩ : GSym)]) := ((Rz.ext (e12.trans e15)).upd uB fun b hb e2 e => by have := Rz.lt e2; omega).ext (Ext.bump _ 9)
      obtain ⟨f1, lf1, nf1, L1, uf1⟩ := GB.frz
      obtain ⟨f2, lf2, nf2, L2, uf2⟩ := (RB.upd uf1 fun b hb e2 e => by have := Rz.lt e2; have := e.1; omega).frz
      have lF := lf2.trans lf1
      have uF : Upd (fun b => h8.nxt ≤ b ∧ b ≠ hz.nxt) (hB.bump 9) f2 := (uf1.weak fun b _ e => by have := e.1; omega).trans (uf2.weak fun b _ e => by have := Rz.lt e.2; have := e.1; omega)
      have pF : Pst h3 f2 := (pB.trans (Ext.bump _ 9).pst).trans uF.pst
      have LpF : Lst f2 (.slc ya yn yc yz) (g.prods ++ [(⟨(left : Nat), (rs ++ [(⟨true, (at_ : Nat)⟩ : GSym)]), []⟩ : GProd)]) := Lst.unopq (n := 3) (L1.pst uf2.pst) (by
        rw [List.map_append]
        exact (rP.pst pF).app (Reps.one (x := (⟨(left : Nat), (rs ++ [(⟨true, (at_ : Nat)⟩ : GSym)]), []⟩ : GProd)) ⟨_, _, rfl, L2, Lst.nil⟩)) rfl
      have hnF := uF.nxt
      simp only [bump_nxt] at hnF
      obtain ⟨g', hg'⟩ : ∃ g' : Gm, g' = ⟨g.toks, g.nts, g.prods ++ [(⟨(left : Nat), (rs ++ [(⟨true, (at_ : Nat)⟩ : GSym)]), []⟩ : GProd)]⟩ := ⟨_, rfl⟩
      have MM' : MayG g' := by
        subst hg'
        refine ⟨MM.tl, MM.nl, ⟨by simp, by simp; omega⟩, MM.names, MM.attrs, fun p hp => ?_⟩
        rcases List.mem_append.1 hp with hp | hp
        · exact MM.prods p hp
        · simp only [List.mem_singleton] at hp
          subst hp
          exact ⟨⟨by simp, by simp only; omega⟩, hlz, hSz⟩
      have hgt : g'.toks = g.toks := by rw [hg']
      have hgn : g'.nts = g.nts := by rw [hg']
      have hgp : ∀ p ∈ g.prods, p ∈ g'.prods := fun p hp => by rw [hg']; exact List.mem_append_left _ hp
      have LpF' : Lst f2 (.slc ya yn yc yz) g'.prods := by rw [hg']; exact LpF
      clear hg' LpF L1
      refine DrawU_of' (fun b => b = h3.nxt) [0, 1, 0, 7, 0, 31, 63, 127, 255] (by rfl) (by rfl) (fun b hb => by subst hb; omega) ?_
      simp (disch := first | ((try simp only [heapN]) <;> omega) | fail) only [go_sem, seval]
      refine LoadK_ofU rfl rfl ?_
      simp (disch := first | ((try simp only [heapN]) <;> omega) | fail) only [go_sem, seval, gA]
      have LtF := Lt.pst pF
      have LnF := Ln.pst pF
      have LpG := Lp.pst pF
      refine callV_ofU F_37 rfl ((UF.less lF (Nullable_uf LtF LnF LpG MM)).mono ?_)
      rintro v17 h17 ⟨e17, N17⟩
      have hn17 := e17.nxt
      have k17 : ∀ b, b < hz.nxt + 1 → (b < h8.nxt ∨ b = hz.nxt) → h17.get b = hB.get b := fun b h1 h2 => (e17.get b (by omega)).trans ((uF.get b (by simp; omega) (by omega)).trans (bump_get ..))
      have gA17 := (k17 h3.nxt (by omega) (.inl (by omega))).trans gA
      refine ⟨fun b hb => by subst hb; exact gA17.trans gA.symm, ?_⟩
      simp (disch := first | ((try simp only [heapN]) <;> omega) | fail) only [go_sem, seval]
      refine LoadK_ofU rfl rfl ?_
      simp (disch := first | ((try simp only [heapN]) <;> omega) | fail) only [go_sem, seval, gA17]
      refine callV_ofU F_39 rfl ((First_uf (LtF.ext e17) (LnF.ext e17) (LpG.ext e17) MM).mono ?_)
      rintro v18 h18 ⟨e18, fb1, bl1, rfl, tb1, _, _⟩
      have hn18 := e18.nxt
      have gA18 := (e18.get h3.nxt (by omega)).trans gA17
      refine ⟨fun b hb => by subst hb; exact gA18.trans gA17.symm, ?_⟩
      simp (disch := first | ((try simp only [heapN]) <;> omega) | fail) only [go_sem, seval]
      refine LoadK_ofU rfl rfl ?_
      simp (disch := first | ((try simp only [heapN]) <;> omega) | fail) only [go_sem, seval, gA18]
      have e178 := e17.trans e18
      refine callV_ofU F_40 rfl ((Follow_uf (LtF.ext e178) (LnF.ext e178) (LpG.ext e178) MM).mono ?_)
      rintro v19 h19 ⟨e19, ob1, bl2, fo1, rfl, tb2, FO1, _, _⟩
      have hn19 := e19.nxt
      have gA19 := (e19.get h3.nxt (by omega)).trans gA18
      refine ⟨fun b hb => by subst hb; exact gA19.trans gA18.symm, ?_⟩
      simp (disch := first | ((try simp only [heapN]) <;> omega) | fail) only [go_sem, seval]
      have e19F := e178.trans e19
      have gC := (e19F.get hz.nxt (by omega)).trans ((uF.get _ (by simp; omega) (by omega)).trans ((bump_get ..).trans gB))
      refine DrawU_of' (fun b => b = hz.nxt) [0, 1, 0, 7, 0, 31, 63, 127, 255] (by rfl) (by rfl) (fun b hb => by subst hb; omega) ?_
      simp (disch := first | ((try simp only [heapN]) <;> omega) | fail) only [go_sem, seval]
      refine LoadK_ofU rfl rfl ?_
      simp (disch := first | ((try simp only [heapN]) <;> omega) | fail) only [go_sem, seval, gC]
      have LtC := (LtF.ext e19F).ext (Ext.bump h19 9)
      have LnC := (LnF.ext e19F).ext (Ext.bump h19 9)
      have LpC := (LpF'.ext e19F).ext (Ext.bump h19 9)
      rw [← hgt] at LtC
      rw [← hgn] at LnC
      refine callV_ofU F_37 rfl ((Nullable_uf LtC LnC LpC MM').mono ?_)
      rintro v20 h20 ⟨e20, N20⟩
      have e20' := (Ext.bump h19 9).trans e20
      have gC20 := (e20'.get hz.nxt (by omega)).trans gC
      have hn20 := e20'.nxt
      refine ⟨fun b hb => by subst hb; exact gC20.trans gC.symm, ?_⟩
      simp (disch := first | ((try simp only [heapN]) <;> omega) | fail) only [go_sem, seval]
      refine LoadK_ofU rfl rfl ?_
      simp (disch := first | ((try simp only [heapN]) <;> omega) | fail) only [go_sem, seval, gC20]
      refine callV_ofU F_39 rfl ((First_uf (LtC.ext e20) (LnC.ext e20) (LpC.ext e20) MM').mono ?_)
      rintro v21 h21 ⟨e21, fb2, bl3, rfl, tb3, _, _⟩
      have gC21 := (e21.get hz.nxt (by omega)).trans gC20
      have hn21 := e21.nxt
      refine ⟨fun b hb => by subst hb; exact gC21.trans gC20.symm, ?_⟩
      simp (disch := first | ((try simp only [heapN]) <;> omega) | fail) only [go_sem, seval]
      refine LoadK_ofU rfl rfl ?_
      simp (disch := first | ((try simp only [heapN]) <;> omega) | fail) only [go_sem, seval, gC21]
      refine callV_ofU F_40 rfl ((Follow_uf ((LtC.ext e20).ext e21) ((LnC.ext e20).ext e21) ((LpC.ext e20).ext e21) MM').mono ?_)
      rintro v22 h22 ⟨e22, ob2, bl4, fo2, rfl, tb4, FO2, _, _⟩
      have gC22 := (e22.get hz.nxt (by omega)).trans gC21
      have hn22 := e22.nxt
      refine ⟨fun b hb => by subst hb; exact gC22.trans gC21.symm, ?_⟩
      simp (disch := first | ((try simp only [heapN]) <;> omega) | fail) only [go_sem, seval]
      have R2 := firL_rows MM'
      have R4 := FO2.rows
      have R1 := firL_rows MM
      have R3 := FO1.rows
      have M2 := fir_more (t := g.toks.length) (n := g.nts.length) (ps := g.prods) (qs := g'.prods) (by rw [← hgn]; exact MM'.left) hgp
      have M1 := nul_more (n := g.nts.length) (ps := g.prods) (qs := g'.prods) (by rw [← hgn]; exact MM'.left) hgp
      have M3 := fol_more FO1 FO2 (by rw [hgt]) (by rw [hgn]) (by rw [← hgn]; exact MM'.left) hgp
      have hu1 := nulL_len g.nts.length g.prods
      have hu2 := nulL_len g.nts.length g'.prods
      rw [hgn] at N20
      rw [hgt, hgn] at tb3 R2 R4
      rw [hgt] at tb4
      rw [hgn]
      have e1922 := (e20'.trans e21).trans e22
      have N17' := (N17.ext (e18.trans e19)).ext e1922
      have N20' := N20.ext (e21.trans e22)
      have tb1' := tb1.ext (e19.trans e1922)
      have tb2' := tb2.ext e1922
      have tb3' := tb3.ext e22
      generalize nulL g.nts.length g.prods = nu1 at *
      generalize nulL g.nts.length g'.prods = nu2 at *
      generalize firL g.toks.length g.nts.length g.prods = fi1 at *
      generalize firL g.toks.length g.nts.length g'.prods = fi2 at *
      obtain ⟨ua, un, uc, uz', rfl, hun⟩ := N17'.form
      obtain ⟨xa2, xn2, xc2, xz2, rfl, hxn2⟩ := N20'.form
      have q1 : (un : Int) = (nn : Int) := by omega
      have q2 : (xn2 : Int) = (nn : Int) := by omega
      have q3 : ((g.nts.length : Nat) : Int) = (nn : Int) := by omega
      have gA22 := (e1922.get h3.nxt (by omega)).trans gA19
      simp (disch := first | ((try simp only [heapN]) <;> omega) | fail) only [go_sem, seval, q1, q2, q3, gA22]
      refine LoopU_while (fun m st hh => ∃ (i : Nat), i ≤ nn ∧ m = nn - i ∧ Ext h22 hh ∧ Keep st 176 [(10, .slc ua un uc uz'), (11, .slc (some (fb1, 0)) g.nts.length (some g.nts.length) 1), (12, .slc (some (ob1, 0)) g.nts.length (some g.nts.length) 1), (13, .slc xa2 xn2 xc2 xz2), (14, .slc (some (fb2, 0)) g.nts.length (some g.nts.length) 1), (15, .slc (some (ob2, 0)) g.nts.length (some g.nts.length) 1), (16, .int .i64 (i : Nat))]) nn
        ⟨0, by omega, by omega, Ext.refl _, rfl, by simp [Has]⟩ ?_
      clear hk k5 k6 k7 k8
      rintro m st hh ⟨i, hi, rfl, eh, hk⟩
      rw [hk.eq]
      obtain ⟨k10, k11, k12, k13, k14, k15, k16, -⟩ := hk.2
      simp only [slotsFrom, Nat.reduceAdd] at k10 k11 k12 k13 k14 k15 k16 ⊢
      simp only [k10, k11, k12, k13, k14, k15, k16]
      by_cases hlt : (i : Int) < (un : Int)
      · have hil : i < nn := by omega
        simp (disch := first | ((try simp only [heapN]) <;> omega) | fail) only [go_sem, seval, hlt]
        have hi1 : i < nu1.length := by omega
        have hi2 : i < nu2.length := by omega
        have hw1 := M1 i
        unfold B1 at hw1
        rw [List.getD_eq_getElem?_getD, List.getD_eq_getElem?_getD, List.getElem?_eq_getElem hi1, List.getElem?_eq_getElem hi2, Option.getD_some, Option.getD_some] at hw1
        obtain ⟨b1, o1, cs1, l1', rfl, rfl, hb1, hg1, rfl, hr1, ht1, hc1⟩ := (N17'.ext eh).at_ (i := i) (x := nu1[i]) (List.getElem?_eq_getElem hi1) (k := 1) rfl
        obtain ⟨b2, o2, cs2, l2', rfl, rfl, hb2, hg2, rfl, hr2, ht2, hc2⟩ := (N20'.ext eh).at_ (i := i) (x := nu2[i]) (List.getElem?_eq_getElem hi2) (k := 1) rfl
        have c1 : cs1[o1 + i * 1]? = some (.bool nu1[i]) := hc1 0 (by decide)
        have c2 : cs2[o2 + i * 1]? = some (.bool nu2[i]) := hc2 0 (by decide)
        generalize nu1[i] = y1 at *
        generalize nu2[i] = y2 at *
        have j1 : i < fi1.length := by rw [R1.len]; omega
        have jb1 : i < bl1.length := by rw [tb1'.len]; exact j1
        have gt1 := (tb1'.ext eh).get
        have ct1 : (bl1.map fun b => AV.slc (some (b, 0)) g.toks.length (some g.toks.length) 1)[i * 1]? = some (.slc (some (bl1[i], 0)) g.toks.length (some g.toks.length) 1) := by rw [Nat.mul_one, List.getElem?_map, List.getElem?_eq_getElem jb1]; rfl
        obtain ⟨hr1, Bt1⟩ := (tb1'.ext eh).row i bl1[i] fi1[i] (List.getElem?_eq_getElem jb1) (List.getElem?_eq_getElem j1)
        have j2 : i < fi2.length := by rw [R2.len]; omega
        have jb2 : i < bl3.length := by rw [tb3'.len]; exact j2
        have gt2 := (tb3'.ext eh).get
        have ct2 : (bl3.map fun b => AV.slc (some (b, 0)) g.toks.length (some g.toks.length) 1)[i * 1]? = some (.slc (some (bl3[i], 0)) g.toks.length (some g.toks.length) 1) := by rw [Nat.mul_one, List.getElem?_map, List.getElem?_eq_getElem jb2]; rfl
        obtain ⟨hr2, Bt2⟩ := (tb3'.ext eh).row i bl3[i] fi2[i] (List.getElem?_eq_getElem jb2) (List.getElem?_eq_getElem j2)
        have j3 : i < fo1.length := by rw [R3.len]; omega
        have jb3 : i < bl2.length := by rw [tb2'.len]; exact j3
        have gt3 := (tb2'.ext eh).get
        have ct3 : (bl2.map fun b => AV.slc (some (b, 0)) (g.toks.length + 1) (some (g.toks.length + 1)) 1)[i * 1]? = some (.slc (some (bl2[i], 0)) (g.toks.length + 1) (some (g.toks.length + 1)) 1) := by rw [Nat.mul_one, List.getElem?_map, List.getElem?_eq_getElem jb3]; rfl
        obtain ⟨hr3, Bt3⟩ := (tb2'.ext eh).row i bl2[i] fo1[i] (List.getElem?_eq_getElem jb3) (List.getElem?_eq_getElem j3)
        have j4 : i < fo2.length := by rw [R4.len]; omega
        have jb4 : i < bl4.length := by rw [tb4.len]; exact j4
        have gt4 := (tb4.ext eh).get
        have ct4 : (bl4.map fun b => AV.slc (some (b, 0)) (g.toks.length + 1) (some (g.toks.length + 1)) 1)[i * 1]? = some (.slc (some (bl4[i], 0)) (g.toks.length + 1) (some (g.toks.length + 1)) 1) := by rw [Nat.mul_one, List.getElem?_map, List.getElem?_eq_getElem jb4]; rfl
        obtain ⟨hr4, Bt4⟩ := (tb4.ext eh).row i bl4[i] fo2[i] (List.getElem?_eq_getElem jb4) (List.getElem?_eq_getElem j4)
        have s2 : (i : Int) < (xn2 : Int) := by omega
        have s3 : (i : Int) < ((g.nts.length : Nat) : Int) := by omega
        have hw2 : ∀ t, fi1[i].getD t false = true → fi2[i].getD t false = true := fun t ht => by
          have := M2 i t
          unfold B2 at this
          rw [List.getD_eq_getElem?_getD (l := fi1), List.getD_eq_getElem?_getD (l := fi2), List.getElem?_eq_getElem j1, List.getElem?_eq_getElem j2] at this
          exact this ht
        have hw3 : ∀ t, fo1[i].getD t false = true → fo2[i].getD t false = true := fun t ht => by
          have := M3 i t
          unfold B2 at this
          rw [List.getD_eq_getElem?_getD (l := fo1), List.getD_eq_getElem?_getD (l := fo2), List.getElem?_eq_getElem j3, List.getElem?_eq_getElem j4] at this
          exact this ht
        have hnh := eh.nxt
        have T1 := tb1'.lt
        have T2 := tb2'.lt
        have T3 := tb3'.lt
        have T4 := tb4.lt
        refine DrawU_of' (fun b => b = b1 ∨ b = b2 ∨ b = fb1 ∨ b = fb2 ∨ b = ob1 ∨ b = ob2) [0, 0, 3, 7, 15, 31, 31, 127, 255, 511, 1023, 2047, 4095, 4095, 16383, 32767, 4095, 4095, 200703, 462847, 1048575, 2097151, 4194303, 8388607, 16777215, 16777215, 67108863, 134217727, 16777215, 16777215, 822083583, 1895825407, 4294967295, 8589934591, 17179869183] (by rfl) (by rfl) (fun b hb => by rcases hb with rfl | rfl | rfl | rfl | rfl | rfl <;> omega) ?_
        cases y1 with
        | false =>
          simp (disch := first | ((try simp only [heapN]) <;> omega) | fail) only [go_sem, seval, hlt]
          refine LoadK_ofU rfl (.inl rfl) ?_
          simp (disch := first | ((try simp only [heapN]) <;> omega) | fail) only [go_sem, seval, hg1, c1, Int.toNat_natCast]
          refine LoadK_ofU rfl (.inr (.inr (.inl rfl))) ?_
          simp (disch := first | ((try simp only [heapN]) <;> omega) | fail) only [go_sem, seval, gt1, ct1, s3, Int.toNat_natCast]
          refine LoadK_ofU rfl (.inr (.inr (.inr (.inl rfl)))) ?_
          simp (disch := first | ((try simp only [heapN]) <;> omega) | fail) only [go_sem, seval, gt2, ct2, s3, Int.toNat_natCast]
          refine callV_ofU F_48 rfl ((within_uf (Bt1.ext (Ext.bump _ _)) (Bt2.ext (Ext.bump _ _)) (by omega) (by omega) hw2).mono ?_)
          rintro v23 h23 ⟨e23, rfl⟩
          have eb := (Ext.bump hh _).trans e23
          have k23 : ∀ b, b < hh.nxt → h23.get b = hh.get b := fun b hb => eb.get b hb
          have hn23 := eb.nxt
          have gt3' := (k23 _ (by omega)).trans gt3
          have gt4' := (k23 _ (by omega)).trans gt4
          refine ⟨fun b hb => k23 b (by rcases hb with rfl | rfl | rfl | rfl | rfl | rfl <;> omega), ?_⟩
          simp (disch := first | ((try simp only [heapN]) <;> omega) | fail) only [go_sem, seval]
          refine LoadK_ofU rfl (.inr (.inr (.inr (.inr (.inl rfl))))) ?_
          simp (disch := first | ((try simp only [heapN]) <;> omega) | fail) only [go_sem, seval, gt3', ct3, s3, Int.toNat_natCast]
          refine LoadK_ofU rfl (.inr (.inr (.inr (.inr (.inr rfl))))) ?_
          simp (disch := first | ((try simp only [heapN]) <;> omega) | fail) only [go_sem, seval, gt4', ct4, s3, Int.toNat_natCast]
          refine callV_ofU F_48 rfl ((within_uf (Bt3.ext eb) (Bt4.ext eb) (by omega) (by omega) hw3).mono ?_)
          rintro v24 h24 ⟨e24, rfl⟩
          refine ⟨fun b hb => e24.get b (by rcases hb with rfl | rfl | rfl | rfl | rfl | rfl <;> omega), ?_⟩
          simp (disch := first | ((try simp only [heapN]) <;> omega) | fail) only [go_sem, seval]
          exact AgainK.mk (nn - (i + 1)) (by simp only; omega) ⟨i + 1, by omega, rfl, eh.trans (eb.trans e24), rfl, by simp [Has]⟩
        | true =>
          have := hw1 rfl
          subst this
          simp (disch := first | ((try simp only [heapN]) <;> omega) | fail) only [go_sem, seval, hlt]
          refine LoadK_ofU rfl (.inl rfl) ?_
          simp (disch := first | ((try simp only [heapN]) <;> omega) | fail) only [go_sem, seval, hg1, c1, s2, Int.toNat_natCast]
          refine LoadK_ofU rfl (.inr (.inl rfl)) ?_
          simp (disch := first | ((try simp only [heapN]) <;> omega) | fail) only [go_sem, seval, hg2, c2, Int.toNat_natCast]
          refine LoadK_ofU rfl (.inr (.inr (.inl rfl))) ?_
          simp (disch := first | ((try simp only [heapN]) <;> omega) | fail) only [go_sem, seval, gt1, ct1, s3, Int.toNat_natCast]
          refine LoadK_ofU rfl (.inr (.inr (.inr (.inl rfl)))) ?_
          simp (disch := first | ((try simp only [heapN]) <;> omega) | fail) only [go_sem, seval, gt2, ct2, s3, Int.toNat_natCast]
          refine callV_ofU F_48 rfl ((within_uf (Bt1.ext (Ext.bump _ _)) (Bt2.ext (Ext.bump _ _)) (by omega) (by omega) hw2).mono ?_)
          rintro v23 h23 ⟨e23, rfl⟩
          have eb := (Ext.bump hh _).trans e23
          have k23 : ∀ b, b < hh.nxt → h23.get b = hh.get b := fun b hb => eb.get b hb
          have hn23 := eb.nxt
          have gt3' := (k23 _ (by omega)).trans gt3
          have gt4' := (k23 _ (by omega)).trans gt4
          refine ⟨fun b hb => k23 b (by rcases hb with rfl | rfl | rfl | rfl | rfl | rfl <;> omega), ?_⟩
          simp (disch := first | ((try simp only [heapN]) <;> omega) | fail) only [go_sem, seval]
          refine LoadK_ofU rfl (.inr (.inr (.inr (.inr (.inl rfl))))) ?_
          simp (disch := first | ((try simp only [heapN]) <;> omega) | fail) only [go_sem, seval, gt3', ct3, s3, Int.toNat_natCast]
          refine LoadK_ofU rfl (.inr (.inr (.inr (.inr (.inr rfl))))) ?_
          simp (disch := first | ((try simp only [heapN]) <;> omega) | fail) only [go_sem, seval, gt4', ct4, s3, Int.toNat_natCast]
          refine callV_ofU F_48 rfl ((within_uf (Bt3.ext eb) (Bt4.ext eb) (by omega) (by omega) hw3).mono ?_)
          rintro v24 h24 ⟨e24, rfl⟩
          refine ⟨fun b hb => e24.get b (by rcases hb with rfl | rfl | rfl | rfl | rfl | rfl <;> omega), ?_⟩
          simp (disch := first | ((try simp only [heapN]) <;> omega) | fail) only [go_sem, seval]
          exact AgainK.mk (nn - (i + 1)) (by simp only; omega) ⟨i + 1, by omega, rfl, eh.trans (eb.trans e24), rfl, by simp [Has]⟩
      · simp (disch := first | ((try simp only [heapN]) <;> omega) | fail) only [go_sem, seval, hlt]
        exact hQ _ _ rfl
    · simp (disch := first | ((try simp only [heapN]) <;> omega) | fail) only [go_sem, seval, hc0]
      have uz := ux.trans (u9.weak fun b _ e => .inl e)
      have gz := (u9.get _ (by omega) (by omega)).trans gx
      have Rz : LFresh h8.nxt h9 (.slc ra rn rc rz) rs := Rx.upd u9 fun b hb _ e => by omega
      have hSz := hSy
      have gBy := (u9.get h3.nxt (by omega) (by omega)).trans gBx
      have hlz : rs.length ≤ 5 := by omega
      simp (disch := first | ((try simp only [heapN]) <;> omega) | fail) only [go_sem, seval, gBy]
      have hnz := uz.nxt
      have gBz := (uz.get h3.nxt (by omega) (by omega)).trans g58
      have e12 : Ext h9 ((h9.add (.cells [.slc none 0 (some 0) 0, .slc none 0 (some 0) 0, .slc none 0 (some 0) 0] true)).put h9.nxt (.cells [.slc ta tn tc tz, .slc na nn nc nz, .slc pa pn pc pz] true)) := (Ext.add _ _).put (Nat.le_refl _)
      have g12 : ((h9.add (.cells [.slc none 0 (some 0) 0, .slc none 0 (some 0) 0, .slc none 0 (some 0) 0] true)).put h9.nxt (.cells [.slc ta tn tc tz, .slc na nn nc nz, .slc pa pn pc pz] true)).get h9.nxt = some (.cells [.slc ta tn tc tz, .slc na nn nc nz, .slc pa pn pc pz] true) := get_put_self
      have n12 : ((h9.add (.cells [.slc none 0 (some 0) 0, .slc none 0 (some 0) 0, .slc none 0 (some 0) 0] true)).put h9.nxt (.cells [.slc ta tn tc tz, .slc na nn nc nz, .slc pa pn pc pz] true)).nxt = h9.nxt + 1 := by simp
      generalize ((h9.add (.cells [.slc none 0 (some 0) 0, .slc none 0 (some 0) 0, .slc none 0 (some 0) 0] true)).put h9.nxt (.cells [.slc ta tn tc tz, .slc na nn nc nz, .slc pa pn pc pz] true)) = h12 at *
      have gB12 := (e12.get _ (by omega)).trans gBz
      have gD12 := (e12.get _ (by omega)).trans gz
      refine DrawU_of' (fun b => b = h3.nxt ∨ b = h6.nxt) [0, 0, 2, 7, 0, 16, 63, 127, 255] (by rfl) (by rfl) (fun b hb => by rcases hb with rfl | rfl <;> omega) ?_
      simp (disch := first | ((try simp only [heapN]) <;> omega) | fail) only [go_sem, seval]
      refine LoadK_ofU rfl (.inl rfl) ?_
      simp (disch := first | ((try simp only [heapN]) <;> omega) | fail) only [go_sem, seval, gB12]
      have nA : ((h12.bump 9).put h12.nxt (.cells [] true)).nxt = h12.nxt + 9 := by simp
      have eA : Ext h12 ((h12.bump 9).put h12.nxt (.cells [] true)) := (Ext.bump _ _).put (by omega)
      generalize ((h12.bump 9).put h12.nxt (.cells [] true)) = hA at *
      have p3A : Pst h3 hA := (p38.trans uz.pst).trans (e12.trans eA).pst
      refine fappends (m := h12.nxt) (xs := ([] : List (Opq 3))) (ys := os) T_48 rfl T_63 rfl (by decide) (by decide) ⟨[], .inl ⟨rfl, _, _, rfl, fun _ => rfl⟩, .nil⟩ (oP.pst p3A).slc (by omega) (by simp [roomA]; omega) ?_
      intro v13 h13 G13 w13 b13
      rw [List.nil_append] at G13
      obtain ⟨xa', xn', xc', xz', rfl, hxn'⟩ := G13.form
      have e1213 : Ext h12 h13 := (eA.upd fun _ => False).trans' w13 (fun b e hb => by simp [AV.blk] at e) |>.ext fun b hb f => f
      have hn13 := w13.nxt
      have gD13 := (e1213.get _ (by omega)).trans gD12
      have b13' : ∀ b, (AV.slc xa' xn' xc' xz').blk = some b → h12.nxt + 9 ≤ b := fun b e => by
        rcases b13 b e with e | e
        · simp [AV.blk] at e
        · omega
      simp (disch := first | ((try simp only [heapN]) <;> omega) | fail) only [go_sem, seval]
      refine ⟨fun b hb => (e1213.get b (by rcases hb with rfl | rfl <;> omega)), ?_⟩
      refine LoadK_ofU rfl (.inr rfl) ?_
      simp (disch := first | ((try simp only [heapN]) <;> omega) | fail) only [go_sem, seval, gD13]
      have w14 : Upd (fun _ => False) h12 (h13.put (h12.nxt + 5) (.cells [.int .i64 (left : Nat), .slc ra rn rc rz, .slc none 0 (some 0) 0] true)) := (e1213.upd _).putNew (by omega) _
      have e14 : Ext h12 (h13.put (h12.nxt + 5) (.cells [.int .i64 (left : Nat), .slc ra rn rc rz, .slc none 0 (some 0) 0] true)) := w14.ext fun b hb f => f
      have G14 : LFresh h12.nxt (h13.put (h12.nxt + 5) (.cells [.int .i64 (left : Nat), .slc ra rn rc rz, .slc none 0 (some 0) 0] true)) (.slc xa' xn' xc' xz') os := by
        obtain ⟨ls, s1, s2⟩ := G13
        exact ⟨ls, s1.keep (by simp) fun c h1 h2 h3 => get_put_ne (by have := b13' c h3; omega), opq_keep s2⟩
      have gl14 : (h13.put (h12.nxt + 5) (.cells [.int .i64 (left : Nat), .slc ra rn rc rz, .slc none 0 (some 0) 0] true)).get (h12.nxt + 5) = some (.cells [.int .i64 (left : Nat), .slc ra rn rc rz, .slc none 0 (some 0) 0] true) := get_put_self
      have n14 : (h13.put (h12.nxt + 5) (.cells [.int .i64 (left : Nat), .slc ra rn rc rz, .slc none 0 (some 0) 0] true)).nxt = h13.nxt := by simp
      have k14 : ∀ b, b < h12.nxt + 5 → (h13.put (h12.nxt + 5) (.cells [.int .i64 (left : Nat), .slc ra rn rc rz, .slc none 0 (some 0) 0] true)).get b = h13.get b := fun b hb => get_put_ne (by omega)
      generalize (h13.put (h12.nxt + 5) (.cells [.int .i64 (left : Nat), .slc ra rn rc rz, .slc none 0 (some 0) 0] true)) = h14 at *
      refine fappends (m := h12.nxt) (xs := os) (ys := ([⟨[.int .i64 (left : Nat), .slc ra rn rc rz, .slc none 0 (some 0) 0]⟩] : List (Opq 3))) T_48 rfl T_63 rfl (by decide) (by decide) G14 (LSlc.lit (b := h12.nxt + 5) (ls := [[.int .i64 (left : Nat), .slc ra rn rc rz, .slc none 0 (some 0) 0]]) (by omega) gl14 rfl (Reps.one (α := Opq 3) ⟨rfl, rfl, rfl⟩) rfl rfl) (by omega) (by simp [roomA]; omega) ?_
      intro v15 h15 G15 w15 b15
      obtain ⟨ya, yn, yc, yz, rfl, hyn⟩ := G15.form
      have e15 : Ext h12 h15 := ((e14.upd (h12.nxt ≤ ·)).trans' w15 fun b e hb => G14.blk e).ext fun b hb => by omega
      have hn15 := w15.nxt
      have k15 : ∀ b, b < h12.nxt → h15.get b = h13.get b := fun b hb => (e15.get b hb).trans (e1213.get b hb).symm
      simp (disch := first | ((try simp only [heapN]) <;> omega) | fail) only [go_sem, seval]
      refine ⟨fun b hb => k15 b (by rcases hb with rfl | rfl <;> omega), ?_⟩
      simp (disch := first | ((try simp only [heapN]) <;> omega) | fail) only [go_sem, seval, (e15.get h9.nxt (by omega)).trans g12]
      have uB : Upd (· = h9.nxt) h15 (h15.put h9.nxt (.cells [.slc ta tn tc tz, .slc na nn nc nz, .slc ya yn yc yz] true)) := Upd.put _ rfl fun cs e => by rw [(e15.get h9.nxt (by omega)).trans g12] at e; simp at e
      have gB : (h15.put h9.nxt (.cells [.slc ta tn tc tz, .slc na nn nc nz, .slc ya yn yc yz] true)).get h9.nxt = some (.cells [.slc ta tn tc tz, .slc na nn nc nz, .slc ya yn yc yz] true) := get_put_self
      refine ⟨fun b hb => get_put_ne (by rcases hb with rfl | rfl <;> omega), ?_⟩
      generalize (h15.put h9.nxt (.cells [.slc ta tn tc tz, .slc na nn nc nz, .slc ya yn yc yz] true)) = hB at *
      have hnB := uB.nxt
      have gA : hB.get h3.nxt = some (.cells [.slc ta tn tc tz, .slc na nn nc nz, .slc pa pn pc pz] true) := (uB.get _ (by omega) (by omega)).trans ((e15.get _ (by omega)).trans gB12)
      have pB : Pst h3 hB := ((p38.trans uz.pst).trans (e12.trans e15).pst).trans uB.pst
      have GB : LFresh h12.nxt (hB.bump 9) (.slc ya yn yc yz) (os ++ [(⟨[.int .i64 (left : Nat), .slc ra rn rc rz, .slc none 0 (some 0) 0]⟩ : Opq 3)]) := (G15.upd uB fun b hb _ e => by omega).ext (Ext.bump _ 9)
      have RB : LFresh h8.nxt (hB.bump 9) (.slc ra rn rc rz) rs := ((Rz.ext (e12.trans e15)).upd uB fun b hb e2 e => by have := Rz.lt e2; omega).ext (Ext.bump _ 9)
      obtain ⟨f1, lf1, nf1, L1, uf1⟩ := GB.frz
      obtain ⟨f2, lf2, nf2, L2, uf2⟩ := (RB.upd uf1 fun b hb e2 e => by have := Rz.lt e2; have := e.1; omega).frz
      have lF := lf2.trans lf1
      have uF : Upd (fun b => h8.nxt ≤ b ∧ b ≠ h9.nxt) (hB.bump 9) f2 := (uf1.weak fun b _ e => by have := e.1; omega).trans (uf2.weak fun b _ e => by have := Rz.lt e.2; have := e.1; omega)
      have pF : Pst h3 f2 := (pB.trans (Ext.bump _ 9).pst).trans uF.pst
      have LpF : Lst f2 (.slc ya yn yc yz) (g.prods ++ [(⟨(left : Nat), rs, []⟩ : GProd)]) := Lst.unopq (n := 3) (L1.pst uf2.pst) (by
        rw [List.map_append]
        exact (rP.pst pF).app (Reps.one (x := (⟨(left : Nat), rs, []⟩ : GProd)) ⟨_, _, rfl, L2, Lst.nil⟩)) rfl
      have hnF := uF.nxt
      simp only [bump_nxt] at hnF
      obtain ⟨g', hg'⟩ : ∃ g' : Gm, g' = ⟨g.toks, g.nts, g.prods ++ [(⟨(left : Nat), rs, []⟩ : GProd)]⟩ := ⟨_, rfl⟩
      have MM' : MayG g' := by
        subst hg'
        refine ⟨MM.tl, MM.nl, ⟨by simp, by simp; omega⟩, MM.names, MM.attrs, fun p hp => ?_⟩
        rcases List.mem_append.1 hp with hp | hp
        · exact MM.prods p hp
        · simp only [List.mem_singleton] at hp
          subst hp
          exact ⟨⟨by simp, by simp only; omega⟩, hlz, hSz⟩
      have hgt : g'.toks = g.toks := by rw [hg']
      have hgn : g'.nts = g.nts := by rw [hg']
      have hgp : ∀ p ∈ g.prods, p ∈ g'.prods := fun p hp => by rw [hg']; exact List.mem_append_left _ hp
      have LpF' : Lst f2 (.slc ya yn yc yz) g'.prods := by rw [hg']; exact LpF
      clear hg' LpF L1
      refine DrawU_of' (fun b => b = h3.nxt) [0, 1, 0, 7, 0, 31, 63, 127, 255] (by rfl) (by rfl) (fun b hb => by subst hb; omega) ?_
      simp (disch := first | ((try simp only [heapN]) <;> omega) | fail) only [go_sem, seval]
      refine LoadK_ofU rfl rfl ?_
      simp (disch := first | ((try simp only [heapN]) <;> omega) | fail) only [go_sem, seval, gA]
      have LtF := Lt.pst pF
      have LnF := Ln.pst pF
      have LpG := Lp.pst pF
      refine callV_ofU F_37 rfl ((UF.less lF (Nullable_uf LtF LnF LpG MM)).mono ?_)
      rintro v17 h17 ⟨e17, N17⟩
      have hn17 := e17.nxt
      have k17 : ∀ b, b < h9.nxt + 1 → (b < h8.nxt ∨ b = h9.nxt) → h17.get b = hB.get b := fun b h1 h2 => (e17.get b (by omega)).trans ((uF.get b (by simp; omega) (by omega)).trans (bump_get ..))
      have gA17 := (k17 h3.nxt (by omega) (.inl (by omega))).trans gA
      refine ⟨fun b hb => by subst hb; exact gA17.trans gA.symm, ?_⟩
      simp (disch := first | ((try simp only [heapN]) <;> omega) | fail) only [go_sem, seval]
      refine LoadK_ofU rfl rfl ?_
      simp (disch := first | ((try simp only [heapN]) <;> omega) | fail) only [go_sem, seval, gA17]
      refine callV_ofU F_39 rfl ((First_uf (LtF.ext e17) (LnF.ext e17) (LpG.ext e17) MM).mono ?_)
      rintro v18 h18 ⟨e18, fb1, bl1, rfl, tb1, _, _⟩
      have hn18 := e18.nxt
      have gA18 := (e18.get h3.nxt (by omega)).trans gA17
      refine ⟨fun b hb => by subst hb; exact gA18.trans gA17.symm, ?_⟩
      simp (disch := first | ((try simp only [heapN]) <;> omega) | fail) only [go_sem, seval]
      refine LoadK_ofU rfl rfl ?_
      simp (disch := first | ((try simp only [heapN]) <;> omega) | fail) only [go_sem, seval, gA18]
      have e178 := e17.trans e18
      refine callV_ofU F_40 rfl ((Follow_uf (LtF.ext e178) (LnF.ext e178) (LpG.ext e178) MM).mono ?_)
      rintro v19 h19 ⟨e19, ob1, bl2, fo1, rfl, tb2, FO1, _, _⟩
      have hn19 := e19.nxt
      have gA19 := (e19.get h3.nxt (by omega)).trans gA18
      refine ⟨fun b hb => by subst hb; exact gA19.trans gA18.symm, ?_⟩
      simp (disch := first | ((try simp only [heapN]) <;> omega) | fail) only [go_sem, seval]
      have e19F := e178.trans e19
      have gC := (e19F.get h9.nxt (by omega)).trans ((uF.get _ (by simp; omega) (by omega)).trans ((bump_get ..).trans gB))
      refine DrawU_of' (fun b => b = h9.nxt) [0, 1, 0, 7, 0, 31, 63, 127, 255] (by rfl) (by rfl) (fun b hb => by subst hb; omega) ?_
      simp (disch := first | ((try simp only [heapN]) <;> omega) | fail) only [go_sem, seval]
      refine LoadK_ofU rfl rfl ?_
      simp (disch := first | ((try simp only [heapN]) <;> omega) | fail) only [go_sem, seval, gC]
      have LtC := (LtF.ext e19F).ext (Ext.bump h19 9)
      have LnC := (LnF.ext e19F).ext (Ext.bump h19 9)
      have LpC := (LpF'.ext e19F).ext (Ext.bump h19 9)
      rw [← hgt] at LtC
      rw [← hgn] at LnC
      refine callV_ofU F_37 rfl ((Nullable_uf LtC LnC LpC MM').mono ?_)
      rintro v20 h20 ⟨e20, N20⟩
      have e20' := (Ext.bump h19 9).trans e20
      have gC20 := (e20'.get h9.nxt (by omega)).trans gC
      have hn20 := e20'.nxt
      refine ⟨fun b hb => by subst hb; exact gC20.trans gC.symm, ?_⟩
      simp (disch := first | ((try simp only [heapN]) <;> omega) | fail) only [go_sem, seval]
      refine LoadK_ofU rfl rfl ?_
      simp (disch := first | ((try simp only [heapN]) <;> omega) | fail) only [go_sem, seval, gC20]
      refine callV_ofU F_39 rfl ((First_uf (LtC.ext e20) (LnC.ext e20) (LpC.ext e20) MM').mono ?_)
      rintro v21 h21 ⟨e21, fb2, bl3, rfl, tb3, _, _⟩
      have gC21 := (e21.get h9.nxt (by omega)).trans gC20
      have hn21 := e21.nxt
      refine ⟨fun b hb => by subst hb; exact gC21.trans gC20.symm, ?_⟩
      simp (disch := first | ((try simp only [heapN]) <;> omega) | fail) only [go_sem, seval]
      refine LoadK_ofU rfl rfl ?_
      simp (disch := first | ((try simp only [heapN]) <;> omega) | fail) only [go_sem, seval, gC21]
      refine callV_ofU F_40 rfl ((Follow_uf ((LtC.ext e20).ext e21) ((LnC.ext e20).ext e21) ((LpC.ext e20).ext e21) MM').mono ?_)
      rintro v22 h22 ⟨e22, ob2, bl4, fo2, rfl, tb4, FO2, _, _⟩
      have gC22 := (e22.get h9.nxt (by omega)).trans gC21
      have hn22 := e22.nxt
      refine ⟨fun b hb => by subst hb; exact gC22.trans gC21.symm, ?_⟩
      simp (disch := first | ((try simp only [heapN]) <;> omega) | fail) only [go_sem, seval]
      have R2 := firL_rows MM'
      have R4 := FO2.rows
      have R1 := firL_rows MM
      have R3 := FO1.rows
      have M2 := fir_more (t := g.toks.length) (n := g.nts.length) (ps := g.prods) (qs := g'.prods) (by rw [← hgn]; exact MM'.left) hgp
      have M1 := nul_more (n := g.nts.length) (ps := g.prods) (qs := g'.prods) (by rw [← hgn]; exact MM'.left) hgp
      have M3 := fol_more FO1 FO2 (by rw [hgt]) (by rw [hgn]) (by rw [← hgn]; exact MM'.left) hgp
      have hu1 := nulL_len g.nts.length g.prods
      have hu2 := nulL_len g.nts.length g'.prods
      rw [hgn] at N20
      rw [hgt, hgn] at tb3 R2 R4
      rw [hgt] at tb4
      rw [hgn]
      have e1922 := (e20'.trans e21).trans e22
      have N17' := (N17.ext (e18.trans e19)).ext e1922
      have N20' := N20.ext (e21.trans e22)
      have tb1' := tb1.ext (e19.trans e1922)
      have tb2' := tb2.ext e1922
      have tb3' := tb3.ext e22
      generalize nulL g.nts.length g.prods = nu1 at *
      generalize nulL g.nts.length g'.prods = nu2 at *
      generalize firL g.toks.length g.nts.length g.prods = fi1 at *
      generalize firL g.toks.length g.nts.length g'.prods = fi2 at *
      obtain ⟨ua, un, uc, uz', rfl, hun⟩ := N17'.form
      obtain ⟨xa2, xn2, xc2, xz2, rfl, hxn2⟩ := N20'.form
      have q1 : (un : Int) = (nn : Int) := by omega
      have q2 : (xn2 : Int) = (nn : Int) := by omega
      have q3 : ((g.nts.length : Nat) : Int) = (nn : Int) := by omega
      have gA22 := (e1922.get h3.nxt (by omega)).trans gA19
      simp (disch := first | ((try simp only [heapN]) <;> omega) | fail) only [go_sem, seval, q1, q2, q3, gA22]
      refine LoopU_while (fun m st hh => ∃ (i : Nat), i ≤ nn ∧ m = nn - i ∧ Ext h22 hh ∧ Keep st 176 [(10, .slc ua un uc uz'), (11, .slc (some (fb1, 0)) g.nts.length (some g.nts.length) 1), (12, .slc (some (ob1, 0)) g.nts.length (some g.nts.length) 1), (13, .slc xa2 xn2 xc2 xz2), (14, .slc (some (fb2, 0)) g.nts.length (some g.nts.length) 1), (15, .slc (some (ob2, 0)) g.nts.length (some g.nts.length) 1), (16, .int .i64 (i : Nat))]) nn
        ⟨0, by omega, by omega, Ext.refl _, rfl, by simp [Has]⟩ ?_
      clear hk k5 k6 k7 k8
      rintro m st hh ⟨i, hi, rfl, eh, hk⟩
      rw [hk.eq]
      obtain ⟨k10, k11, k12, k13, k14, k15, k16, -⟩ := hk.2
      simp only [slotsFrom, Nat.reduceAdd] at k10 k11 k12 k13 k14 k15 k16 ⊢
      simp only [k10, k11, k12, k13, k14, k15, k16]
      by_cases hlt : (i : Int) < (un : Int)
      · have hil : i < nn := by omega
        simp (disch := first | ((try simp only [heapN]) <;> omega) | fail) only [go_sem, seval, hlt]
        have hi1 : i < nu1.length := by omega
        have hi2 : i < nu2.length := by omega
        have hw1 := M1 i
        unfold B1 at hw1
        rw [List.getD_eq_getElem?_getD, List.getD_eq_getElem?_getD, List.getElem?_eq_getElem hi1, List.getElem?_eq_getElem hi2, Option.getD_some, Option.getD_some] at hw1
        obtain ⟨b1, o1, cs1, l1', rfl, rfl, hb1, hg1, rfl, hr1, ht1, hc1⟩ := (N17'.ext eh).at_ (i := i) (x := nu1[i]) (List.getElem?_eq_getElem hi1) (k := 1) rfl
        obtain ⟨b2, o2, cs2, l2', rfl, rfl, hb2, hg2, rfl, hr2, ht2, hc2⟩ := (N20'.ext eh).at_ (i := i) (x := nu2[i]) (List.getElem?_eq_getElem hi2) (k := 1) rfl
        have c1 : cs1[o1 + i * 1]? = some (.bool nu1[i]) := hc1 0 (by decide)
        have c2 : cs2[o2 + i * 1]? = some (.bool nu2[i]) := hc2 0 (by decide)
        generalize nu1[i] = y1 at *
        generalize nu2[i] = y2 at *
        have j1 : i < fi1.length := by rw [R1.len]; omega
        have jb1 : i < bl1.length := by rw [tb1'.len]; exact j1
        have gt1 := (tb1'.ext eh).get
        have ct1 : (bl1.map fun b => AV.slc (some (b, 0)) g.toks.length (some g.toks.length) 1)[i * 1]? = some (.slc (some (bl1[i], 0)) g.toks.length (some g.toks.length) 1) := by rw [Nat.mul_one, List.getElem?_map, List.getElem?_eq_getElem jb1]; rfl
        obtain ⟨hr1, Bt1⟩ := (tb1'.ext eh).row i bl1[i] fi1[i] (List.getElem?_eq_getElem jb1) (List.getElem?_eq_getElem j1)
        have j2 : i < fi2.length := by rw [R2.len]; omega
        have jb2 : i < bl3.length := by rw [tb3'.len]; exact j2
        have gt2 := (tb3'.ext eh).get
        have ct2 : (bl3.map fun b => AV.slc (some (b, 0)) g.toks.length (some g.toks.length) 1)[i * 1]? = some (.slc (some (bl3[i], 0)) g.toks.length (some g.toks.length) 1) := by rw [Nat.mul_one, List.getElem?_map, List.getElem?_eq_getElem jb2]; rfl
        obtain ⟨hr2, Bt2⟩ := (tb3'.ext eh).row i bl3[i] fi2[i] (List.getElem?_eq_getElem jb2) (List.getElem?_eq_getElem j2)
        have j3 : i < fo1.length := by rw [R3.len]; omega
        have jb3 : i < bl2.length := by rw [tb2'.len]; exact j3
        have gt3 := (tb2'.ext eh).get
        have ct3 : (bl2.map fun b => AV.slc (some (b, 0)) (g.toks.length + 1) (some (g.toks.length + 1)) 1)[i * 1]? = some (.slc (some (bl2[i], 0)) (g.toks.length + 1) (some (g.toks.length + 1)) 1) := by rw [Nat.mul_one, List.getElem?_map, List.getElem?_eq_getElem jb3]; rfl
        obtain ⟨hr3, Bt3⟩ := (tb2'.ext eh).row i bl2[i] fo1[i] (List.getElem?_eq_getElem jb3) (List.getElem?_eq_getElem j3)
        have j4 : i < fo2.length := by rw [R4.len]; omega
        have jb4 : i < bl4.length := by rw [tb4.len]; exact j4
        have gt4 := (tb4.ext eh).get
        have ct4 : (bl4.map fun b => AV.slc (some (b, 0)) (g.toks.length + 1) (some (g.toks.length + 1)) 1)[i * 1]? = some (.slc (some (bl4[i], 0)) (g.toks.length + 1) (some (g.toks.length + 1)) 1) := by rw [Nat.mul_one, List.getElem?_map, List.getElem?_eq_getElem jb4]; rfl
        obtain ⟨hr4, Bt4⟩ := (tb4.ext eh).row i bl4[i] fo2[i] (List.getElem?_eq_getElem jb4) (List.getElem?_eq_getElem j4)
        have s2 : (i : Int) < (xn2 : Int) := by omega
        have s3 : (i : Int) < ((g.nts.length : Nat) : Int) := by omega
        have hw2 : ∀ t, fi1[i].getD t false = true → fi2[i].getD t false = true := fun t ht => by
          have := M2 i t
          unfold B2 at this
          rw [List.getD_eq_getElem?_getD (l := fi1), List.getD_eq_getElem?_getD (l := fi2), List.getElem?_eq_getElem j1, List.getElem?_eq_getElem j2] at this
          exact this ht
        have hw3 : ∀ t, fo1[i].getD t false = true → fo2[i].getD t false = true := fun t ht => by
          have := M3 i t
          unfold B2 at this
          rw [List.getD_eq_getElem?_getD (l := fo1), List.getD_eq_getElem?_getD (l := fo2), List.getElem?_eq_getElem j3, List.getElem?_eq_getElem j4] at this
          exact this ht
        have hnh := eh.nxt
        have T1 := tb1'.lt
        have T2 := tb2'.lt
        have T3 := tb3'.lt
        have T4 := tb4.lt
        refine DrawU_of' (fun b => b = b1 ∨ b = b2 ∨ b = fb1 ∨ b = fb2 ∨ b = ob1 ∨ b = ob2) [0, 0, 3, 7, 15, 31, 31, 127, 255, 511, 1023, 2047, 4095, 4095, 16383, 32767, 4095, 4095, 200703, 462847, 1048575, 2097151, 4194303, 8388607, 16777215, 16777215, 67108863, 134217727, 16777215, 16777215, 822083583, 1895825407, 4294967295, 8589934591, 17179869183] (by rfl) (by rfl) (fun b hb => by rcases hb with rfl | rfl | rfl | rfl | rfl | rfl <;> omega) ?_
        cases y1 with
        | false =>
          simp (disch := first | ((try simp only [heapN]) <;> omega) | fail) only [go_sem, seval, hlt]
          refine LoadK_ofU rfl (.inl rfl) ?_
          simp (disch := first | ((try simp only [heapN]) <;> omega) | fail) only [go_sem, seval, hg1, c1, Int.toNat_natCast]
          refine LoadK_ofU rfl (.inr (.inr (.inl rfl))) ?_
          simp (disch := first | ((try simp only [heapN]) <;> omega) | fail) only [go_sem, seval, gt1, ct1, s3, Int.toNat_natCast]
          refine LoadK_ofU rfl (.inr (.inr (.inr (.inl rfl)))) ?_
          simp (disch := first | ((try simp only [heapN]) <;> omega) | fail) only [go_sem, seval, gt2, ct2, s3, Int.toNat_natCast]
          refine callV_ofU F_48 rfl ((within_uf (Bt1.ext (Ext.bump _ _)) (Bt2.ext (Ext.bump _ _)) (by omega) (by omega) hw2).mono ?_)
          rintro v23 h23 ⟨e23, rfl⟩
          have eb := (Ext.bump hh _).trans e23
          have k23 : ∀ b, b < hh.nxt → h23.get b = hh.get b := fun b hb => eb.get b hb
          have hn23 := eb.nxt
          have gt3' := (k23 _ (by omega)).trans gt3
          have gt4' := (k23 _ (by omega)).trans gt4
          refine ⟨fun b hb => k23 b (by rcases hb with rfl | rfl | rfl | rfl | rfl | rfl <;> omega), ?_⟩
          simp (disch := first | ((try simp only [heapN]) <;> omega) | fail) only [go_sem, seval]
          refine LoadK_ofU rfl (.inr (.inr (.inr (.inr (.inl rfl))))) ?_
          simp (disch := first | ((try simp only [heapN]) <;> omega) | fail) only [go_sem, seval, gt3', ct3, s3, Int.toNat_natCast]
          refine LoadK_ofU rfl (.inr (.inr (.inr (.inr (.inr rfl))))) ?_
          simp (disch := first | ((try simp only [heapN]) <;> omega) | fail) only [go_sem, seval, gt4', ct4, s3, Int.toNat_natCast]
          refine callV_ofU F_48 rfl ((within_uf (Bt3.ext eb) (Bt4.ext eb) (by omega) (by omega) hw3).mono ?_)
          rintro v24 h24 ⟨e24, rfl⟩
          refine ⟨fun b hb => e24.get b (by rcases hb with rfl | rfl | rfl | rfl | rfl | rfl <;> omega), ?_⟩
          simp (disch := first | ((try simp only [heapN]) <;> omega) | fail) only [go_sem, seval]
          exact AgainK.mk (nn - (i + 1)) (by simp only; omega) ⟨i + 1, by omega, rfl, eh.trans (eb.trans e24), rfl, by simp [Has]⟩
        | true =>
          have := hw1 rfl
          subst this
          simp (disch := first | ((try simp only [heapN]) <;> omega) | fail) only [go_sem, seval, hlt]
          refine LoadK_ofU rfl (.inl rfl) ?_
          simp (disch := first | ((try simp only [heapN]) <;> omega) | fail) only [go_sem, seval, hg1, c1, s2, Int.toNat_natCast]
          refine LoadK_ofU rfl (.inr (.inl rfl)) ?_
          simp (disch := first | ((try simp only [heapN]) <;> omega) | fail) only [go_sem, seval, hg2, c2, Int.toNat_natCast]
          refine LoadK_ofU rfl (.inr (.inr (.inl rfl))) ?_
          simp (disch := first | ((try simp only [heapN]) <;> omega) | fail) only [go_sem, seval, gt1, ct1, s3, Int.toNat_natCast]
          refine LoadK_ofU rfl (.inr (.inr (.inr (.inl rfl)))) ?_
          simp (disch := first | ((try simp only [heapN]) <;> omega) | fail) only [go_sem, seval, gt2, ct2, s3, Int.toNat_natCast]
          refine callV_ofU F_48 rfl ((within_uf (Bt1.ext (Ext.bump _ _)) (Bt2.ext (Ext.bump _ _)) (by omega) (by omega) hw2).mono ?_)
          rintro v23 h23 ⟨e23, rfl⟩
          have eb := (Ext.bump hh _).trans e23
          have k23 : ∀ b, b < hh.nxt → h23.get b = hh.get b := fun b hb => eb.get b hb
          have hn23 := eb.nxt
          have gt3' := (k23 _ (by omega)).trans gt3
          have gt4' := (k23 _ (by omega)).trans gt4
          refine ⟨fun b hb => k23 b (by rcases hb with rfl | rfl | rfl | rfl | rfl | rfl <;> omega), ?_⟩
          simp (disch := first | ((try simp only [heapN]) <;> omega) | fail) only [go_sem, seval]
          refine LoadK_ofU rfl (.inr (.inr (.inr (.inr (.inl rfl))))) ?_
          simp (disch := first | ((try simp only [heapN]) <;> omega) | fail) only [go_sem, seval, gt3', ct3, s3, Int.toNat_natCast]
          refine LoadK_ofU rfl (.inr (.inr (.inr (.inr (.inr rfl))))) ?_
          simp (disch := first | ((try simp only [heapN]) <;> omega) | fail) only [go_sem, seval, gt4', ct4, s3, Int.toNat_natCast]
          refine callV_ofU F_48 rfl ((within_uf (Bt3.ext eb) (Bt4.ext eb) (by omega) (by omega) hw3).mono ?_)
          rintro v24 h24 ⟨e24, rfl⟩
          refine ⟨fun b hb => e24.get b (by rcases hb with rfl | rfl | rfl | rfl | rfl | rfl <;> omega), ?_⟩
          simp (disch := first | ((try simp only [heapN]) <;> omega) | fail) only [go_sem, seval]
          exact AgainK.mk (nn - (i + 1)) (by simp only; omega) ⟨i + 1, by omega, rfl, eh.trans (eb.trans e24), rfl, by simp [Has]⟩
      · simp (disch := first | ((try simp only [heapN]) <;> omega) | fail) only [go_sem, seval, hlt]
        exact hQ _ _ rfl

theorem slc_frz2 {h : Heap} {v w : AV} {sz : Nat} {ls : List (List AV)} (a : Slc h w sz ls) : Slc (h.frzV v) w sz ls := by
  rcases a with a | ⟨b', o, cap, cs, wr, rfl, hb', hc'⟩
  · exact .inl a
  · by_cases he : v.base = some b'
    · have hg : ∃ wr', (h.frzV v).get b' = some (.cells cs wr') := by
        unfold Heap.frzV
        split
        · rename_i b2 _ _ _ _
          simp only [AV.base, Option.some.injEq] at he
          subst he
          exact ⟨false, frz_eq hb'.get⟩
        · exact ⟨wr, hb'.get⟩
      obtain ⟨wr', hg⟩ := hg
      exact .inr ⟨b', o, cap, cs, wr', rfl, ⟨by simpa using hb'.lt, hg, hb'.len, hb'.room, hb'.win⟩, hc'⟩
    · exact .inr ⟨b', o, cap, cs, wr, rfl, ⟨by simpa using hb'.lt, by rw [frzV_ne he]; exact hb'.get, hb'.len, hb'.room, hb'.win⟩, hc'⟩

theorem FirstMore_law {h : Heap} {v w : AV} {zs ys : List Int} (hn : h.nxt = 16) (hv : Slc h v 1 (zs.map fun z => [.int .u8 z])) (hb : ∀ z ∈ zs, IntKind.u8.min ≤ z ∧ z ≤ IntKind.u8.max) (hw : Slc h w 1 (ys.map fun z => [.int .u8 z])) (hc : ∀ z ∈ ys, IntKind.u8.min ≤ z ∧ z ≤ IntKind.u8.max) :
    WF T F 11 [v, w] h fun v' h' => v' = .bool true := by
  obtain ⟨l, _, L⟩ := bytes_lst hv hb
  obtain ⟨m, _, M⟩ := bytes_lst (slc_frz2 hw) hc
  exact (UF.less ((frzV_le _ _).trans (frzV_le _ _)) (FirstMore_uf (by rw [frzV_nxt, frzV_nxt]; exact hn) (L.pst (frzV_pst _ _)) M)).toW

end Go.Proofs.Ytaockkmmjinhpaa
