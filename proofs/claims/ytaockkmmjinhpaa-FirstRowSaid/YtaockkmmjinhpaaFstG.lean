/-
  Layer first: First, Row.
-/
import Derived.Test.YtaockkmmjinhpaaFstF
namespace Go.Proofs.Ytaockkmmjinhpaa
open Go Go.Am
set_option maxRecDepth 100000
set_option maxHeartbeats 4000000
set_option linter.unusedSimpArgs false
set_option linter.unusedVariables false

theorem growsF_uf {h : Heap} {gb ub xb ob tn f : Nat} {nv pv uv : AV} {ta : Option (Nat × Nat)} {tc : Option Nat} {tz : Nat} {bl : List Nat} {ns : List GNt} {ps : List GProd} {nu : List Bool} {fi : List (List Bool)}
    (hg : gb < h.nxt ∧ h.get gb = some (.cells [.slc ta tn tc tz, nv, pv] true)) (hu : ub < h.nxt ∧ h.get ub = some (.cells [uv] true)) (hx : xb < h.nxt ∧ h.get xb = some (.cells [.slc (some (ob, 0)) ns.length (some ns.length) 1] true))
    (sn : Lst h nv ns) (sp : Lst h pv ps) (su : Lst h uv nu) (tb : Tbl h ob tn bl fi) (R : Rows tn ns.length fi) (hul : nu.length = ns.length) (hl : ps.length ≤ 1000) (hn : ns.length ≤ 100) (ht : 0 < tn ∧ tn ≤ 100)
    (hp : ∀ p ∈ ps, PrOk ns.length tn p) (hne : gb ∉ bl ∧ ub ∉ bl ∧ xb ∉ bl) (hf : totF fi < f) : UF T F 84 [.func (.func 90) [.ptr (some (gb, 0)), .ptr (some (ub, 0)), .ptr (some (xb, 0))]] h fun v' h' => Upd (· ∈ bl) h h' ∧ Tbl h' ob tn bl (fixF tn nu ps f fi) := by
  have hpl : ∀ p ∈ ps, p.left.toNat < ns.length := fun p hp' => by obtain ⟨⟨q1, q2⟩, _⟩ := hp p hp'; omega
  refine UF.gen fun Q hQ => UF.of (F_84) (c := _) rfl ?_
  unfold Try.f84
  simp only [List.length, Nat.reduceSub, Nat.reduceAdd, List.replicate, List.cons_append, List.nil_append]
  simp (disch := first | ((try simp only [heapN]) <;> omega) | fail) only [go_sem, seval]
  refine LoopU_while (fun m st hh => ∃ (mu : List (List Bool)) (e : Nat), m = totF mu ∧ Upd (· ∈ bl) h hh ∧ Tbl hh ob tn bl mu ∧ Rows tn ns.length mu ∧ totF mu < e ∧ fixF tn nu ps f fi = fixF tn nu ps e mu ∧
      Keep st 4 [(0, .func (.func 90) [.ptr (some (gb, 0)), .ptr (some (ub, 0)), .ptr (some (xb, 0))])]) (totF fi)
    ⟨fi, f, rfl, Upd.refl _ _, tb, R, hf, rfl, rfl, by simp [Has]⟩ ?_
  rintro m st hh ⟨mu, e, rfl, u, tbm, RM, hc, hfx, hk⟩
  rw [hk.eq]
  obtain ⟨k0, -⟩ := hk.2
  simp only [slotsFrom, Nat.reduceAdd] at k0 ⊢
  simp only [k0]
  simp (disch := first | ((try simp only [heapN]) <;> omega) | fail) only [go_sem, seval]
  obtain ⟨e, rfl⟩ : ∃ d, e = d + 1 := ⟨e - 1, by omega⟩
  rw [fixF] at hfx
  have hnh := u.nxt
  have hok := stF_ok (nu := nu) RM hpl ps.length
  refine callV_ofU F_90 rfl ((firS_uf (pa := none) (pc := none) (pz := 0) ⟨by omega, (u.get gb hg.1 hne.1).trans hg.2⟩ ⟨by omega, (u.get ub hu.1 hne.2.1).trans hu.2⟩ ⟨by omega, by rw [RM.len]; exact (u.get xb hx.1 hne.2.2).trans hx.2⟩ (sn.pst u.pst) (sp.pst u.pst) (su.pst u.pst) tbm RM hul hl hn ht hp hne).mono ?_)
  rintro v2 h2 ⟨u2, tb2, rfl⟩
  simp (disch := first | ((try simp only [heapN]) <;> omega) | fail) only [go_sem, seval]
  cases hgr : (stF tn nu mu ps ps.length).2 with
  | true =>
    rw [hgr, if_pos rfl] at hfx
    have := hok.2.2 hgr
    simp (disch := first | ((try simp only [heapN]) <;> omega) | fail) only [go_sem, seval]
    exact AgainK.mk (totF (stF tn nu mu ps ps.length).1) (by simp only; omega) ⟨_, e, rfl, u.trans u2, tb2, hok.1, by omega, hfx, rfl, by simp [Has]⟩
  | false =>
    rw [hgr, if_neg (by simp)] at hfx
    simp (disch := first | ((try simp only [heapN]) <;> omega) | fail) only [go_sem, seval]
    exact hQ _ _ ⟨u.trans u2, by rw [hfx]; exact tb2⟩

theorem totF_rep (t : Nat) : ∀ n, totF (List.replicate n (List.replicate t false)) ≤ t * n
  | 0 => by simp [totF]
  | n + 1 => by
    have := totF_rep t n
    have h2 := cntF_le (List.replicate t false)
    rw [List.length_replicate] at h2
    rw [List.replicate_succ, totF, Nat.mul_succ]; omega
theorem rows_rep (t n : Nat) : Rows t n (List.replicate n (List.replicate t false)) := ⟨List.length_replicate, fun r hr => by rw [List.eq_of_mem_replicate hr]; exact List.length_replicate⟩

theorem del_le (h : Heap) (b : Nat) : Le (h.del b) h := ⟨rfl, fun c x e => by
  rw [Heap.get_del] at e
  split at e
  · cases e
  · exact ⟨x, e, x.le_refl⟩⟩
theorem del_ext {h : Heap} {b : Nat} (hb : h.nxt ≤ b) : Ext h (h.del b) := ⟨Nat.le_refl _, fun c hc => by rw [Heap.get_del, if_neg (by omega)]⟩
/-- What may stand at two numbers that are not yet given is forgotten. -/
theorem UF_clean {f : Nat} {args : List AV} {h : Heap} {x : AV} {i j : Nat} (w : UF T F f args h fun v h' => Ext h h' ∧ v = x) : UF T F f args h fun v h' => (Ext h h' ∧ v = x) ∧ h'.get (h'.nxt + i) = none ∧ h'.get (h'.nxt + j) = none := by
  refine UF.lessQ (w.mono ?_)
  rintro v h' ⟨e, rfl⟩
  refine ⟨(h'.del (h'.nxt + i)).del (h'.nxt + j), (del_le _ _).trans (del_le _ _), ⟨(e.trans (del_ext (by omega))).trans (del_ext (by show h'.nxt ≤ _; omega)), rfl⟩, ?_, ?_⟩
  · show ((h'.del (h'.nxt + i)).del (h'.nxt + j)).get (h'.nxt + i) = none
    rw [Heap.get_del, Heap.get_del, if_pos rfl]
    split <;> rfl
  · show ((h'.del (h'.nxt + i)).del (h'.nxt + j)).get (h'.nxt + j) = none
    rw [Heap.get_del, if_pos rfl]

theorem First_uf {h : Heap} {tv nv pv : AV} {g : Gm} (lt : Lst h tv g.toks) (sn : Lst h nv g.nts) (sp : Lst h pv g.prods) (M : MayG g) : UF T F 39 [.agg [tv, nv, pv]] h fun v' h' => Ext h h' ∧ ∃ ob bl, v' = .slc (some (ob, 0)) g.nts.length (some g.nts.length) 1 ∧ Tbl h' ob g.toks.length bl (firL g.toks.length g.nts.length g.prods) := by
  obtain ⟨ta, tn, tc, tz, rfl, htn⟩ := lt.form
  obtain ⟨na, nn, nc, nz, rfl, hnn⟩ := sn.form
  obtain ⟨pa, pn, pc, pz, rfl, hpn⟩ := sp.form
  refine UF.gen fun Q hQ => UF.of (F_39) (c := _) rfl ?_
  unfold Try.f39
  simp only [List.length, Nat.reduceSub, Nat.reduceAdd, List.replicate, List.cons_append, List.nil_append]
  simp (disch := first | ((try simp only [heapN]) <;> omega) | fail) only [go_sem, seval]
  have e1 : Ext h (h.add (.cells [.slc ta tn tc tz, .slc na nn nc nz, .slc pa pn pc pz] true)) := Ext.add _ _
  have g1 : (h.add (.cells [.slc ta tn tc tz, .slc na nn nc nz, .slc pa pn pc pz] true)).get h.nxt = some (.cells [.slc ta tn tc tz, .slc na nn nc nz, .slc pa pn pc pz] true) := get_add_self
  have n1 : (h.add (.cells [.slc ta tn tc tz, .slc na nn nc nz, .slc pa pn pc pz] true)).nxt = h.nxt + 1 := by simp
  generalize (h.add (.cells [.slc ta tn tc tz, .slc na nn nc nz, .slc pa pn pc pz] true)) = h1 at *
  have hnl := M.nl
  have htl := M.tl
  refine callV_ofU F_28 rfl ((UF_clean (i := 9) (j := 10) (May_uf (lt.ext e1) (sn.ext e1) (sp.ext e1) M)).mono ?_)
  rintro v2 h2 ⟨⟨e2, rfl⟩, z9, z10⟩
  simp (disch := first | ((try simp only [heapN]) <;> omega) | fail) only [go_sem, seval]
  have g2 := (e2.get _ (by omega)).trans g1
  have hn2 := e2.nxt
  refine DrawU_of' (fun b => b = h.nxt) [0, 1, 0, 4, 12, 0, 32, 96, 255, 0, 0, 2047, 4095] (by rfl) (by rfl) (fun b hb => by subst hb; omega) ?_
  simp (disch := first | ((try simp only [heapN]) <;> omega) | fail) only [go_sem, seval]
  refine LoadK_ofU rfl rfl ?_
  have e12 := e1.trans e2
  simp (disch := first | ((try simp only [heapN]) <;> omega) | fail) only [go_sem, seval, g2]
  refine callV_ofU F_37 rfl ((Nullable_uf ((lt.ext e12).ext (Ext.bump _ _)) ((sn.ext e12).ext (Ext.bump _ _)) ((sp.ext e12).ext (Ext.bump _ _)) M).mono ?_)
  rintro v3 h3 ⟨e3, L3⟩
  simp (disch := first | ((try simp only [heapN]) <;> omega) | fail) only [go_sem, seval]
  have hn3 := e3.nxt
  simp only [bump_nxt] at hn3
  have g3 := (e3.get h.nxt (by simp; omega)).trans ((bump_get ..).trans g2)
  refine ⟨fun b hb => by subst hb; exact g3.trans g2.symm, ?_⟩
  refine LoadK_ofU rfl rfl ?_
  simp (disch := first | ((try simp only [heapN]) <;> omega) | fail) only [go_sem, seval, g3]
  refine LoadK_ofU rfl rfl ?_
  simp (disch := first | ((try simp only [heapN]) <;> omega) | fail) only [go_sem, seval, g3]
  refine callV_ofU F_89 rfl ((sets_uf (n := nn) (m := tn) (by omega) (by omega)).mono ?_)
  rintro v4 h4 ⟨e4, rfl, bl, tb4, hbl⟩
  simp (disch := first | ((try simp only [heapN]) <;> omega) | fail) only [go_sem, seval]
  have g4 := (e4.get _ (by omega)).trans g3
  have hn4 := e4.nxt
  refine ⟨fun b hb => by subst hb; exact g4.trans g3.symm, ?_⟩
  obtain ⟨ua, un, uc, uz, rfl, hun⟩ := L3.form
  simp (disch := first | ((try simp only [heapN]) <;> omega) | fail) only [go_sem, seval]
  have y9 : h4.get (h2.nxt + 9) = none := (e4.get _ (by omega)).trans ((e3.get _ (by simp)).trans ((bump_get ..).trans z9))
  have y10 : h4.get (h2.nxt + 10) = none := (e4.get _ (by omega)).trans ((e3.get _ (by simp)).trans ((bump_get ..).trans z10))
  refine ⟨fun b hb => by subst hb; rw [get_put_ne (by omega), get_put_ne (by omega), get_put_ne (by omega)], fun b hb => by subst hb; rw [get_put_ne (by omega)], ?_⟩
  have uP : ∀ x1 x2 x3 x4, Upd (fun b => b = h2.nxt + 9 ∨ b = h2.nxt + 10) h4 ((((h4.put (h2.nxt + 9) (.cells x1 true)).put (h2.nxt + 10) (.cells x2 true)).put (h2.nxt + 9) (.cells x3 true)).put (h2.nxt + 10) (.cells x4 true)) := fun x1 x2 x3 x4 => by
    refine (((Upd.put _ (.inl rfl) fun cs e => by rw [y9] at e; cases e).trans (Upd.put _ (.inr rfl) fun cs e => by rw [get_put_ne (by omega), y10] at e; cases e)).trans (Upd.put _ (.inl rfl) fun cs e => by rw [get_put_ne (by omega), get_put_self] at e; simp at e)).trans (Upd.put _ (.inr rfl) fun cs e => by rw [get_put_ne (by omega), get_put_self] at e; simp at e)
  have uH := uP [.slc none 0 (some 0) 0] [.slc none 0 (some 0) 0] [.slc ua un uc uz] [.slc (some (h3.nxt, 0)) nn (some nn) 1]
  have gu : ((((h4.put (h2.nxt + 9) (.cells [.slc none 0 (some 0) 0] true)).put (h2.nxt + 10) (.cells [.slc none 0 (some 0) 0] true)).put (h2.nxt + 9) (.cells [.slc ua un uc uz] true)).put (h2.nxt + 10) (.cells [.slc (some (h3.nxt, 0)) nn (some nn) 1] true)).get (h2.nxt + 9) = some (.cells [.slc ua un uc uz] true) := (get_put_ne (by omega)).trans get_put_self
  have gx : ((((h4.put (h2.nxt + 9) (.cells [.slc none 0 (some 0) 0] true)).put (h2.nxt + 10) (.cells [.slc none 0 (some 0) 0] true)).put (h2.nxt + 9) (.cells [.slc ua un uc uz] true)).put (h2.nxt + 10) (.cells [.slc (some (h3.nxt, 0)) nn (some nn) 1] true)).get (h2.nxt + 10) = some (.cells [.slc (some (h3.nxt, 0)) nn (some nn) 1] true) := get_put_self
  generalize ((((h4.put (h2.nxt + 9) (.cells [.slc none 0 (some 0) 0] true)).put (h2.nxt + 10) (.cells [.slc none 0 (some 0) 0] true)).put (h2.nxt + 9) (.cells [.slc ua un uc uz] true)).put (h2.nxt + 10) (.cells [.slc (some (h3.nxt, 0)) nn (some nn) 1] true)) = H at *
  have e24 : Ext h2 h4 := ((Ext.bump _ _).trans e3).trans e4
  have eH : Ext h2 H := ((e24.upd (h2.nxt ≤ ·)).trans (uH.weak fun b _ e => by omega)).ext fun b hb => by omega
  have gH := (eH.get _ (by omega)).trans g2
  have hnH := uH.nxt
  have tbH := tb4.upd uH (by omega) fun b hb => by have := hbl b hb; omega
  have e1H := e12.trans eH
  have hbl' : ∀ b, b ≤ h3.nxt → b ∉ bl := fun b hb hin => by have := hbl b hin; omega
  have w84 := growsF_uf (ns := g.nts) (f := tn * nn + 1) ⟨by omega, gH⟩ ⟨by omega, gu⟩ ⟨by omega, by rw [← hnn]; exact gx⟩ (sn.ext e1H) (sp.ext e1H) ((L3.ext e4).pst uH.pst) tbH (by rw [← hnn]; exact rows_rep tn nn) (by rw [nulL, fixN_len, List.length_replicate]) (by have := M.pl; omega) (by omega) ⟨by omega, by omega⟩ (fun p hp => by rw [htn]; exact M.pr p hp) ⟨hbl' h.nxt (by omega), hbl' (h2.nxt + 9) (by omega), hbl' (h2.nxt + 10) (by omega)⟩ (by have := totF_rep tn nn; omega)
  refine callV_ofU F_84 rfl (w84.mono ?_)
  rintro v5 h5 ⟨u5, tb5⟩
  have gx5 := (u5.get (h2.nxt + 10) (by omega) (hbl' _ (by omega))).trans gx
  simp (disch := first | ((try simp only [heapN]) <;> omega) | fail) only [go_sem, seval, gx5]
  refine hQ _ _ ⟨((e1H.upd (h.nxt ≤ ·)).trans' u5 fun b e hb => by have := hbl b e; omega).ext fun b hb => by omega, h3.nxt, bl, by rw [hnn], ?_⟩
  rw [firL, ← htn]
  rw [← hnn] at tb5 ⊢
  exact tb5

end Go.Proofs.Ytaockkmmjinhpaa
