/-
  Layer first: what can be nothing.
-/
import Derived.Test.YtaockkmmjinhpaaFstB
namespace Go.Proofs.Ytaockkmmjinhpaa
open Go Go.Am
set_option maxRecDepth 100000
set_option maxHeartbeats 4000000
set_option linter.unusedSimpArgs false
set_option linter.unusedVariables false

def okS (nu : List Bool) (s : GSym) : Bool := !s.tok && nu.getD s.at_.toNat false
/-- A box of a set. -/
def SBox (h : Heap) (xb nb : Nat) (nu : List Bool) : Prop := xb < h.nxt ∧ h.get xb = some (.cells [.slc (some (nb, 0)) nu.length (some nu.length) 1] true) ∧ Bits h nb (.slc (some (nb, 0)) nu.length (some nu.length) 1) nu
theorem SBox.ext {h h' : Heap} {xb nb : Nat} {nu : List Bool} (x : SBox h xb nb nu) (e : Ext h h') : SBox h' xb nb nu := ⟨Nat.lt_of_lt_of_le x.1 e.nxt, (e.get _ x.1).trans x.2.1, x.2.2.ext e⟩
theorem null1_uf {h : Heap} {xb nb : Nat} {nu : List Bool} {s : GSym} {t : Nat} (x : SBox h xb nb nu) (hs : SymOk t nu.length s) : UF T F 87 [.agg [.bool s.tok, .int .i64 s.at_], .ptr (some (xb, 0))] h fun v' h' => Ext h h' ∧ v' = .bool (!okS nu s) := by
  obtain ⟨x1, x2, x3⟩ := x
  obtain ⟨s0, s1, s2⟩ := hs
  refine UF.gen fun Q hQ => UF.of (F_87) (c := _) rfl ?_
  unfold Try.f87
  simp only [List.length, Nat.reduceSub, Nat.reduceAdd, List.replicate, List.cons_append, List.nil_append]
  simp (disch := omega) only [go_sem, seval]
  have e1 : Ext h (h.add (.cells [.bool s.tok, .int .i64 s.at_] true)) := Ext.add _ _
  cases htk : s.tok with
  | true =>
    simp (disch := omega) only [go_sem, seval, htk]
    exact hQ _ _ ⟨by rw [htk] at e1; exact e1, by simp [okS, htk]⟩
  | false =>
    have hat := s2 htk
    obtain ⟨k, hk0⟩ : ∃ k : Nat, s.at_ = k := ⟨s.at_.toNat, by omega⟩
    rw [htk] at e1
    rw [hk0] at hat e1
    have hkl : k < nu.length := by omega
    have hki : (k : Int) < (nu.length : Nat) := by omega
    have gB := x3.2.2
    have hnb := x3.2.1
    have gB2 := (e1.get nb hnb).trans gB
    have cB : (nu.map AV.bool)[k * 1]? = some (.bool nu[k]) := by rw [Nat.mul_one, List.getElem?_map, List.getElem?_eq_getElem hkl]; rfl
    simp (disch := omega) only [go_sem, seval, htk, hk0, x2, gB, gB2, cB, hki, Int.toNat_natCast]
    refine hQ _ _ ⟨e1, ?_⟩
    simp [okS, htk, hk0, List.getD_eq_getElem?_getD, List.getElem?_eq_getElem hkl]
theorem IndexN_uf {h : Heap} {xb nb : Nat} {nu : List Bool} {v : AV} {ss : List GSym} {t : Nat} (x : SBox h xb nb nu) (sl : Lst h v ss) (hl : ss.length ≤ 1000) (hs : ∀ s ∈ ss, SymOk t nu.length s) : UF T F 112 [v, .func (.func 87) [.ptr (some (xb, 0))]] h fun v' h' => Ext h h' ∧ ∃ r : Int, v' = .int .i64 r ∧ ((r ≥ 0) ↔ ss.all (okS nu) = false) := by
  obtain ⟨a, n, c, z, rfl, hnn⟩ := sl.form
  refine UF.gen fun Q hQ => UF.of (F_112) (c := _) rfl ?_
  unfold Try.f112
  simp only [List.length, Nat.reduceSub, Nat.reduceAdd, List.replicate, List.cons_append, List.nil_append]
  simp (disch := omega) only [go_sem, seval]
  refine LoopU_while (fun m st hh => ∃ (i : Nat), i ≤ ss.length ∧ m = ss.length - i ∧ Ext h hh ∧ ss.all (okS nu) = (ss.drop i).all (okS nu) ∧ Keep st 19 [(0, .slc a n c z), (1, .func (.func 87) [.ptr (some (xb, 0))]), (7, .int .i64 (n : Nat)), (8, .int .i64 (i : Nat))]) ss.length
    ⟨0, by omega, by omega, Ext.refl _, rfl, rfl, by simp [Has]⟩ ?_
  rintro m st hh ⟨i, hi, rfl, eh, hall, hk0⟩
  rw [hk0.eq]
  obtain ⟨k0, k1, k7, k8, -⟩ := hk0.2
  simp only [slotsFrom, Nat.reduceAdd] at k0 k1 k7 k8 ⊢
  simp only [k0, k1, k7, k8]
  simp (disch := omega) only [go_sem, seval]
  by_cases hlt : (i : Int) < (n : Int)
  · have hil : i < ss.length := by omega
    obtain ⟨b1, o1, cs1, l1, rfl, rfl, hb1, hg1, rfl, hr1, ht1, hc1⟩ := (sl.ext eh).at_ (i := i) (x := ss[i]) (List.getElem?_eq_getElem hil) (k := 2) rfl
    have hni := hs ss[i] (List.getElem_mem hil)
    rw [List.drop_eq_getElem_cons hil, List.all_cons] at hall
    simp (disch := omega) only [go_sem, seval, hlt, hg1, hr1, ht1, Int.toNat_natCast]
    refine callV_ofU F_87 rfl ((null1_uf (x.ext eh) hni).mono ?_)
    rintro v2 h2 ⟨e2, rfl⟩
    simp (disch := omega) only [go_sem, seval]
    cases hok : okS nu ss[i] with
    | true =>
      rw [hok, Bool.true_and] at hall
      simp (disch := omega) only [go_sem, seval]
      exact AgainK.mk (ss.length - (i + 1)) (by simp only; omega) ⟨i + 1, by omega, rfl, eh.trans e2, hall, rfl, by simp [Has]⟩
    | false =>
      rw [hok, Bool.false_and] at hall
      simp (disch := omega) only [go_sem, seval]
      exact hQ _ _ ⟨eh.trans e2, (i : Int), rfl, by rw [hall]; simp⟩
  · simp (disch := omega) only [go_sem, seval, hlt]
    have hie : i = ss.length := by omega
    subst hie
    rw [List.drop_length, List.all_nil] at hall
    exact hQ _ _ ⟨eh, -1, rfl, by rw [hall]; simp⟩
theorem ContN_uf {h : Heap} {xb nb : Nat} {nu : List Bool} {v : AV} {ss : List GSym} {t : Nat} (x : SBox h xb nb nu) (sl : Lst h v ss) (hl : ss.length ≤ 1000) (hs : ∀ s ∈ ss, SymOk t nu.length s) : UF T F 86 [v, .func (.func 87) [.ptr (some (xb, 0))]] h fun v' h' => Ext h h' ∧ v' = .bool (!ss.all (okS nu)) := by
  obtain ⟨a, n, c, z, rfl, hnn⟩ := sl.form
  refine UF.gen fun Q hQ => UF.of (F_86) (c := _) rfl ?_
  unfold Try.f86
  simp only [List.length, Nat.reduceSub, Nat.reduceAdd, List.replicate, List.cons_append, List.nil_append]
  simp (disch := omega) only [go_sem, seval]
  refine callV_ofU F_112 rfl ((IndexN_uf x sl hl hs).mono ?_)
  rintro v2 h2 ⟨e2, r, rfl, hr⟩
  simp (disch := omega) only [go_sem, seval]
  refine hQ _ _ ⟨e2, ?_⟩
  cases ha : ss.all (okS nu) with
  | true => rw [ha] at hr; simp at hr ⊢; omega
  | false => rw [ha] at hr; simp at hr ⊢; omega

/-- What can be nothing, and whether something is new, as of the first so many productions. -/
def stN (nu : List Bool) (ps : List GProd) : Nat → List Bool × Bool
  | 0 => (nu, false)
  | i + 1 => match ps[i]? with
    | some p => if p.right.all (okS (stN nu ps i).1) = true then ((stN nu ps i).1.set p.left.toNat true, if (stN nu ps i).1.getD p.left.toNat false = true then (stN nu ps i).2 else true) else stN nu ps i
    | none => stN nu ps i
theorem stN_len (nu : List Bool) (ps : List GProd) : ∀ i, (stN nu ps i).1.length = nu.length
  | 0 => rfl
  | i + 1 => by
    rw [stN]
    split
    · split
      · rw [List.length_set, stN_len nu ps i]
      · exact stN_len nu ps i
    · exact stN_len nu ps i

theorem nullS_uf {h : Heap} {gb xb nb tn : Nat} {tv nv pv : AV} {ta na : Option (Nat × Nat)} {t0 nn : Nat} {tc nc : Option Nat} {tz nz : Nat} {ps : List GProd} {nu : List Bool} (hg : gb < h.nxt ∧ h.get gb = some (.cells [.slc ta t0 tc tz, .slc na nn nc nz, pv] true)) (sp : Lst h pv ps) (x : SBox h xb nb nu) (hl : ps.length ≤ 1000)
    (hp : ∀ p ∈ ps, PrOk nu.length tn p) (hne : gb ≠ nb ∧ xb ≠ nb) : UF T F 85 [.ptr (some (gb, 0)), .ptr (some (xb, 0))] h fun v' h' => Upd (· = nb) h h' ∧ Bits h' nb (.slc (some (nb, 0)) nu.length (some nu.length) 1) (stN nu ps ps.length).1 ∧ v' = .bool (stN nu ps ps.length).2 := by
  obtain ⟨pa, pn, pc, pz, rfl, hpn⟩ := sp.form
  obtain ⟨hg1, hg2⟩ := hg
  obtain ⟨x1, x2, x3⟩ := x
  refine UF.gen fun Q hQ => UF.of (F_85) (c := _) rfl ?_
  unfold Try.f85
  simp only [List.length, Nat.reduceSub, Nat.reduceAdd, List.replicate, List.cons_append, List.nil_append]
  simp (disch := omega) only [go_sem, seval]
  simp (disch := omega) only [go_sem, seval, hg2]
  refine LoopU_while (fun m st hh => ∃ (i : Nat), i ≤ ps.length ∧ m = ps.length - i ∧ Upd (· = nb) h hh ∧ Bits hh nb (.slc (some (nb, 0)) nu.length (some nu.length) 1) (stN nu ps i).1 ∧
      Keep st 25 [(0, .ptr (some (gb, 0))), (1, .ptr (some (xb, 0))), (2, .bool (stN nu ps i).2), (6, .slc pa pn pc pz), (7, .int .i64 (pn : Nat)), (8, .int .i64 (i : Nat))]) ps.length
    ⟨0, by omega, by omega, Upd.refl _ _, x3, rfl, by simp [Has, stN]⟩ ?_
  rintro m st hh ⟨i, hi, rfl, u, B, hk⟩
  rw [hk.eq]
  obtain ⟨k0, k1, k2, k6, k7, k8, -⟩ := hk.2
  simp only [slotsFrom, Nat.reduceAdd] at k0 k1 k2 k6 k7 k8 ⊢
  simp only [k0, k1, k2, k6, k7, k8]
  have hnl := stN_len nu ps i
  have hnh := u.nxt
  simp (disch := omega) only [go_sem, seval]
  by_cases hlt : (i : Int) < (pn : Int)
  · have hil : i < ps.length := by omega
    obtain ⟨b1, o1, cs1, l1, rfl, rfl, hb1, hg1', ⟨ra, xa, rfl, sr, sx⟩, hr1, ht1, hc1⟩ := (sp.pst u.pst).at_ (i := i) (x := ps[i]) (List.getElem?_eq_getElem hil) (k := 3) rfl
    obtain ⟨⟨q1, q2⟩, q3, q4⟩ := hp ps[i] (List.getElem_mem hil)
    have hst : stN nu ps (i + 1) = if ps[i].right.all (okS (stN nu ps i).1) = true then ((stN nu ps i).1.set ps[i].left.toNat true, if (stN nu ps i).1.getD ps[i].left.toNat false = true then (stN nu ps i).2 else true) else stN nu ps i := by rw [stN, List.getElem?_eq_getElem hil]
    generalize ps[i] = p at *
    generalize stN nu ps i = S at *
    obtain ⟨mu, gr⟩ := S
    simp only at B hnl hst ⊢
    obtain ⟨ra, rn, rc, rz, rfl, hrn⟩ := sr.form
    obtain ⟨xa, xn, xc, xz, rfl, hxn⟩ := sx.form
    obtain ⟨k, hk0⟩ : ∃ k : Nat, p.left = k := ⟨p.left.toNat, by omega⟩
    rw [hk0] at ht1 hst q2
    rw [Int.toNat_natCast] at hst
    have e2 : Ext hh ((hh.add (.cells [.int .i64 0, .slc none 0 (some 0) 0, .slc none 0 (some 0) 0] true)).put hh.nxt (.cells [.int .i64 (k : Nat), .slc ra rn rc rz, .slc xa xn xc xz] true)) := (Ext.add _ _).put (Nat.le_refl _)
    have g2 : ((hh.add (.cells [.int .i64 0, .slc none 0 (some 0) 0, .slc none 0 (some 0) 0] true)).put hh.nxt (.cells [.int .i64 (k : Nat), .slc ra rn rc rz, .slc xa xn xc xz] true)).get hh.nxt = some (.cells [.int .i64 (k : Nat), .slc ra rn rc rz, .slc xa xn xc xz] true) := get_put_self
    have n2 : ((hh.add (.cells [.int .i64 0, .slc none 0 (some 0) 0, .slc none 0 (some 0) 0] true)).put hh.nxt (.cells [.int .i64 (k : Nat), .slc ra rn rc rz, .slc xa xn xc xz] true)).nxt = hh.nxt + 1 := by simp
    simp (disch := omega) only [go_sem, seval, hlt, hg1', hr1, ht1, Int.toNat_natCast]
    generalize ((hh.add (.cells [.int .i64 0, .slc none 0 (some 0) 0, .slc none 0 (some 0) 0] true)).put hh.nxt (.cells [.int .i64 (k : Nat), .slc ra rn rc rz, .slc xa xn xc xz] true)) = h2 at *
    have gx := ((u.trans (e2.upd _)).get xb x1 hne.2).trans x2
    have SB : SBox h2 xb nb mu := by rw [← hnl] at gx; exact ⟨by omega, gx, by rw [hnl]; exact B.ext e2⟩
    refine callV_ofU F_86 rfl ((ContN_uf SB (sr.ext e2) (by omega) (fun s hs => by rw [hnl]; exact q4 s hs)).mono ?_)
    rintro v3 h3 ⟨e3, rfl⟩
    simp (disch := omega) only [go_sem, seval]
    have gx3 := (e3.get _ (by omega)).trans gx
    have g3 := (e3.get _ (by omega)).trans g2
    have B3 := (B.ext e2).ext e3
    cases hall : p.right.all (okS mu) with
    | true =>
      rw [hall, if_pos rfl] at hst
      simp (disch := omega) only [go_sem, seval, gx3, g3]
      refine callV_ofU F_88 rfl ((set_uf (i := k) B3 (by omega)).mono ?_)
      rintro v4 h4 ⟨u4, B4, rfl⟩
      simp (disch := omega) only [go_sem, seval]
      have hgd : mu.getD k false = mu[k]'(by omega) := by rw [List.getD_eq_getElem?_getD, List.getElem?_eq_getElem (by omega)]; rfl
      rw [hgd] at hst
      have uu := (u.trans ((e2.trans e3).upd _)).trans u4
      cases hmk : mu[k]'(by omega) with
      | true =>
        rw [hmk, if_pos rfl] at hst
        simp (disch := omega) only [go_sem, seval]
        exact AgainK.mk (ps.length - (i + 1)) (by simp only; omega) ⟨i + 1, by omega, rfl, uu, by rw [hst]; exact B4, rfl, by simp [Has, hst]⟩
      | false =>
        rw [hmk, if_neg (by simp)] at hst
        simp (disch := omega) only [go_sem, seval]
        exact AgainK.mk (ps.length - (i + 1)) (by simp only; omega) ⟨i + 1, by omega, rfl, uu, by rw [hst]; exact B4, rfl, by simp [Has, hst]⟩
    | false =>
      rw [hall, if_neg (by simp)] at hst
      simp (disch := omega) only [go_sem, seval]
      exact AgainK.mk (ps.length - (i + 1)) (by simp only; omega) ⟨i + 1, by omega, rfl, u.trans ((e2.trans e3).upd _), by rw [hst]; exact B3, rfl, by simp [Has, hst]⟩
  · simp (disch := omega) only [go_sem, seval, hlt]
    have hie : i = ps.length := by omega
    subst hie
    exact hQ _ _ ⟨u, B, rfl⟩

end Go.Proofs.Ytaockkmmjinhpaa
