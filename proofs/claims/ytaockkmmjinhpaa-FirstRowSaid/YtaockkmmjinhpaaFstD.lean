/-
  Layer first: what can be nothing, all rounds.
-/
import Derived.Test.YtaockkmmjinhpaaFstC
namespace Go.Proofs.Ytaockkmmjinhpaa
open Go Go.Am
set_option maxRecDepth 100000
set_option maxHeartbeats 4000000
set_option linter.unusedSimpArgs false
set_option linter.unusedVariables false

def cntF : List Bool → Nat
  | [] => 0
  | b :: l => cntF l + if b = false then 1 else 0
theorem cntF_set : ∀ (l : List Bool) (k : Nat), cntF (l.set k true) ≤ cntF l ∧ (l[k]? = some false → cntF (l.set k true) < cntF l)
  | [], k => by simp [cntF]
  | b :: l, 0 => by cases b <;> simp [cntF]
  | b :: l, k + 1 => by
    have := cntF_set l k
    simp only [List.set_cons_succ, cntF, List.getElem?_cons_succ]
    exact ⟨by omega, fun h => by have := this.2 h; omega⟩
theorem cntF_le : ∀ l : List Bool, cntF l ≤ l.length
  | [] => by simp [cntF]
  | b :: l => by have := cntF_le l; simp only [cntF, List.length_cons]; split <;> omega
theorem stN_cnt (nu : List Bool) (ps : List GProd) (hp : ∀ p ∈ ps, p.left.toNat < nu.length) : ∀ i, cntF (stN nu ps i).1 ≤ cntF nu ∧ ((stN nu ps i).2 = true → cntF (stN nu ps i).1 < cntF nu)
  | 0 => ⟨Nat.le_refl _, fun h => by simp [stN] at h⟩
  | i + 1 => by
    have ih := stN_cnt nu ps hp i
    have hl := stN_len nu ps i
    rw [stN]
    split
    · rename_i p hpi
      have hpl := hp p (List.mem_of_getElem? hpi)
      split
      · have hc := cntF_set (stN nu ps i).1 p.left.toNat
        refine ⟨by simp only; omega, fun h => ?_⟩
        simp only at h ⊢
        split at h
        · have := ih.2 h; omega
        · rename_i hgd
          have : (stN nu ps i).1[p.left.toNat]? = some false := by
            rw [List.getD_eq_getElem?_getD, List.getElem?_eq_getElem (by omega)] at hgd
            rw [List.getElem?_eq_getElem (by omega)]
            simpa using hgd
          have := hc.2 this
          omega
      · exact ih
    · exact ih
/-- All rounds. -/
def fixN (ps : List GProd) : Nat → List Bool → List Bool
  | 0, nu => nu
  | f + 1, nu => if (stN nu ps ps.length).2 = true then fixN ps f (stN nu ps ps.length).1 else (stN nu ps ps.length).1
theorem fixN_len (ps : List GProd) : ∀ (f : Nat) (nu : List Bool), (fixN ps f nu).length = nu.length
  | 0, nu => rfl
  | f + 1, nu => by
    rw [fixN]
    split
    · rw [fixN_len ps f, stN_len]
    · exact stN_len _ _ _
def nulL (n : Nat) (ps : List GProd) : List Bool := fixN ps (n + 1) (List.replicate n false)

theorem growsN_uf {h : Heap} {gb xb nb tn : Nat} {pv : AV} {ta na : Option (Nat × Nat)} {t0 nn : Nat} {tc nc : Option Nat} {tz nz : Nat} {ps : List GProd} {nu : List Bool} {f : Nat} (hg : gb < h.nxt ∧ h.get gb = some (.cells [.slc ta t0 tc tz, .slc na nn nc nz, pv] true)) (sp : Lst h pv ps) (x : SBox h xb nb nu) (hl : ps.length ≤ 1000)
    (hp : ∀ p ∈ ps, PrOk nu.length tn p) (hne : gb ≠ nb ∧ xb ≠ nb) (hf : cntF nu < f) : UF T F 84 [.func (.func 85) [.ptr (some (gb, 0)), .ptr (some (xb, 0))]] h fun v' h' => Upd (· = nb) h h' ∧ Bits h' nb (.slc (some (nb, 0)) nu.length (some nu.length) 1) (fixN ps f nu) := by
  refine UF.gen fun Q hQ => UF.of (F_84) (c := _) rfl ?_
  unfold Try.f84
  simp only [List.length, Nat.reduceSub, Nat.reduceAdd, List.replicate, List.cons_append, List.nil_append]
  simp (disch := omega) only [go_sem, seval]
  refine LoopU_while (fun m st hh => ∃ (mu : List Bool) (e : Nat), m = cntF mu ∧ Upd (· = nb) h hh ∧ Bits hh nb (.slc (some (nb, 0)) nu.length (some nu.length) 1) mu ∧ mu.length = nu.length ∧ cntF mu < e ∧ fixN ps f nu = fixN ps e mu ∧
      Keep st 4 [(0, .func (.func 85) [.ptr (some (gb, 0)), .ptr (some (xb, 0))])]) (cntF nu)
    ⟨nu, f, rfl, Upd.refl _ _, x.2.2, rfl, hf, rfl, rfl, by simp [Has]⟩ ?_
  rintro m st hh ⟨mu, e, rfl, u, B, hml, hc, hfx, hk⟩
  rw [hk.eq]
  obtain ⟨k0, -⟩ := hk.2
  simp only [slotsFrom, Nat.reduceAdd] at k0 ⊢
  simp only [k0]
  simp (disch := omega) only [go_sem, seval]
  obtain ⟨e, rfl⟩ : ∃ d, e = d + 1 := ⟨e - 1, by omega⟩
  rw [fixN] at hfx
  have hnh := u.nxt
  have gx := (u.get xb x.1 hne.2).trans x.2.1
  rw [← hml] at gx B
  have hlt : ∀ p ∈ ps, p.left.toNat < mu.length := fun p hp' => by obtain ⟨⟨q1, q2⟩, _⟩ := hp p hp'; omega
  have hcs := stN_cnt mu ps hlt ps.length
  have hsl := stN_len mu ps ps.length
  have hx1 := x.1
  refine callV_ofU F_85 rfl ((nullS_uf (tv := .nilFn) (nv := .nilFn) ⟨by omega, (u.get gb hg.1 hne.1).trans hg.2⟩ (sp.pst u.pst) ⟨by omega, gx, B⟩ hl (fun p hp' => by rw [hml]; exact hp p hp') hne).mono ?_)
  rintro v2 h2 ⟨u2, B2, rfl⟩
  simp (disch := omega) only [go_sem, seval]
  rw [hml] at B2
  cases hgr : (stN mu ps ps.length).2 with
  | true =>
    rw [hgr, if_pos rfl] at hfx
    have := hcs.2 hgr
    simp (disch := omega) only [go_sem, seval]
    exact AgainK.mk (cntF (stN mu ps ps.length).1) (by simp only; omega) ⟨_, e, rfl, u.trans u2, B2, by omega, by omega, hfx, rfl, by simp [Has]⟩
  | false =>
    rw [hgr, if_neg (by simp)] at hfx
    simp (disch := omega) only [go_sem, seval]
    exact hQ _ _ ⟨u.trans u2, by rw [hfx]; exact B2⟩

theorem Nullable_uf {h : Heap} {tv nv pv : AV} {g : Gm} (lt : Lst h tv g.toks) (sn : Lst h nv g.nts) (sp : Lst h pv g.prods) (M : MayG g) : UF T F 37 [.agg [tv, nv, pv]] h fun v' h' => Ext h h' ∧ Lst h' v' (nulL g.nts.length g.prods) := by
  obtain ⟨ta, tn, tc, tz, rfl, htn⟩ := lt.form
  obtain ⟨na, nn, nc, nz, rfl, hnn⟩ := sn.form
  obtain ⟨pa, pn, pc, pz, rfl, hpn⟩ := sp.form
  refine UF.genq fun Q hQ => UF.of (F_37) (c := _) rfl ?_
  unfold Try.f37
  simp only [List.length, Nat.reduceSub, Nat.reduceAdd, List.replicate, List.cons_append, List.nil_append]
  simp (disch := omega) only [go_sem, seval]
  have e1 : Ext h (h.add (.cells [.slc ta tn tc tz, .slc na nn nc nz, .slc pa pn pc pz] true)) := Ext.add _ _
  have g1 : (h.add (.cells [.slc ta tn tc tz, .slc na nn nc nz, .slc pa pn pc pz] true)).get h.nxt = some (.cells [.slc ta tn tc tz, .slc na nn nc nz, .slc pa pn pc pz] true) := get_add_self
  have n1 : (h.add (.cells [.slc ta tn tc tz, .slc na nn nc nz, .slc pa pn pc pz] true)).nxt = h.nxt + 1 := by simp
  generalize (h.add (.cells [.slc ta tn tc tz, .slc na nn nc nz, .slc pa pn pc pz] true)) = h1 at *
  refine callV_ofU F_28 rfl ((May_uf (lt.ext e1) (sn.ext e1) (sp.ext e1) M).mono ?_)
  rintro v2 h2 ⟨e2, rfl⟩
  simp (disch := omega) only [go_sem, seval]
  have g2 := (e2.get _ (by omega)).trans g1
  have hn2 := e2.nxt
  have hnl := M.nl
  simp (disch := omega) only [go_sem, seval, g2]
  refine mk_bits T_73 (by omega) ?_
  have gz : ((h2.add (.cells ((List.replicate nn false).map AV.bool) true)).add (.cells [.slc none 0 (some 0) 0] true)).get (h2.nxt + 1) = some (.cells [.slc none 0 (some 0) 0] true) := by
    rw [← Heap.add_nxt h2 (.cells ((List.replicate nn false).map AV.bool) true)]; exact get_add_self
  have e3 : Ext h2 (((h2.add (.cells ((List.replicate nn false).map AV.bool) true)).add (.cells [.slc none 0 (some 0) 0] true)).put (h2.nxt + 1) (.cells [.slc (some (h2.nxt, 0)) nn (some nn) 1] true)) := ((Ext.add _ _).trans (Ext.add _ _)).put (by omega)
  have gx : (((h2.add (.cells ((List.replicate nn false).map AV.bool) true)).add (.cells [.slc none 0 (some 0) 0] true)).put (h2.nxt + 1) (.cells [.slc (some (h2.nxt, 0)) nn (some nn) 1] true)).get (h2.nxt + 1) = some (.cells [.slc (some (h2.nxt, 0)) nn (some nn) 1] true) := get_put_self
  have B3 : Bits (((h2.add (.cells ((List.replicate nn false).map AV.bool) true)).add (.cells [.slc none 0 (some 0) 0] true)).put (h2.nxt + 1) (.cells [.slc (some (h2.nxt, 0)) nn (some nn) 1] true)) h2.nxt (.slc (some (h2.nxt, 0)) nn (some nn) 1) (List.replicate nn false) :=
    (bits_new.ext (Ext.add _ _)).upd (Upd.put (S := (· = h2.nxt + 1)) _ rfl fun cs e => by rw [gz] at e; simp at e) (by omega)
  have n3 : (((h2.add (.cells ((List.replicate nn false).map AV.bool) true)).add (.cells [.slc none 0 (some 0) 0] true)).put (h2.nxt + 1) (.cells [.slc (some (h2.nxt, 0)) nn (some nn) 1] true)).nxt = h2.nxt + 2 := by simp
  simp (disch := omega) only [go_sem, seval, gz]
  generalize (((h2.add (.cells ((List.replicate nn false).map AV.bool) true)).add (.cells [.slc none 0 (some 0) 0] true)).put (h2.nxt + 1) (.cells [.slc (some (h2.nxt, 0)) nn (some nn) 1] true)) = h3 at *
  have g3 := (e3.get _ (by omega)).trans g2
  have hrl : (List.replicate nn false).length = nn := List.length_replicate
  have hps := M.pr
  have hc := cntF_le (List.replicate nn false)
  have w84 := growsN_uf (tn := g.toks.length) (f := nn + 1) ⟨by omega, g3⟩ (((sp.ext e1).ext e2).ext e3) (x := (⟨by omega, by rw [hrl]; exact gx, by rw [hrl]; exact B3⟩ : SBox h3 (h2.nxt + 1) h2.nxt (List.replicate nn false))) (by have := M.pl; omega) (fun p hp => by rw [hrl, hnn]; exact hps p hp) ⟨by omega, by omega⟩ (by omega)
  refine callV_ofU F_84 rfl (w84.mono ?_)
  rintro v4 h4 ⟨u4, B4⟩
  have gx4 := (u4.get _ (by omega) (by omega)).trans gx
  simp (disch := omega) only [go_sem, seval, gx4]
  rw [hrl] at B4
  obtain ⟨h9, l9, n9, L9, u9⟩ := B4.frz
  have hfl := fixN_len g.prods (nn + 1) (List.replicate nn false)
  exact hQ _ _ h9 l9 ⟨(((((e1.trans e2).trans e3).upd (h.nxt ≤ ·)).trans' u4 fun b e _ => by omega).trans' u9 fun b e _ => by omega).ext fun b hb => by omega, by rw [nulL, ← hnn]; exact L9⟩

end Go.Proofs.Ytaockkmmjinhpaa
