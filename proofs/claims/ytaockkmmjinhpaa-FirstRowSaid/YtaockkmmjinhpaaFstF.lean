/-
  Layer first: what nonterminals may begin with.
-/
import Derived.Test.YtaockkmmjinhpaaFstE
namespace Go.Proofs.Ytaockkmmjinhpaa
open Go Go.Am
set_option maxRecDepth 100000
set_option maxHeartbeats 4000000
set_option linter.unusedSimpArgs false
set_option linter.unusedVariables false

theorem begF_len {t : Nat} {nu : List Bool} {fi : List (List Bool)} : ∀ {rs : List GSym} {o : List Bool}, o.length = t → (begF nu fi rs o).1.length = t
  | [], o, h => h
  | s :: r, o, h => by
    rw [begF]
    split
    · simp only [List.length_set]; exact h
    · split
      · exact begF_len (by rw [orT_len]; exact h)
      · simp only; rw [orT_len]; exact h
theorem begL_len (t : Nat) (nu : List Bool) (fi : List (List Bool)) (rs : List GSym) : (begL t nu fi rs).1.length = t := begF_len List.length_replicate
/-- One round: as of the first so many productions. -/
def stF (t : Nat) (nu : List Bool) (fi : List (List Bool)) (ps : List GProd) : Nat → List (List Bool) × Bool
  | 0 => (fi, false)
  | i + 1 => match ps[i]? with
    | some p => let F := stF t nu fi ps i
      ((F.1).set p.left.toNat (orT (F.1.getD p.left.toNat []) (begL t nu F.1 p.right).1 t), if grw (F.1.getD p.left.toNat []) (begL t nu F.1 p.right).1 t = true then true else F.2)
    | none => stF t nu fi ps i
def totF : List (List Bool) → Nat
  | [] => 0
  | r :: l => cntF r + totF l
theorem totF_set : ∀ (l : List (List Bool)) (k : Nat) (r x : List Bool), l[k]? = some x → totF (l.set k r) + cntF x = totF l + cntF r
  | [], k, r, x, h => by simp at h
  | a :: l, 0, r, x, h => by simp only [List.getElem?_cons_zero, Option.some.injEq] at h; subst h; simp only [List.set_cons_zero, totF]; omega
  | a :: l, k + 1, r, x, h => by
    have := totF_set l k r x (by simpa using h)
    simp only [List.set_cons_succ, totF]; omega
theorem orT_cnt (xs ys : List Bool) : ∀ i, i ≤ xs.length → cntF (orT xs ys i) ≤ cntF xs ∧ (grw xs ys i = true → cntF (orT xs ys i) < cntF xs)
  | 0, _ => ⟨Nat.le_refl _, fun h => by simp [grw] at h⟩
  | i + 1, hi => by
    obtain ⟨h1, h2⟩ := orT_cnt xs ys i (by omega)
    have hl := orT_len xs ys i
    have hc := cntF_set (orT xs ys i) i
    rw [orT, grw]
    by_cases hy : ys.getD i false = true
    · rw [if_pos hy]
      refine ⟨by omega, fun h => ?_⟩
      split at h
      · rename_i hc2
        have : (orT xs ys i)[i]? = some false := by
          have := hc2.2
          rw [List.getD_eq_getElem?_getD, List.getElem?_eq_getElem (by omega)] at this
          rw [List.getElem?_eq_getElem (by omega)]
          simpa using this
        have := hc.2 this
        omega
      · have := h2 h; omega
    · rw [if_neg hy, if_neg (fun h => hy h.1)]
      exact ⟨h1, h2⟩
structure Rows (t n : Nat) (fi : List (List Bool)) : Prop where
  len : fi.length = n
  row : ∀ r ∈ fi, r.length = t
theorem Rows.getD {t n : Nat} {fi : List (List Bool)} (R : Rows t n fi) {k : Nat} (hk : k < n) : ∃ r, fi[k]? = some r ∧ fi.getD k [] = r ∧ r.length = t := by
  have hk' : k < fi.length := by have := R.len; omega
  exact ⟨fi[k], List.getElem?_eq_getElem hk', by rw [List.getD_eq_getElem?_getD, List.getElem?_eq_getElem hk']; rfl, R.row _ (List.getElem_mem hk')⟩
theorem stF_ok {t n : Nat} {nu : List Bool} {fi : List (List Bool)} {ps : List GProd} (R : Rows t n fi) (hp : ∀ p ∈ ps, p.left.toNat < n) : ∀ i, Rows t n (stF t nu fi ps i).1 ∧ totF (stF t nu fi ps i).1 ≤ totF fi ∧ ((stF t nu fi ps i).2 = true → totF (stF t nu fi ps i).1 < totF fi)
  | 0 => ⟨R, Nat.le_refl _, fun h => by simp [stF] at h⟩
  | i + 1 => by
    obtain ⟨R1, t1, t2⟩ := stF_ok (nu := nu) R hp i
    rw [stF]
    split
    · rename_i p hpi
      have hpl := hp p (List.mem_of_getElem? hpi)
      obtain ⟨r, hr1, hr2, hr3⟩ := R1.getD hpl
      simp only [hr2]
      have hs := totF_set (stF t nu fi ps i).1 p.left.toNat (orT r (begL t nu (stF t nu fi ps i).1 p.right).1 t) r hr1
      have hc := orT_cnt r (begL t nu (stF t nu fi ps i).1 p.right).1 t (by omega)
      refine ⟨⟨by rw [List.length_set]; exact R1.len, fun x hx => ?_⟩, by omega, fun h => ?_⟩
      · rcases List.mem_or_eq_of_mem_set hx with hx | rfl
        · exact R1.row x hx
        · rw [orT_len]; exact hr3
      · split at h
        · rename_i hg
          have := hc.2 hg; omega
        · have := t2 h; omega
    · exact ⟨R1, t1, t2⟩
def fixF (t : Nat) (nu : List Bool) (ps : List GProd) : Nat → List (List Bool) → List (List Bool)
  | 0, fi => fi
  | f + 1, fi => if (stF t nu fi ps ps.length).2 = true then fixF t nu ps f (stF t nu fi ps ps.length).1 else (stF t nu fi ps ps.length).1
theorem fixF_ok {t n : Nat} {nu : List Bool} {ps : List GProd} (hp : ∀ p ∈ ps, p.left.toNat < n) : ∀ (f : Nat) {fi : List (List Bool)}, Rows t n fi → Rows t n (fixF t nu ps f fi)
  | 0, fi, R => R
  | f + 1, fi, R => by
    have := (stF_ok (nu := nu) R hp ps.length).1
    rw [fixF]
    split
    · exact fixF_ok hp f this
    · exact this
def firL (t n : Nat) (ps : List GProd) : List (List Bool) := fixF t (nulL n ps) ps (t * n + 1) (List.replicate n (List.replicate t false))

theorem firS_uf {h : Heap} {gb ub xb ob tn : Nat} {nv pv uv : AV} {ta pa : Option (Nat × Nat)} {tc pc : Option Nat} {tz pz : Nat} {bl : List Nat} {ns : List GNt} {ps : List GProd} {nu : List Bool} {fi : List (List Bool)}
    (hg : gb < h.nxt ∧ h.get gb = some (.cells [.slc ta tn tc tz, nv, pv] true)) (hu : ub < h.nxt ∧ h.get ub = some (.cells [uv] true)) (hx : xb < h.nxt ∧ h.get xb = some (.cells [.slc (some (ob, 0)) fi.length (some fi.length) 1] true))
    (sn : Lst h nv ns) (sp : Lst h pv ps) (su : Lst h uv nu) (tb : Tbl h ob tn bl fi) (R : Rows tn ns.length fi) (hul : nu.length = ns.length) (hl : ps.length ≤ 1000) (hn : ns.length ≤ 100) (ht : 0 < tn ∧ tn ≤ 100)
    (hp : ∀ p ∈ ps, PrOk ns.length tn p) (hne : gb ∉ bl ∧ ub ∉ bl ∧ xb ∉ bl) : UF T F 90 [.ptr (some (gb, 0)), .ptr (some (ub, 0)), .ptr (some (xb, 0))] h fun v' h' => Upd (· ∈ bl) h h' ∧ Tbl h' ob tn bl (stF tn nu fi ps ps.length).1 ∧ v' = .bool (stF tn nu fi ps ps.length).2 := by
  obtain ⟨na, nn, nc, nz, rfl, hnn⟩ := sn.form
  obtain ⟨pa', pn, pc', pz', rfl, hpn⟩ := sp.form
  obtain ⟨ua, un, uc, uz, rfl, hun⟩ := su.form
  obtain ⟨hg1, hg2⟩ := hg
  obtain ⟨hu1, hu2⟩ := hu
  obtain ⟨hx1, hx2⟩ := hx
  have hpl : ∀ p ∈ ps, p.left.toNat < ns.length := fun p hp' => by obtain ⟨⟨q1, q2⟩, _⟩ := hp p hp'; omega
  refine UF.gen fun Q hQ => UF.of (F_90) (c := _) rfl ?_
  unfold Try.f90
  simp only [List.length, Nat.reduceSub, Nat.reduceAdd, List.replicate, List.cons_append, List.nil_append]
  simp (disch := omega) only [go_sem, seval]
  simp (disch := omega) only [go_sem, seval, hg2]
  refine LoopU_while (fun m st hh => ∃ (i : Nat), i ≤ ps.length ∧ m = ps.length - i ∧ Upd (· ∈ bl) h hh ∧ Tbl hh ob tn bl (stF tn nu fi ps i).1 ∧
      Keep st 33 [(0, .ptr (some (gb, 0))), (1, .ptr (some (ub, 0))), (2, .ptr (some (xb, 0))), (3, .bool (stF tn nu fi ps i).2), (9, .slc pa' pn pc' pz'), (10, .int .i64 (pn : Nat)), (11, .int .i64 (i : Nat))]) ps.length
    ⟨0, by omega, by omega, Upd.refl _ _, tb, rfl, by simp [Has, stF]⟩ ?_
  rintro m st hh ⟨i, hi, rfl, u, tbi, hk⟩
  rw [hk.eq]
  obtain ⟨k0, k1, k2, k3, k9, k10, k11, -⟩ := hk.2
  simp only [slotsFrom, Nat.reduceAdd] at k0 k1 k2 k3 k9 k10 k11 ⊢
  simp only [k0, k1, k2, k3, k9, k10, k11]
  have hnh := u.nxt
  have RI := (stF_ok (nu := nu) R hpl i).1
  simp (disch := omega) only [go_sem, seval]
  by_cases hlt : (i : Int) < (pn : Int)
  · have hil : i < ps.length := by omega
    obtain ⟨b1, o1, cs1, l1, rfl, rfl, hb1, hg1', ⟨ra, xa, rfl, sr, sx⟩, hr1, ht1, hc1⟩ := (sp.pst u.pst).at_ (i := i) (x := ps[i]) (List.getElem?_eq_getElem hil) (k := 3) rfl
    obtain ⟨⟨q1, q2⟩, q3, q4⟩ := hp ps[i] (List.getElem_mem hil)
    have hst : stF tn nu fi ps (i + 1) = (((stF tn nu fi ps i).1).set ps[i].left.toNat (orT ((stF tn nu fi ps i).1.getD ps[i].left.toNat []) (begL tn nu (stF tn nu fi ps i).1 ps[i].right).1 tn), if grw ((stF tn nu fi ps i).1.getD ps[i].left.toNat []) (begL tn nu (stF tn nu fi ps i).1 ps[i].right).1 tn = true then true else (stF tn nu fi ps i).2) := by rw [stF, List.getElem?_eq_getElem hil]
    generalize ps[i] = p at *
    generalize stF tn nu fi ps i = S at *
    obtain ⟨mu, gr⟩ := S
    simp only at tbi RI hst ⊢
    obtain ⟨ra, rn, rc, rz, rfl, hrn⟩ := sr.form
    obtain ⟨xa, xn, xc, xz, rfl, hxn⟩ := sx.form
    obtain ⟨k, hk0⟩ : ∃ k : Nat, p.left = k := ⟨p.left.toNat, by omega⟩
    rw [hk0] at ht1 hst q2
    rw [Int.toNat_natCast] at hst
    have e2 : Ext hh ((hh.add (.cells [.int .i64 0, .slc none 0 (some 0) 0, .slc none 0 (some 0) 0] true)).put hh.nxt (.cells [.int .i64 (k : Nat), .slc ra rn rc rz, .slc xa xn xc xz] true)) := (Ext.add _ _).put (Nat.le_refl _)
    have g2 : ((hh.add (.cells [.int .i64 0, .slc none 0 (some 0) 0, .slc none 0 (some 0) 0] true)).put hh.nxt (.cells [.int .i64 (k : Nat), .slc ra rn rc rz, .slc xa xn xc xz] true)).get hh.nxt = some (.cells [.int .i64 (k : Nat), .slc ra rn rc rz, .slc xa xn xc xz] true) := get_put_self
    have n2 : ((hh.add (.cells [.int .i64 0, .slc none 0 (some 0) 0, .slc none 0 (some 0) 0] true)).put hh.nxt (.cells [.int .i64 (k : Nat), .slc ra rn rc rz, .slc xa xn xc xz] true)).nxt = hh.nxt + 1 := by simp
    simp (disch := omega) only [go_sem, seval, hlt, hg1', hr1, ht1, Int.toNat_natCast]
    generalize ((hh.add (.cells [.int .i64 0, .slc none 0 (some 0) 0, .slc none 0 (some 0) 0] true)).put hh.nxt (.cells [.int .i64 (k : Nat), .slc ra rn rc rz, .slc xa xn xc xz] true)) = h2 at *
    have u2 : Upd (· ∈ bl) h h2 := u.trans (e2.upd _)
    have gg2 := (u2.get gb hg1 hne.1).trans hg2
    have gu2 := (u2.get ub hu1 hne.2.1).trans hu2
    have gx2 := (u2.get xb hx1 hne.2.2).trans hx2
    have hfl : fi.length = mu.length := R.len.trans RI.len.symm
    rw [hfl] at gx2
    have ggh := (u.get gb hg1 hne.1).trans hg2
    have guh := (u.get ub hu1 hne.2.1).trans hu2
    have gxh := (u.get xb hx1 hne.2.2).trans hx2
    rw [hfl] at gxh
    simp (disch := omega) only [go_sem, seval, gg2, gu2, gx2, g2, ggh, guh, gxh]
    have tb2 := tbi.ext e2
    refine callV_ofU F_91 rfl ((begins_uf (sn.pst u2.pst) (su.pst u2.pst) tb2 (sr.ext e2) hul RI.len q4 (by omega) ht.2 hn).mono ?_)
    rintro v3 h3 ⟨e3, w, rfl, L3⟩
    have hbl3 := begL_len tn nu mu p.right
    obtain ⟨wa, wn, wc, wz, rfl, hwn⟩ := L3.form
    have gx3 := (e3.get _ (by have := u2.nxt; omega)).trans gx2
    have g3 := (e3.get _ (by omega)).trans g2
    have tb3 := tb2.ext e3
    have hkn : k < mu.length := by have := RI.len; omega
    have hkb : k < bl.length := by have := tb3.len; omega
    have q5 : (k : Int) < (mu.length : Nat) := by omega
    have gO := tb3.get
    have cO : (bl.map fun b => AV.slc (some (b, 0)) tn (some tn) 1)[k * 1]? = some (.slc (some (bl[k], 0)) tn (some tn) 1) := by rw [Nat.mul_one, List.getElem?_map, List.getElem?_eq_getElem hkb]; rfl
    obtain ⟨hrl, hrB⟩ := tb3.row k bl[k] mu[k] (List.getElem?_eq_getElem hkb) (List.getElem?_eq_getElem hkn)
    have hfi : mu.getD k [] = mu[k] := by rw [List.getD_eq_getElem?_getD, List.getElem?_eq_getElem hkn]; rfl
    rw [hfi] at hst
    simp (disch := omega) only [go_sem, seval, gx3, g3, q5, gO, cO, Int.toNat_natCast]
    refine callV_ofU F_92 rfl ((union_uf hrB (Lst.rdb L3 (fun e => by rw [e] at hbl3; simp at hbl3; omega)) (by omega) (by omega)).mono ?_)
    rintro v4 h4 ⟨u4, B4, rfl⟩
    simp (disch := omega) only [go_sem, seval]
    rw [hbl3] at B4
    have tb4 := tb3.write (List.getElem?_eq_getElem hkb) u4 (by rw [orT_len]; exact hrl) B4
    have uu : Upd (· ∈ bl) h h4 := (u2.trans (e3.upd _)).trans (u4.weak fun b _ e => by rw [e]; exact List.getElem_mem hkb)
    rw [hbl3]
    cases hgr : grw mu[k] (begL tn nu mu p.right).1 tn with
    | true =>
      rw [hgr, if_pos rfl] at hst
      simp (disch := omega) only [go_sem, seval]
      exact AgainK.mk (ps.length - (i + 1)) (by simp only; omega) ⟨i + 1, by omega, rfl, uu, by rw [hst]; exact tb4, rfl, by simp [Has, hst]⟩
    | false =>
      rw [hgr, if_neg (by simp)] at hst
      simp (disch := omega) only [go_sem, seval]
      exact AgainK.mk (ps.length - (i + 1)) (by simp only; omega) ⟨i + 1, by omega, rfl, uu, by rw [hst]; exact tb4, rfl, by simp [Has, hst]⟩
  · simp (disch := omega) only [go_sem, seval, hlt]
    have hie : i = ps.length := by omega
    subst hie
    exact hQ _ _ ⟨u, tbi, rfl⟩

end Go.Proofs.Ytaockkmmjinhpaa
