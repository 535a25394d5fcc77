/-
  Layer first: sets, one put into the other.
-/
import Derived.Test.YtaockkmmjinhpaaGMayU
namespace Go.Proofs.Ytaockkmmjinhpaa
open Go Go.Am
set_option maxRecDepth 100000
set_option maxHeartbeats 4000000
set_option linter.unusedSimpArgs false
set_option linter.unusedVariables false

/-- A set, in its block. -/
def Bits (h : Heap) (b : Nat) (v : AV) (bs : List Bool) : Prop := v = .slc (some (b, 0)) bs.length (some bs.length) 1 ∧ b < h.nxt ∧ h.get b = some (.cells (bs.map AV.bool) true)
theorem Bits.upd {h h' : Heap} {b : Nat} {v : AV} {bs : List Bool} {S : Nat → Prop} (B : Bits h b v bs) (u : Upd S h h') (hS : ¬ S b) : Bits h' b v bs := ⟨B.1, Nat.lt_of_lt_of_le B.2.1 u.nxt, (u.get b B.2.1 hS).trans B.2.2⟩
theorem Bits.ext {h h' : Heap} {b : Nat} {v : AV} {bs : List Bool} (B : Bits h b v bs) (e : Ext h h') : Bits h' b v bs := B.upd (e.upd fun _ => False) fun f => f
theorem Bits.set {h : Heap} {b : Nat} {v : AV} {bs : List Bool} (B : Bits h b v bs) (i : Nat) (y : Bool) : Bits (h.put b (.cells ((bs.map AV.bool).set i (.bool y)) true)) b v (bs.set i y) := by
  obtain ⟨rfl, hb, hg⟩ := B
  exact ⟨by simp, by simp; exact hb, by rw [get_put_self, List.map_set]⟩
theorem set_uf {h : Heap} {b : Nat} {v : AV} {bs : List Bool} {i : Nat} (B : Bits h b v bs) (hi : i < bs.length) : UF T F 88 [v, .int .i64 (i : Nat)] h fun v' h' => Upd (· = b) h h' ∧ Bits h' b v (bs.set i true) ∧ v' = .bool (!bs[i]) := by
  have hB := B
  obtain ⟨rfl, hb, hg⟩ := B
  refine UF.gen fun Q hQ => UF.of (F_88) (c := _) rfl ?_
  unfold Try.f88
  simp only [List.length, Nat.reduceSub, Nat.reduceAdd, List.replicate, List.cons_append, List.nil_append]
  simp (disch := omega) only [go_sem, seval]
  have hc : (bs.map AV.bool)[i * 1]? = some (.bool bs[i]) := by rw [Nat.mul_one, List.getElem?_map, List.getElem?_eq_getElem hi]; rfl
  have hii : (i : Int) < (bs.length : Nat) := by omega
  have hroom : i * 1 + 1 ≤ (bs.map AV.bool).length := by simp; omega
  simp (disch := omega) only [go_sem, seval, hii, hg, hc, hroom, Int.toNat_natCast]
  have u := Upd.put (S := (· = b)) (h := h) (.cells ((bs.map AV.bool).set (i * 1) (.bool true)) true) rfl fun cs e => by rw [hg] at e; simp at e
  rw [Nat.mul_one] at *
  exact hQ _ _ ⟨u, hB.set i true, rfl⟩

/-- A set that can be read while the block b is written. -/
def Rdb (b : Nat) (h : Heap) (v : AV) (ys : List Bool) : Prop := ∃ a c, v = .slc a ys.length c 1 ∧ ∀ hh, Upd (· = b) h hh → ∀ i, i < ys.length → ∃ bb o cs w, a = some (bb, o) ∧ hh.get bb = some (.cells cs w) ∧ cs[o + i * 1]? = some (.bool (ys.getD i false))
theorem Lst.rdb {h : Heap} {b : Nat} {v : AV} {ys : List Bool} (s : Lst h v ys) (hne : ys ≠ []) : Rdb b h v ys := by
  obtain ⟨a, n, c, z, rfl, rfl⟩ := s.form
  have h0 : 0 < ys.length := List.length_pos_iff.2 hne
  obtain ⟨_, _, _, _, _, rfl, _⟩ := s.at_ (i := 0) (x := ys[0]) (List.getElem?_eq_getElem h0) (k := 1) rfl
  refine ⟨a, c, rfl, fun hh u i hi => ?_⟩
  obtain ⟨b1, o1, cs1, l1, e1, _, hb1, hg1, rfl, hr1, ht1, hc1⟩ := (s.pst u.pst).at_ (i := i) (x := ys[i]) (List.getElem?_eq_getElem hi) (k := 1) rfl
  exact ⟨b1, o1, cs1, false, e1, hg1, by rw [List.getD_eq_getElem?_getD, List.getElem?_eq_getElem hi]; exact hc1 0 (by decide)⟩
theorem Bits.rdb {h : Heap} {b b' : Nat} {v : AV} {ys : List Bool} (B : Bits h b' v ys) (hne : b' ≠ b) : Rdb b h v ys := by
  obtain ⟨rfl, hb, hg⟩ := B
  refine ⟨_, _, rfl, fun hh u i hi => ⟨b', 0, _, true, rfl, (u.get b' hb hne).trans hg, ?_⟩⟩
  rw [Nat.zero_add, Nat.mul_one, List.getElem?_map, List.getElem?_eq_getElem hi, List.getD_eq_getElem?_getD, List.getElem?_eq_getElem hi]; rfl
/-- One set put into the other, of the first so many places; whether something is new. -/
def orT (xs ys : List Bool) : Nat → List Bool
  | 0 => xs
  | i + 1 => if ys.getD i false = true then (orT xs ys i).set i true else orT xs ys i
def grw (xs ys : List Bool) : Nat → Bool
  | 0 => false
  | i + 1 => if ys.getD i false = true ∧ (orT xs ys i).getD i false = false then true else grw xs ys i
theorem orT_len (xs ys : List Bool) : ∀ i, (orT xs ys i).length = xs.length
  | 0 => rfl
  | i + 1 => by
    rw [orT]
    split
    · rw [List.length_set, orT_len xs ys i]
    · exact orT_len xs ys i
theorem union_uf {h : Heap} {b : Nat} {v w : AV} {xs ys : List Bool} (B : Bits h b v xs) (R : Rdb b h w ys) (hl : ys.length ≤ xs.length) (hx : xs.length ≤ 1000) : UF T F 92 [v, w] h fun v' h' => Upd (· = b) h h' ∧ Bits h' b v (orT xs ys ys.length) ∧ v' = .bool (grw xs ys ys.length) := by
  obtain ⟨a, c, rfl, R⟩ := R
  have hB := B
  obtain ⟨rfl, hb, hg⟩ := B
  refine UF.gen fun Q hQ => UF.of (F_92) (c := _) rfl ?_
  unfold Try.f92
  simp only [List.length, Nat.reduceSub, Nat.reduceAdd, List.replicate, List.cons_append, List.nil_append]
  simp (disch := omega) only [go_sem, seval]
  refine LoopU_while (fun m st hh => ∃ (i : Nat), i ≤ ys.length ∧ m = ys.length - i ∧ Upd (· = b) h hh ∧ Bits hh b (.slc (some (b, 0)) xs.length (some xs.length) 1) (orT xs ys i) ∧
      Keep st 22 [(0, .slc (some (b, 0)) xs.length (some xs.length) 1), (4, .bool (grw xs ys i)), (7, .slc a ys.length c 1), (8, .int .i64 (ys.length : Nat)), (9, .int .i64 (i : Nat))]) ys.length
    ⟨0, by omega, by omega, Upd.refl _ _, hB, rfl, by simp [Has, grw]⟩ ?_
  rintro m st hh ⟨i, hi, rfl, u, Bi, hk⟩
  rw [hk.eq]
  obtain ⟨k0, k4, k7, k8, k9, -⟩ := hk.2
  simp only [slotsFrom, Nat.reduceAdd] at k0 k4 k7 k8 k9 ⊢
  simp only [k0, k4, k7, k8, k9]
  simp (disch := omega) only [go_sem, seval]
  by_cases hlt : (i : Int) < (ys.length : Nat)
  · have hil : i < ys.length := by omega
    obtain ⟨bb, o, cs, w, rfl, hgb, hc⟩ := R hh u i hil
    have hol := orT_len xs ys i
    cases hy : ys.getD i false with
    | true =>
      rw [hy] at hc
      simp (disch := omega) only [go_sem, seval, hlt, hgb, hc, Int.toNat_natCast]
      refine callV_ofU F_88 rfl ((set_uf Bi (i := i) (by omega)).mono ?_)
      rintro v2 h2 ⟨u2, B2, rfl⟩
      simp (disch := omega) only [go_sem, seval]
      have ho : orT xs ys (i + 1) = (orT xs ys i).set i true := by rw [orT, if_pos hy]
      have hgd : (orT xs ys i).getD i false = (orT xs ys i)[i]'(by omega) := by rw [List.getD_eq_getElem?_getD, List.getElem?_eq_getElem (by omega)]; rfl
      cases hz : (orT xs ys i)[i]'(by omega) with
      | true =>
        have hgr : grw xs ys (i + 1) = grw xs ys i := by rw [grw, if_neg (by rw [hgd, hz]; simp)]
        simp (disch := omega) only [go_sem, seval]
        exact AgainK.mk (ys.length - (i + 1)) (by simp only; omega) ⟨i + 1, by omega, rfl, u.trans u2, by rw [ho]; exact B2, rfl, by simp [Has, hgr]⟩
      | false =>
        have hgr : grw xs ys (i + 1) = true := by rw [grw, if_pos ⟨hy, by rw [hgd, hz]⟩]
        simp (disch := omega) only [go_sem, seval]
        exact AgainK.mk (ys.length - (i + 1)) (by simp only; omega) ⟨i + 1, by omega, rfl, u.trans u2, by rw [ho]; exact B2, rfl, by simp [Has, hgr]⟩
    | false =>
      rw [hy] at hc
      have ho : orT xs ys (i + 1) = orT xs ys i := by rw [orT, if_neg (by rw [hy]; simp)]
      have hgr : grw xs ys (i + 1) = grw xs ys i := by rw [grw, if_neg (by rw [hy]; simp)]
      simp (disch := omega) only [go_sem, seval, hlt, hgb, hc, Int.toNat_natCast]
      exact AgainK.mk (ys.length - (i + 1)) (by simp only; omega) ⟨i + 1, by omega, rfl, u, by rw [ho]; exact Bi, rfl, by simp [Has, hgr]⟩
  · simp (disch := omega) only [go_sem, seval, hlt]
    have hie : i = ys.length := by omega
    subst hie
    exact hQ _ _ ⟨u, Bi, rfl⟩

end Go.Proofs.Ytaockkmmjinhpaa
