/-
  Layer dfa: rows of states.
-/
import Derived.Test.YtenpjkinpecnfaaDfaP
import Derived.KernelRfl
namespace Go.Proofs.Ytenpjkinpecnfaa
open Go Go.Am
set_option maxRecDepth 100000
set_option maxHeartbeats 4000000
set_option linter.unusedSimpArgs false
set_option linter.unusedVariables false

theorem setCells_all {cs vs : List AV} (h : vs.length = cs.length) : setCells cs 0 vs = vs := by
  refine List.ext_getElem? fun i => ?_
  rw [setCells_get _ _ _ _ (by simp; omega)]
  by_cases h1 : i < vs.length
  · rw [if_pos (by omega)]; rfl
  · rw [if_neg (by omega), List.getElem?_eq_none (by omega), List.getElem?_eq_none (by omega)]

/-- A row's cells. -/
def rcs (A : List Int) (e : Int) : List AV := A.map (fun z => AV.int .i64 z) ++ [.int .i64 e]
theorem rcs_len (A : List Int) (e : Int) : (rcs A e).length = A.length + 1 := by simp [rcs]
theorem rcs_set {A : List Int} {e y : Int} {c : Nat} (hc : c < A.length) : (rcs A e).set c (.int .i64 y) = rcs (A.set c y) e := by
  unfold rcs
  rw [List.set_append_left _ _ (by simpa using hc), List.map_set]
theorem rcs_get {A : List Int} {e : Int} {c : Nat} (hc : c < A.length) : (rcs A e)[c]? = (A[c]?).map fun z => AV.int .i64 z := by
  unfold rcs
  rw [List.getElem?_append_left (by simpa using hc), List.getElem?_map]
theorem rcs_fin {A : List Int} {e : Int} (hl : A.length = 256) : (rcs A e)[256]? = some (.int .i64 e) := by
  unfold rcs
  rw [List.getElem?_append_right (by simp [hl])]; simp [hl]
theorem rcs_setfin {A : List Int} {e y : Int} (hl : A.length = 256) : (rcs A e).set 256 (.int .i64 y) = rcs A y := by
  unfold rcs
  rw [List.set_append_right _ _ (by simp [hl])]; simp [hl]

theorem lit_row {h : Heap} {cs : List AV} (hl : cs.length = 257) : buildSliceA T 50 1 [(0, .agg cs)] h = some (.slc (some (h.nxt, 0)) 1 (some 1) 257, h.add (.cells cs true)) := by
  simp only [buildSliceA, T_50, T_56]
  have h1 : (AV.agg cs).cells = cs := rfl
  have hz : (zeroRow (List.replicate 257 (AV.int .i64 0)) (1 * 257)).length = 257 := by simp [zeroRow, -List.reduceReplicate]
  rw [if_neg (by omega), fillA]
  simp only
  rw [h1, if_pos ⟨hl, by rw [hz]; decide⟩, fillA]
  simp only
  rw [show 0 * 257 = 0 from rfl, setCells_all (by rw [hz, hl])]

theorem DfaOf_uf {h : Heap} {lv : AV} {G : List St} (sl : Lst h lv G) (hw : wt G ≤ 80000) (hp : 0 < G.length) :
    UF T F 34 [lv] h fun v' h' => Ext h h' ∧ ((∃ i, i ≤ 300 ∧ (ofN G i).1.length = i ∧ Lst h' v' (ofN G i).2) ∨ (v' = .slc none 0 (some 0) 0 ∧ 300 < (ofN G 300).1.length)) := by
  obtain ⟨la, ln, lc, lz, rfl, hln⟩ := sl.form
  have hgl := wt_len G
  refine UF.genq fun Q hQ => UF.of (F_34) (c := _) rfl ?_
  unfold Try.f34
  simp only [List.length, Nat.reduceSub, Nat.reduceAdd, List.replicate, List.cons_append, List.nil_append]
  simp (disch := omega) only [go_sem, seval]
  have e0 : Ext h (((h.add (.map [] 0)).add (.cells [.slc la ln lc lz, .slc none 0 (some 0) 0, .map (some h.nxt)] true)).add (.cells [.int .i64 0] true)) := ((Ext.add _ _).trans (Ext.add _ _)).trans (Ext.add _ _)
  have D0 : Db (((h.add (.map [] 0)).add (.cells [.slc la ln lc lz, .slc none 0 (some 0) 0, .map (some h.nxt)] true)).add (.cells [.int .i64 0] true)) (h.nxt + 1) h.nxt (.slc la ln lc lz) (.slc none 0 (some 0) 0) G [] := by
    refine ⟨?_, ⟨by omega, by simp⟩, ?_, sl.ext e0, LGrow.nil, by omega, by simp, by simp⟩
    · rw [get_add_lt (by simp), ← Heap.add_nxt h (.map [] 0), get_add_self]
    · rw [get_add_lt (by simp; omega), get_add_lt (by simp), get_add_self]; rfl
  have A0 : LSlc (α := Int) (((h.add (.map [] 0)).add (.cells [.slc la ln lc lz, .slc none 0 (some 0) 0, .map (some h.nxt)] true)).add (.cells [.int .i64 0] true)) (.slc (some (h.nxt + 1 + 1, 0)) 1 (some 1) 1) [0] := by
    refine LSlc.lit (wr := true) (b := h.nxt + 1 + 1) (ls := [[.int .i64 0]]) (by simp) ?_ rfl (Reps.one rfl) rfl rfl
    have : ((h.add (.map [] 0)).add (.cells [.slc la ln lc lz, .slc none 0 (some 0) 0, .map (some h.nxt)] true)).nxt = h.nxt + 1 + 1 := by simp
    rw [← this, get_add_self]; rfl
  generalize (((h.add (.map [] 0)).add (.cells [.slc la ln lc lz, .slc none 0 (some 0) 0, .map (some h.nxt)] true)).add (.cells [.int .i64 0] true)) = h0 at *
  refine callV_ofU F_60 rfl ((whole_uf D0.box D0.lt.2 D0.l A0 (by simp) (by omega)).mono ?_)
  rintro v1 h1 ⟨e1, L1⟩
  simp (disch := omega) only [go_sem, seval]
  have hcl := clo_le (G := G) (A := [0])
  refine callV_ofU F_59 rfl ((row_uf (D0.ext e1) L1 (fun x hx => (mem_clo.1 hx).elim fun a ha => ha.2.1) (by omega) (by simp)).mono ?_)
  rintro v2 h2 ⟨rfl, sv2, D2, u2, b2⟩
  simp (disch := omega) only [go_sem, seval]
  have hu2 : ∀ b, DbB (h.nxt + 1) h.nxt (.slc none 0 (some 0) 0) b → h.nxt ≤ b := fun b hb => by
    rcases hb with rfl | rfl | hb
    · omega
    · omega
    · simp [AV.blk] at hb
  have eh2 : Ext h h2 := (((e0.trans e1).upd (h.nxt ≤ ·)).trans' u2 fun b e1 e2 => hu2 b e1).ext fun b hb => by omega
  refine LoopU_while (fun m st hh => ∃ (i : Nat) (sv w : AV), m = 301 - i ∧ i ≤ 300 ∧ i ≤ (ofN G i).1.length ∧ Ext h hh ∧ Db hh (h.nxt + 1) h.nxt (.slc la ln lc lz) sv G (ofN G i).1 ∧ LGrow (h.nxt + 2) hh w (ofN G i).2 ∧ (∀ b, w.blk = some b → sv.blk ≠ some b) ∧
      Keep st 97 [(0, .slc la ln lc lz), (2, w), (3, .ptr (some (h.nxt + 1, 0))), (4, .int .i64 (i : Nat))]) 301
    ⟨0, sv2, .slc none 0 (some 0) 0, by omega, by omega, by omega, eh2, D2, LGrow.nil, fun b e => by simp [AV.blk] at e, rfl, by simp [Has]⟩ ?_
  rintro m st hh ⟨i, sv, w, rfl, hi, hiS, eh, D, L, hsep, hk⟩
  obtain ⟨sa, sn, sc, sz, rfl, hsn⟩ := D.s.form
  obtain ⟨wa, wn, wc, wz, rfl, hwn⟩ := L.form
  rw [hk.eq]
  obtain ⟨k0, k2, k3, k4, -⟩ := hk.2
  simp only [slotsFrom, Nat.reduceAdd] at k0 k2 k3 k4 ⊢
  simp only [k0, k2, k3, k4]
  have hb := ofN_bound G i
  simp (disch := omega) only [go_sem, seval, D.box]
  by_cases hlt : (i : Int) < (sn : Int)
  · by_cases h300 : (i : Int) ≥ 300
    · simp (disch := omega) only [go_sem, seval, hlt, h300]
      have hi3 : i = 300 := by omega
      subst hi3
      exact hQ _ _ hh (Le.refl _) ⟨eh, .inr ⟨rfl, by omega⟩⟩
    · have hil : i < (ofN G i).1.length := by omega
      have hs : (ofN G i).1[i]? = some (ofN G i).1[i] := List.getElem?_eq_getElem hil
      generalize hss : (ofN G i).1[i] = s at hs
      generalize hSS : (ofN G i).1 = S at *
      simp (disch := omega) only [go_sem, seval, hlt, h300, D.box, -List.reduceReplicate]
      have ea : Ext hh (hh.add (.cells (List.replicate 257 (.int .i64 0)) true)) := Ext.add _ _
      have ga : (hh.add (.cells (List.replicate 257 (.int .i64 0)) true)).get hh.nxt = some (.cells (List.replicate 257 (.int .i64 0)) true) := get_add_self
      have na : (hh.add (.cells (List.replicate 257 (.int .i64 0)) true)).nxt = hh.nxt + 1 := by simp
      generalize (hh.add (.cells (List.replicate 257 (.int .i64 0)) true)) = h3 at *
      have D3 := D.ext ea
      have hkn := D.lt
      obtain ⟨b1, o1, cs1, w1, l1, rfl, rfl, hb1, hg1, ⟨v6, rfl, L6⟩, hr1, ht1, hc1⟩ := D3.s.own.slc.at_ (i := i) (x := s) hs (k := 1) rfl
      have c10 := hc1 0 (by decide)
      simp only [Nat.add_zero, List.getElem?_cons_zero] at c10
      obtain ⟨a6, n6, c6, z6, rfl, hn6⟩ := L6.form
      have hsG : ∀ x ∈ s, x < G.length := D.elems s (List.mem_of_getElem? hs)
      have hsl : s.length ≤ G.length := D.lens s (List.mem_of_getElem? hs)
      simp (disch := omega) only [go_sem, seval, D3.box, hlt, hg1, Int.toNat_natCast, c10]
      refine callV_ofU F_61 rfl ((edges_uf D3 L6 hsG (by omega)).mono ?_)
      rintro v4 h4 ⟨e4, E, rfl, hE, hed⟩
      simp (disch := omega) only [go_sem, seval, -List.reduceReplicate]
      have hEl : (E.map AV.bool).length = 256 := by simp [hE]
      have hEr : (E.map AV.bool).length ≤ (List.replicate 256 (AV.bool false)).length := by simp [hE]
      have hleaf : (E.map AV.bool).all AV.leaf = true := by simp [List.all_map, AV.leaf]
      have hself : setCells (List.replicate 256 (AV.bool false)) 0 (E.map AV.bool) = E.map AV.bool := setCells_all (by simp [hE])
      simp (disch := omega) only [go_sem, seval, hEl, hEr, hleaf, hself, -List.reduceReplicate]
      have eb : Ext h4 ((h4.add (.cells (List.replicate 256 (.bool false)) true)).put h4.nxt (.cells (E.map AV.bool) true)) := (Ext.add _ _).put (Nat.le_refl _)
      have gb : ((h4.add (.cells (List.replicate 256 (.bool false)) true)).put h4.nxt (.cells (E.map AV.bool) true)).get h4.nxt = some (.cells (E.map AV.bool) true) := get_put_self
      have nb : ((h4.add (.cells (List.replicate 256 (.bool false)) true)).put h4.nxt (.cells (E.map AV.bool) true)).nxt = h4.nxt + 1 := by simp
      generalize ((h4.add (.cells (List.replicate 256 (.bool false)) true)).put h4.nxt (.cells (E.map AV.bool) true)) = h5 at *
      have hrb : hh.nxt < h4.nxt := by have := e4.nxt; omega
      have e45 : Ext h3 h5 := e4.trans eb
      have D5 := D3.ext e45
      have g5r : h5.get hh.nxt = _ := (e45.get _ (by omega)).trans ga
      have wlt : ∀ b, (AV.slc wa wn wc wz).blk = some b → b < hh.nxt := fun b e => L.lt e
      have slt : ∀ b, (AV.slc (some (b1, o1)) sn sc 1).blk = some b → b < hh.nxt := fun b e => D.s.lt e
      refine LoopU_while (fun m st h6 => ∃ (c : Nat) (A : List Int) (sv : AV), c ≤ 256 ∧ m = 256 - c ∧ A.length = 256 ∧ A.take c = (rowAll G s c S).2 ∧ h6.get hh.nxt = some (.cells (rcs A 0) true) ∧ h6.get h4.nxt = some (.cells (E.map AV.bool) true) ∧ h5.nxt ≤ h6.nxt ∧ Ext h h6 ∧
          Db h6 (h.nxt + 1) h.nxt (.slc la ln lc lz) sv G (rowAll G s c S).1 ∧ Lst h6 (.slc a6 n6 c6 z6) s ∧ LGrow (h.nxt + 2) h6 (.slc wa wn wc wz) (ofN G i).2 ∧ (∀ b, sv.blk = some b → b ≠ hh.nxt ∧ b ≠ h4.nxt ∧ (AV.slc wa wn wc wz).blk ≠ some b) ∧
          Keep st 97 [(0, .slc la ln lc lz), (2, .slc wa wn wc wz), (3, .ptr (some (h.nxt + 1, 0))), (4, .int .i64 (i : Nat)), (5, .ptr (some (hh.nxt, 0))), (6, .slc a6 n6 c6 z6), (7, .ptr (some (h4.nxt, 0))), (42, .int .i64 (c : Nat))]) 256
        ⟨0, List.replicate 256 0, _, by omega, by omega, by simp, by simp [rowAll], g5r.trans (by kernel_rfl), gb, Nat.le_refl _, (eh.trans ea).trans e45, D5, L6.ext e45, (L.ext ea).ext e45, fun b e => ⟨by have := slt b e; omega, by have := slt b e; omega, fun e2 => hsep b e2 e⟩, rfl, by simp [Has]⟩ ?_
      rintro m st h6 ⟨c, A, sv, hc, rfl, hA, hAt, g6r, g6e, n6', eh6, D6, L6', Lw6, hsv, hk⟩
      obtain ⟨ra, hra1, hra2⟩ := rowAll_pre G s S c
      rw [hk.eq]
      obtain ⟨k0, k2, k3, k4, k5, k6, k7, k42, -⟩ := hk.2
      simp only [slotsFrom, Nat.reduceAdd] at k0 k2 k3 k4 k5 k6 k7 k42 ⊢
      simp only [k0, k2, k3, k4, k5, k6, k7, k42]
      simp (disch := omega) only [go_sem, seval]
      by_cases hlc : (c : Int) < 256
      · have hcE : c < E.length := by omega
        have hgi : (E.map AV.bool)[c * 1]? = some (.bool E[c]) := by rw [Nat.mul_one, List.getElem?_map, List.getElem?_eq_getElem hcE]; rfl
        have hroom : c * 1 + 1 ≤ (rcs A 0).length := by rw [rcs_len]; omega
        have hset : ∀ y : Int, (rcs A 0).set (c * 1) (.int .i64 y) = rcs (A.set c y) 0 := fun y => by
          rw [Nat.mul_one, rcs_set (by omega)]
        have htake : ∀ y : Int, (A.set c y).take (c + 1) = A.take c ++ [y] := fun y => by
          rw [List.take_add_one, List.take_set_of_le (Nat.le_refl _), List.getElem?_set_self (by omega)]; rfl
        have hed2 : has E c ↔ E[c] = true := by unfold has; rw [List.getElem?_eq_getElem hcE]; simp
        simp (disch := omega) only [go_sem, seval, hlc, g6e, Int.toNat_natCast, hgi]
        cases hv : E[c] with
        | true =>
          simp (disch := omega) only [go_sem, seval, wrap_n]
          refine callV_ofU F_62 rfl ((goes_uf D6 L6' hsG (by omega) (by rw [hra1, List.length_append]; omega) (UInt8.ofNat c)).mono ?_)
          rintro v7 h7 ⟨rfl, sv', D7, u7, b7⟩
          simp (disch := omega) only [go_sem, seval]
          have hD : ∀ b, DbB (h.nxt + 1) h.nxt sv b → b ≠ hh.nxt ∧ b ≠ h4.nxt ∧ (AV.slc wa wn wc wz).blk ≠ some b ∧ h.nxt ≤ b := fun b hb => by
            rcases hb with rfl | rfl | hb
            · exact ⟨by omega, by omega, fun e => by have := Lw6.blk e; omega, by omega⟩
            · exact ⟨by omega, by omega, fun e => by have := Lw6.blk e; omega, by omega⟩
            · have := hsv b hb; exact ⟨this.1, this.2.1, this.2.2, by have := D6.s.blk hb; omega⟩
          have n7 := u7.nxt
          have g7r : h7.get hh.nxt = _ := (u7.get _ (by omega) fun e => (hD _ e).1 rfl).trans g6r
          have g7e : h7.get h4.nxt = _ := (u7.get _ (by omega) fun e => (hD _ e).2.1 rfl).trans g6e
          simp (disch := omega) only [go_sem, seval, g7r, Int.toNat_natCast, hroom, hset]
          have u8 : ∀ y, Upd (· = hh.nxt) h7 (h7.put hh.nxt y) := fun y => Upd.put _ rfl fun cs e => by rw [g7r] at e; simp at e
          have hsv' : ∀ b, sv'.blk = some b → b ≠ hh.nxt ∧ b ≠ h4.nxt ∧ (AV.slc wa wn wc wz).blk ≠ some b := fun b e => by
            rcases b7 b e with h8 | h8
            · exact hsv b h8
            · exact ⟨by omega, by omega, fun e2 => by have := wlt b e2; omega⟩
          refine AgainK.mk (256 - (c + 1)) (by simp only; omega) ⟨c + 1, A.set c _, sv', by omega, rfl, by simp [hA], by rw [htake, hAt]; rfl, get_put_self, (get_put_ne (by omega)).trans g7e, by simp; omega, ?_, ?_, (L6'.pst u7.pst).pst (u8 _).pst, ?_, hsv', rfl, by simp [Has]⟩
          · exact (((eh6.upd (h.nxt ≤ ·)).trans' u7 fun b e _ => (hD b e).2.2.2).trans' (u8 _) fun b e _ => by have := eh.nxt; omega).ext fun b hb => by omega
          · exact D7.upd (u8 _) fun b hb e => by
              rcases hb with rfl | rfl | hb
              · omega
              · omega
              · exact (hsv' b hb).1 e
          · exact (Lw6.upd u7 fun b _ e e2 => (hD b e2).2.2.1 e).upd (u8 _) fun b _ e e2 => by have := wlt b e; omega
        | false =>
          obtain ⟨d, rfl⟩ : ∃ d, c = d + 1 := ⟨c - 1, by
            have : c ≠ 0 := fun e => by
              subst e
              have := hed2.1 ((hed 0 (by omega)).2 (.inl rfl))
              rw [hv] at this; simp at this
            omega⟩
          have hne : ¬ edge G s (d + 1) := fun e => by
            have := hed2.1 ((hed (d + 1) (by omega)).2 e)
            rw [hv] at this; simp at this
          have hsame := rowAll_same (S := S) (by omega) hne
          have hd1 : ((d + 1 : Nat) : Int) - 1 = (d : Nat) := by omega
          have hd2 : (d : Int) < 256 := by omega
          have hAd : (rcs A 0)[d * 1]? = some (.int .i64 (rowN (rowAll G s d S).1 (goes G s (UInt8.ofNat d))).2) := by
            have h1 : (A.take (d + 1))[d]? = A[d]? := by rw [List.getElem?_take_of_lt (by omega)]
            have h2 : ((rowAll G s (d + 1) S).2)[d]? = some (rowN (rowAll G s d S).1 (goes G s (UInt8.ofNat d))).2 := by
              have := rowAll_len G s S d
              rw [rowAll]
              simp only
              rw [List.getElem?_append_right (by omega), this]; simp
            rw [Nat.mul_one, rcs_get (by omega), ← h1, hAt, h2]; rfl
          simp (disch := omega) only [go_sem, seval, hd1, hd2, g6r, Int.toNat_natCast, hAd, hlc, hroom, hset]
          have u8 : ∀ y, Upd (· = hh.nxt) h6 (h6.put hh.nxt y) := fun y => Upd.put _ rfl fun cs e => by rw [g6r] at e; simp at e
          refine AgainK.mk (256 - (d + 1 + 1)) (by simp only; omega) ⟨d + 1 + 1, A.set (d + 1) _, sv, by omega, rfl, by simp [hA], ?_, get_put_self, (get_put_ne (by omega)).trans g6e, by simp; omega, ?_, ?_, L6'.pst (u8 _).pst, ?_, hsv, rfl, by simp [Has]⟩
          · rw [htake, hAt]
            conv => rhs; rw [rowAll]
            rw [hsame]
          · exact ((eh6.upd (h.nxt ≤ ·)).trans' (u8 _) fun b e _ => by have := eh.nxt; omega).ext fun b hb => by omega
          · have : (rowAll G s (d + 1 + 1) S).1 = (rowAll G s (d + 1) S).1 := by
              conv => lhs; rw [rowAll]
              rw [hsame]
            rw [this]
            exact D6.upd (u8 _) fun b hb e => by
              rcases hb with rfl | rfl | hb
              · omega
              · omega
              · exact (hsv b hb).1 e
          · exact Lw6.upd (u8 _) fun b _ e e2 => by have := wlt b e; omega
      · simp (disch := omega) only [go_sem, seval, hlc]
        have hc256 : c = 256 := by omega
        subst hc256
        have hAr : A = (rowAll G s 256 S).2 := by rw [← hAt, List.take_of_length_le (by omega)]
        have hof : ofN G (i + 1) = ((rowAll G s 256 S).1, (ofN G i).2 ++ [⟨A, finOf G s⟩]) := by
          rw [ofN, hSS, hs, hAr]
        refine LoopU_while (fun m st h7 => ∃ (j : Nat), j ≤ n6 ∧ m = n6 - j ∧ Upd (· = hh.nxt) h6 h7 ∧ h7.get hh.nxt = some (.cells (rcs A (finOf G (s.take j) : Nat)) true) ∧
            Keep st 97 [(0, .slc la ln lc lz), (2, .slc wa wn wc wz), (3, .ptr (some (h.nxt + 1, 0))), (4, .int .i64 (i : Nat)), (5, .ptr (some (hh.nxt, 0))), (65, .slc a6 n6 c6 z6), (66, .int .i64 (n6 : Nat)), (67, .int .i64 (j : Nat))]) n6
          ⟨0, by omega, by omega, Upd.refl _ _, by simpa [finOf] using g6r, rfl, by simp [Has]⟩ ?_
        rintro m st h7 ⟨j, hj, rfl, u7, g7r, hk⟩
        rw [hk.eq]
        obtain ⟨k0, k2, k3, k4, k5, k65, k66, k67, -⟩ := hk.2
        simp only [slotsFrom, Nat.reduceAdd] at k0 k2 k3 k4 k5 k65 k66 k67 ⊢
        simp only [k0, k2, k3, k4, k5, k65, k66, k67]
        have L67 := L6'.pst u7.pst
        have n7 := u7.nxt
        have D7 := D6.upd u7 fun b hb e => by
          rcases hb with rfl | rfl | hb
          · omega
          · omega
          · exact (hsv b hb).1 e
        simp (disch := omega) only [go_sem, seval]
        by_cases hlj : (j : Int) < (n6 : Int)
        · have hjl : j < s.length := by omega
          obtain ⟨b3, o3, cs3, l3, rfl, rfl, hb3, hg3, rfl, hr3, ht3, hc3⟩ := L67.at_ (i := j) (x := s[j]) (List.getElem?_eq_getElem hjl) (k := 1) rfl
          have c30 := hc3 0 (by decide)
          simp only [Nat.add_zero, List.getElem?_cons_zero] at c30
          have hqG : s[j] < G.length := hsG _ (List.getElem_mem hjl)
          have hqi : (s[j] : Int) < (ln : Int) := by omega
          obtain ⟨gb2, go, gcs, gl, rfl, rfl, hgb, hgg, ⟨fv, rfl, sf⟩, hgr, hgt', hgc⟩ := D7.l.at_ (i := s[j]) (x := G[s[j]]) (List.getElem?_eq_getElem hqG) (k := 5) rfl
          have cf : gcs[go + s[j] * 5 + 4]? = some (.int .i64 (G[s[j]].fin : Nat)) := hgc 4 (by decide)
          have hG : G[s[j]]? = some G[s[j]] := List.getElem?_eq_getElem hqG
          have hnx : finOf G (s.take (j + 1)) = if 0 < G[s[j]].fin ∧ (finOf G (s.take j) = 0 ∨ G[s[j]].fin < finOf G (s.take j)) then G[s[j]].fin else finOf G (s.take j) := by
            rw [List.take_add_one, List.getElem?_eq_getElem hjl, Option.toList_some, finOf_snoc _ _ _ hG]
          have crf : (rcs A (finOf G (s.take j) : Nat))[256]? = some (.int .i64 (finOf G (s.take j) : Nat)) := rcs_fin hA
          have hroom : 256 + 1 ≤ (rcs A (finOf G (s.take j) : Nat)).length := by rw [rcs_len]; omega
          have u9 : ∀ y, Upd (· = hh.nxt) h7 (h7.put hh.nxt y) := fun y => Upd.put _ rfl fun cs e => by rw [g7r] at e; simp at e
          simp (disch := omega) only [go_sem, seval, hlj, hg3, Int.toNat_natCast, c30, hqi, hgg, cf]
          have crf0 : (rcs A 0)[256]? = some (.int .i64 0) := rcs_fin hA
          have hsf : ∀ e y : Int, (rcs A e).set 256 (.int .i64 y) = rcs A y := fun e y => rcs_setfin hA
          have hl0 : 256 + 1 ≤ (rcs A 0).length := by rw [rcs_len]; omega
          by_cases p1 : ((G[s[j]].fin : Nat) : Int) > 0
          · by_cases p2 : ((finOf G (s.take j) : Nat) : Int) = 0
            · simp (disch := omega) only [go_sem, seval, p1, g7r, crf, crf0, p2, hsf, hl0]
              refine AgainK.mk (n6 - (j + 1)) (by simp only; omega) ⟨j + 1, by omega, rfl, u7.trans (u9 _), ?_, rfl, by simp [Has]⟩
              rw [hnx, if_pos ⟨by omega, .inl (by omega)⟩]; exact get_put_self
            · by_cases p3 : ((G[s[j]].fin : Nat) : Int) < (finOf G (s.take j) : Nat)
              · simp (disch := omega) only [go_sem, seval, p1, g7r, crf, p2, p3, hsf]
                refine AgainK.mk (n6 - (j + 1)) (by simp only; omega) ⟨j + 1, by omega, rfl, u7.trans (u9 _), ?_, rfl, by simp [Has]⟩
                rw [hnx, if_pos ⟨by omega, .inr (by omega)⟩]; exact get_put_self
              · simp (disch := omega) only [go_sem, seval, p1, g7r, crf, p2, p3]
                refine AgainK.mk (n6 - (j + 1)) (by simp only; omega) ⟨j + 1, by omega, rfl, u7, ?_, rfl, by simp [Has]⟩
                rw [hnx, if_neg (by omega)]; exact g7r
          · simp (disch := omega) only [go_sem, seval, p1]
            refine AgainK.mk (n6 - (j + 1)) (by simp only; omega) ⟨j + 1, by omega, rfl, u7, ?_, rfl, by simp [Has]⟩
            rw [hnx, if_neg (by omega)]; exact g7r
        · have hjn : j = s.length := by omega
          subst hjn
          rw [List.take_length] at g7r
          have hl257 : (rcs A (finOf G s : Nat)).length = 257 := by rw [rcs_len, hA]
          have hle : 257 ≤ (rcs A (finOf G s : Nat)).length := by omega
          have htk : (rcs A (finOf G s : Nat)).take 257 = rcs A (finOf G s : Nat) := List.take_of_length_le (by omega)
          have hbs := lit_row (h := h7) hl257
          simp (disch := omega) only [go_sem, seval, hlj, g7r, hle, htk, hl257, ↓hbs]
          have Lw7 : LGrow (h.nxt + 2) h7 (.slc wa wn wc wz) (ofN G i).2 := Lw6.upd u7 fun b _ e e2 => by have := wlt b e; omega
          have hRl := ofN_len G i (by rw [hSS]; omega)
          refine gappend (m := h.nxt + 2) (xs := (ofN G i).2) (ys := [(⟨A, finOf G s⟩ : Row)]) T_50 rfl T_56 rfl (by decide) (by decide) (Lw7.ext (Ext.add _ _)) (LSlc.lit (wr := true) (b := h7.nxt) (ls := [rcs A (finOf G s : Nat)]) (by simp) get_add_self (by simp) (Reps.one (x := (⟨A, finOf G s⟩ : Row)) ⟨rfl, hA⟩) rfl rfl) (by have := eh.nxt; simp; omega) (by simp [roomA]; omega) ?_
          intro v8 h8 L8 u8 b8
          have ua : Upd (fun b => (AV.slc wa wn wc wz).blk = some b) h7 h8 := ((Ext.add h7 _).upd _).trans u8
          have hsv7 := fun b e => D7.s.lt (b := b) e
          simp (disch := omega) only [go_sem, seval]
          refine AgainK.mk (301 - (i + 1)) (by simp only; omega) ⟨i + 1, sv, v8, rfl, by omega, by rw [hof]; simp only; rw [hra1, List.length_append]; omega, ?_, ?_, ?_, fun b e => ?_, rfl, by simp [Has]⟩
          · exact (((eh6.upd (h.nxt ≤ ·)).trans' u7 fun b e _ => by have := eh.nxt; omega).trans' ua fun b e _ => by have := Lw7.blk e; omega).ext fun b hb => by omega
          · rw [hof]
            exact D7.upd ua fun b hb e => by
              rcases hb with rfl | rfl | hb
              · have := Lw7.blk e; omega
              · have := Lw7.blk e; omega
              · exact (hsv b hb).2.2 e
          · rw [hof]; exact L8
          · intro e2
            rcases b8 b e with h9 | h9
            · exact (hsv b e2).2.2 h9
            · have := hsv7 b e2; simp at h9; omega
  · simp (disch := omega) only [go_sem, seval, hlt]
    obtain ⟨h9, l9, n9, L9, u9⟩ := L.frz
    refine hQ _ _ h9 l9 ⟨((eh.upd (h.nxt ≤ ·)).trans (u9.weak fun b _ e => by have := e.1; omega)).ext fun b hb => by omega, .inl ⟨i, hi, by omega, L9⟩⟩

end Go.Proofs.Ytenpjkinpecnfaa
