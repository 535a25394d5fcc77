/-
  Layer dfa: where a set goes, and at which bytes something begins.
-/
import Derived.Test.YtenpjkinpecnfaaDfaB
import Derived.KernelRfl
namespace Go.Proofs.Ytenpjkinpecnfaa
open Go Go.Am
set_option maxRecDepth 100000
set_option maxHeartbeats 4000000
set_option linter.unusedSimpArgs false
set_option linter.unusedVariables false

/-- Where the states of a set go with a byte. -/
def tos (G : List St) (s : List Nat) (c : UInt8) : List Int := s.flatMap fun q => match G[q]? with
  | some x => if x.lo ≤ c ∧ c ≤ x.hi then [x.next] else []
  | none => []
theorem tos_app (G : List St) (s t : List Nat) (c : UInt8) : tos G (s ++ t) c = tos G s c ++ tos G t c := by simp [tos]
theorem tos_len (G : List St) (c : UInt8) : ∀ s : List Nat, (tos G s c).length ≤ s.length
  | [] => by simp [tos]
  | q :: s => by
    have h1 := tos_len G c s
    have h2 : tos G (q :: s) c = (match G[q]? with
      | some x => if x.lo ≤ c ∧ c ≤ x.hi then [x.next] else []
      | none => []) ++ tos G s c := rfl
    have h3 : (match G[q]? with
      | some x => if x.lo ≤ c ∧ c ≤ x.hi then [x.next] else []
      | none => []).length ≤ 1 := by
      split
      · split <;> simp
      · simp
    rw [h2, List.length_append, List.length_cons]
    omega
theorem mem_tos {G : List St} {s : List Nat} {c : UInt8} {a : Int} : a ∈ tos G s c ↔ ∃ q x, q ∈ s ∧ G[q]? = some x ∧ (x.lo ≤ c ∧ c ≤ x.hi) ∧ a = x.next := by
  unfold tos
  rw [List.mem_flatMap]
  constructor
  · rintro ⟨q, hq, h⟩
    split at h
    · rename_i x hx
      split at h
      · rename_i hc
        exact ⟨q, x, hq, hx, hc, by simpa using h⟩
      · cases h
    · cases h
  · rintro ⟨q, x, hq, hx, hc, rfl⟩
    refine ⟨q, hq, ?_⟩
    rw [hx]
    simp [hc]
/-- Where a set goes with a byte. -/
noncomputable def goes (G : List St) (s : List Nat) (c : UInt8) : List Nat := clo G (tos G s c)

theorem goes_uf {h : Heap} {k mb : Nat} {lv sv : AV} {G : List St} {S : List (List Nat)} (D : Db h k mb lv sv G S) {v : AV} {s : List Nat} (hv : Lst h v s) (hs : ∀ x ∈ s, x < G.length) (hl : s.length ≤ 90000) (hS : S.length ≤ 100000) (c : UInt8) :
    UF T F 62 [.ptr (some (k, 0)), v, .int .u8 c.toNat] h fun v' h' => v' = .int .i64 (rowN S (goes G s c)).2 ∧ ∃ sv', Db h' k mb lv sv' G (rowN S (goes G s c)).1 ∧ Upd (DbB k mb sv) h h' ∧ (∀ b, sv'.blk = some b → sv.blk = some b ∨ h.nxt ≤ b) := by
  obtain ⟨a, n, cc, z, rfl, hn⟩ := hv.form
  have hgl := wt_len G
  have hsm := D.small
  obtain ⟨la, ln, lc, lz, rfl, hln⟩ := D.l.form
  refine UF.gen fun Q hQ => UF.of (F_62) (c := _) rfl ?_
  unfold Try.f62
  simp only [List.length, Nat.reduceSub, Nat.reduceAdd, List.replicate, List.cons_append, List.nil_append]
  simp (disch := omega) only [go_sem, seval]
  refine LoopU_while (fun m st hh => ∃ (i : Nat) (w : AV), i ≤ n ∧ m = n - i ∧ Ext h hh ∧ LGrow h.nxt hh w (tos G (s.take i) c) ∧
      Keep st 45 [(0, .ptr (some (k, 0))), (2, .int .u8 c.toNat), (7, w), (11, .slc a n cc z), (12, .int .i64 (n : Nat)), (13, .int .i64 (i : Nat))]) n
    ⟨0, _, by omega, by omega, Ext.refl _, by simpa [tos] using LGrow.nil, rfl, by simp [Has]⟩ ?_
  rintro m st hh ⟨i, w, hi, rfl, eh, L, hk⟩
  obtain ⟨wa, wn, wc, wz, rfl, hwn⟩ := L.form
  rw [hk.eq]
  obtain ⟨k0, k2, k7, k11, k12, k13, -⟩ := hk.2
  simp only [slotsFrom, Nat.reduceAdd] at k0 k2 k7 k11 k12 k13 ⊢
  simp only [k0, k2, k7, k11, k12, k13]
  have Dh := D.ext eh
  simp (disch := omega) only [go_sem, seval]
  by_cases hlt : (i : Int) < (n : Int)
  · have hil : i < s.length := by omega
    obtain ⟨b1, o1, cs1, l1, rfl, rfl, hb1, hg1, rfl, hr1, ht1, hc1⟩ := hv.at_ (i := i) (x := s[i]) (List.getElem?_eq_getElem hil) (k := 1) rfl
    have c10 := hc1 0 (by decide)
    simp only [Nat.add_zero, List.getElem?_cons_zero] at c10
    have g1 : hh.get b1 = _ := (eh.get _ hb1).trans hg1
    have hqG : s[i] < G.length := hs _ (List.getElem_mem hil)
    have hqi : (s[i] : Int) < (ln : Int) := by omega
    obtain ⟨gb, go, gcs, gl, rfl, rfl, hgb, hgg, ⟨fv, rfl, sf⟩, hgr, hgt', hgc⟩ := Dh.l.at_ (i := s[i]) (x := G[s[i]]) (List.getElem?_eq_getElem hqG) (k := 5) rfl
    obtain ⟨fa, fn, fc, fz, rfl, hfn⟩ := sf.form
    simp (disch := omega) only [go_sem, seval, hlt, g1, Int.toNat_natCast, c10, Dh.box, hqi, hgg, hgr, hgt']
    have e3 : Ext hh ((hh.add (.cells [.int .u8 0, .int .u8 0, .int .i64 0, .slc none 0 (some 0) 0, .int .i64 0] true)).put hh.nxt (.cells [.int .u8 G[s[i]].lo.toNat, .int .u8 G[s[i]].hi.toNat, .int .i64 G[s[i]].next, .slc fa fn fc fz, .int .i64 G[s[i]].fin] true)) := (Ext.add _ _).put (Nat.le_refl _)
    have g3 : ((hh.add (.cells [.int .u8 0, .int .u8 0, .int .i64 0, .slc none 0 (some 0) 0, .int .i64 0] true)).put hh.nxt (.cells [.int .u8 G[s[i]].lo.toNat, .int .u8 G[s[i]].hi.toNat, .int .i64 G[s[i]].next, .slc fa fn fc fz, .int .i64 G[s[i]].fin] true)).get hh.nxt = some (.cells [.int .u8 G[s[i]].lo.toNat, .int .u8 G[s[i]].hi.toNat, .int .i64 G[s[i]].next, .slc fa fn fc fz, .int .i64 G[s[i]].fin] true) := get_put_self
    have n3 : hh.nxt < ((hh.add (.cells [.int .u8 0, .int .u8 0, .int .i64 0, .slc none 0 (some 0) 0, .int .i64 0] true)).put hh.nxt (.cells [.int .u8 G[s[i]].lo.toNat, .int .u8 G[s[i]].hi.toNat, .int .i64 G[s[i]].next, .slc fa fn fc fz, .int .i64 G[s[i]].fin] true)).nxt := by simp
    generalize ((hh.add (.cells [.int .u8 0, .int .u8 0, .int .i64 0, .slc none 0 (some 0) 0, .int .i64 0] true)).put hh.nxt (.cells [.int .u8 G[s[i]].lo.toNat, .int .u8 G[s[i]].hi.toNat, .int .i64 G[s[i]].next, .slc fa fn fc fz, .int .i64 G[s[i]].fin] true)) = h3 at e3 g3 n3 ⊢
    have hG : G[s[i]]? = some G[s[i]] := List.getElem?_eq_getElem hqG
    have htk : tos G (s.take (i + 1)) c = tos G (s.take i) c ++ if G[s[i]].lo ≤ c ∧ c ≤ G[s[i]].hi then [G[s[i]].next] else [] := by
      rw [List.take_add_one, List.getElem?_eq_getElem hil, Option.toList_some, tos_app]
      congr 1
      simp only [tos, List.flatMap_cons, List.flatMap_nil, List.append_nil, hG]
    have htl := tos_len G c (s.take i)
    rw [List.length_take, Nat.min_eq_left (by omega)] at htl
    have skip : ¬ (G[s[i]].lo ≤ c ∧ c ≤ G[s[i]].hi) → tos G (s.take (i + 1)) c = tos G (s.take i) c := fun hno => by rw [htk, if_neg hno, List.append_nil]
    by_cases q1 : ((c.toNat : Nat) : Int) ≥ (G[s[i]].lo.toNat : Nat)
    · by_cases q2 : ((c.toNat : Nat) : Int) ≤ (G[s[i]].hi.toNat : Nat)
      · simp (disch := omega) only [go_sem, seval, g3, q1, q2]
        refine gappend (m := h.nxt) (xs := tos G (s.take i) c) (ys := [G[s[i]].next]) T_49 rfl T_3 rfl (by decide) (by decide) ((L.ext e3).ext (Ext.add _ _)) (LSlc.lit (b := h3.nxt) (ls := [[.int .i64 G[s[i]].next]]) (by simp) get_add_self rfl (Reps.one (x := G[s[i]].next) rfl) rfl rfl) (by have := eh.nxt; simp; omega) (by simp [roomA]; omega) ?_
        intro v5 h5 L5 u5 b5
        simp (disch := omega) only [go_sem, seval]
        refine AgainK.mk (n - (i + 1)) (by simp only; omega) ⟨i + 1, v5, by omega, rfl, ((((eh.trans e3).trans (Ext.add _ _)).upd (h.nxt ≤ ·)).trans' u5 fun b h1 h2 => L.blk h1).ext fun b hb => by omega, ?_, rfl, by simp [Has]⟩
        rw [htk, if_pos ⟨UInt8.le_iff_toNat_le.2 (by omega), UInt8.le_iff_toNat_le.2 (by omega)⟩]; exact L5
      · simp (disch := omega) only [go_sem, seval, g3, q1, q2]
        refine AgainK.mk (n - (i + 1)) (by simp only; omega) ⟨i + 1, .slc wa wn wc wz, by omega, rfl, eh.trans e3, ?_, rfl, by simp [Has]⟩
        rw [skip fun h1 => q2 (by have := UInt8.le_iff_toNat_le.1 h1.2; omega)]; exact L.ext e3
    · simp (disch := omega) only [go_sem, seval, g3, q1]
      refine AgainK.mk (n - (i + 1)) (by simp only; omega) ⟨i + 1, .slc wa wn wc wz, by omega, rfl, eh.trans e3, ?_, rfl, by simp [Has]⟩
      rw [skip fun h1 => q1 (by have := UInt8.le_iff_toNat_le.1 h1.1; omega)]; exact L.ext e3
  · simp (disch := omega) only [go_sem, seval, hlt]
    have : i = s.length := by omega
    subst this
    rw [List.take_length] at L
    have htl := tos_len G c s
    refine callV_ofU F_60 rfl ((whole_uf Dh.box Dh.lt.2 Dh.l L.own.slc (by omega) hsm).mono ?_)
    rintro v4 h4 ⟨e4, L4⟩
    simp (disch := omega) only [go_sem, seval]
    have hcl := clo_le (G := G) (A := tos G s c)
    refine callV_ofU F_59 rfl ((row_uf (Dh.ext e4) L4 (fun x hx => (mem_clo.1 hx).elim fun a ha => ha.2.1) (by omega) hS).mono ?_)
    rintro v6 h6 ⟨rfl, sv', D6, u6, b6⟩
    simp (disch := omega) only [go_sem, seval]
    refine hQ _ _ ⟨rfl, sv', D6, ((eh.trans e4).upd _).trans u6, fun b e => ?_⟩
    rcases b6 b e with h7 | h7
    · exact .inl h7
    · exact .inr (by have := eh.nxt; have := e4.nxt; omega)

theorem setCells_self (cs : List AV) : setCells cs 0 cs = cs := by
  refine List.ext_getElem? fun i => ?_
  rw [setCells_get _ _ _ _ (by simp)]
  by_cases h : i < cs.length
  · rw [if_pos (by omega)]; rfl
  · rw [if_neg (by omega)]
/-- The bytes at which something begins, or is over. -/
def edge (G : List St) (s : List Nat) (c : Nat) : Prop := c = 0 ∨ ∃ q x, q ∈ s ∧ G[q]? = some x ∧ (c = x.lo.toNat ∨ c = x.hi.toNat + 1)
theorem edges_uf {h : Heap} {k mb : Nat} {lv sv : AV} {G : List St} {S : List (List Nat)} (D : Db h k mb lv sv G S) {v : AV} {s : List Nat} (hv : Lst h v s) (hs : ∀ x ∈ s, x < G.length) (hl : s.length ≤ 90000) :
    UF T F 61 [.ptr (some (k, 0)), v] h fun v' h' => Ext h h' ∧ ∃ E : List Bool, v' = .agg (E.map AV.bool) ∧ E.length = 256 ∧ ∀ c, c < 256 → (has E c ↔ edge G s c) := by
  obtain ⟨a, n, cc, z, rfl, hn⟩ := hv.form
  have hgl := wt_len G
  have hsm := D.small
  obtain ⟨la, ln, lc, lz, rfl, hln⟩ := D.l.form
  refine UF.gen fun Q hQ => UF.of (F_61) (c := _) rfl ?_
  unfold Try.f61
  simp only [List.length, Nat.reduceSub, Nat.reduceAdd, List.replicate, List.cons_append, List.nil_append]
  simp (disch := omega) only [go_sem, seval]
  refine LoopU_while (fun m st hh => ∃ (i : Nat) (E : List Bool), i ≤ n ∧ m = n - i ∧ E.length = 256 ∧ hh.get h.nxt = some (.cells (E.map AV.bool) true) ∧ Ext h hh ∧ h.nxt < hh.nxt ∧ (∀ c, c < 256 → (has E c ↔ edge G (s.take i) c)) ∧
      Keep st 40 [(0, .ptr (some (k, 0))), (4, .ptr (some (h.nxt, 0))), (9, .slc a n cc z), (10, .int .i64 (n : Nat)), (11, .int .i64 (i : Nat))]) n
    ⟨0, (List.replicate 256 false).set 0 true, by omega, by omega, by simp, get_put_self.trans (by kernel_rfl), (Ext.add _ _).put (Nat.le_refl _), by simp, fun c hc => ?_, rfl, by simp [Has]⟩ ?_
  · unfold has edge
    by_cases h0 : c = 0
    · subst h0
      rw [List.getElem?_set_self (by simp)]
      simp
    · rw [List.getElem?_set_ne (Ne.symm h0), List.getElem?_replicate]
      simp [h0, hc]
  rintro m st hh ⟨i, E, hi, rfl, hE, gE, eh, nE, hed, hk⟩
  rw [hk.eq]
  obtain ⟨k0, k4, k9, k10, k11, -⟩ := hk.2
  simp only [slotsFrom, Nat.reduceAdd] at k0 k4 k9 k10 k11 ⊢
  simp only [k0, k4, k9, k10, k11]
  have Dh := D.ext eh
  simp (disch := omega) only [go_sem, seval]
  by_cases hlt : (i : Int) < (n : Int)
  · have hil : i < s.length := by omega
    obtain ⟨b1, o1, cs1, l1, rfl, rfl, hb1, hg1, rfl, hr1, ht1, hc1⟩ := hv.at_ (i := i) (x := s[i]) (List.getElem?_eq_getElem hil) (k := 1) rfl
    have c10 := hc1 0 (by decide)
    simp only [Nat.add_zero, List.getElem?_cons_zero] at c10
    have g1 : hh.get b1 = _ := (eh.get _ hb1).trans hg1
    have hqG : s[i] < G.length := hs _ (List.getElem_mem hil)
    have hqi : (s[i] : Int) < (ln : Int) := by omega
    obtain ⟨gb, go, gcs, gl, rfl, rfl, hgb, hgg, ⟨fv, rfl, sf⟩, hgr, hgt', hgc⟩ := D.l.at_ (i := s[i]) (x := G[s[i]]) (List.getElem?_eq_getElem hqG) (k := 5) rfl
    have cl : gcs[go + s[i] * 5]? = some (.int .u8 G[s[i]].lo.toNat) := by have := hgc 0 (by decide); simpa using this
    have ch : gcs[go + s[i] * 5 + 1]? = some (.int .u8 G[s[i]].hi.toNat) := hgc 1 (by decide)
    have ggh : hh.get gb = _ := (eh.get _ hgb).trans hgg
    have hlo := G[s[i]].lo.toNat_lt
    have hhi := G[s[i]].hi.toNat_lt
    have hlo2 : ((G[s[i]].lo.toNat : Nat) : Int) < 256 := by omega
    have hroom : G[s[i]].lo.toNat * 1 + 1 ≤ (E.map AV.bool).length := by simp; omega
    have hset : ∀ j, (E.map AV.bool).set (j * 1) (.bool true) = (E.set j true).map AV.bool := fun j => by rw [Nat.mul_one, List.map_set]
    simp (disch := omega) only [go_sem, seval, hlt, g1, Int.toNat_natCast, c10, Dh.box, hqi, ggh, cl, hlo2, gE, hroom, hset]
    have hkn := D.lt
    have e2 : Ext h (hh.put h.nxt (.cells ((E.set G[s[i]].lo.toNat true).map AV.bool) true)) := eh.put (Nat.le_refl _)
    have g2E : (hh.put h.nxt (.cells ((E.set G[s[i]].lo.toNat true).map AV.bool) true)).get h.nxt = _ := get_put_self
    have g2k : (hh.put h.nxt (.cells ((E.set G[s[i]].lo.toNat true).map AV.bool) true)).get k = _ := (get_put_ne (by omega)).trans Dh.box
    have g2g : (hh.put h.nxt (.cells ((E.set G[s[i]].lo.toNat true).map AV.bool) true)).get gb = _ := (get_put_ne (by omega)).trans ggh
    have n2 : h.nxt < (hh.put h.nxt (.cells ((E.set G[s[i]].lo.toNat true).map AV.bool) true)).nxt := by simp; omega
    have hE2 : (E.set G[s[i]].lo.toNat true).length = 256 := by simp [hE]
    generalize (hh.put h.nxt (.cells ((E.set G[s[i]].lo.toNat true).map AV.bool) true)) = h2 at *
    have hG : G[s[i]]? = some G[s[i]] := List.getElem?_eq_getElem hqG
    have hnext : ∀ c, c < 256 → (edge G (s.take (i + 1)) c ↔ edge G (s.take i) c ∨ c = G[s[i]].lo.toNat ∨ c = G[s[i]].hi.toNat + 1) := by
      intro c hc
      unfold edge
      rw [List.take_add_one, List.getElem?_eq_getElem hil, Option.toList_some]
      constructor
      · rintro (h0 | ⟨q, x, hq, hx, h1⟩)
        · exact .inl (.inl h0)
        · rcases List.mem_append.1 hq with hq | hq
          · exact .inl (.inr ⟨q, x, hq, hx, h1⟩)
          · simp only [List.mem_singleton] at hq
            subst hq
            rw [hG] at hx
            simp only [Option.some.injEq] at hx
            subst hx
            exact .inr h1
      · rintro ((h0 | ⟨q, x, hq, hx, h1⟩) | h1)
        · exact .inl h0
        · exact .inr ⟨q, x, List.mem_append_left _ hq, hx, h1⟩
        · exact .inr ⟨s[i], G[s[i]], List.mem_append_right _ (List.mem_singleton.2 rfl), hG, h1⟩
    simp (disch := omega) only [go_sem, seval, g2k, Int.toNat_natCast, hqi, g2g, ch, hlt]
    have eh1 : ((G[s[i]].hi.toNat : Int) + 1) = ((G[s[i]].hi.toNat + 1 : Nat) : Int) := by omega
    rw [eh1]
    by_cases h256 : ((G[s[i]].hi.toNat + 1 : Nat) : Int) < 256
    · have hroom2 : (G[s[i]].hi.toNat + 1) * 1 + 1 ≤ ((E.set G[s[i]].lo.toNat true).map AV.bool).length := by simp; omega
      have hset2 : ∀ j, ((E.set G[s[i]].lo.toNat true).map AV.bool).set (j * 1) (.bool true) = ((E.set G[s[i]].lo.toNat true).set j true).map AV.bool := fun j => by rw [Nat.mul_one]; exact List.map_set.symm
      simp (disch := omega) only [go_sem, seval, h256, g2E, Int.toNat_natCast, hroom2, hset2]
      refine AgainK.mk (n - (i + 1)) (by simp only; omega) ⟨i + 1, _, by omega, rfl, ?_, get_put_self, e2.put (Nat.le_refl _), by simp; omega, fun c hc => ?_, rfl, by simp [Has]⟩
      · simp [hE]
      · rw [hnext c hc, has_set (by omega), has_set (by omega), hed c hc]
        exact or_assoc
    · simp (disch := omega) only [go_sem, seval, h256]
      refine AgainK.mk (n - (i + 1)) (by simp only; omega) ⟨i + 1, E.set G[s[i]].lo.toNat true, by omega, rfl, hE2, g2E, e2, n2, fun c hc => ?_, rfl, by simp [Has]⟩
      rw [hnext c hc, has_set (by omega), hed c hc]
      exact or_congr Iff.rfl ⟨.inl, fun h1 => h1.elim id fun h1 => by omega⟩
  · simp (disch := omega) only [go_sem, seval, hlt, gE]
    have : i = s.length := by omega
    subst this
    rw [List.take_length] at hed
    have hEl : (E.map AV.bool).length = 256 := by simp [hE]
    have htk : (E.map AV.bool).take 256 = E.map AV.bool := List.take_of_length_le (by omega)
    have h256 : 256 ≤ (E.map AV.bool).length := by omega
    have hleaf : (E.map AV.bool).all AV.leaf = true := by simp [List.all_map, AV.leaf]
    have hself : setCells (E.map AV.bool) 0 (E.map AV.bool) = E.map AV.bool := setCells_self _
    simp (disch := omega) only [go_sem, seval, h256, htk, gE, hleaf, hself]
    refine hQ _ _ ⟨eh.put (Nat.le_refl _), E, ?_, hE, hed⟩
    simp (disch := omega) only [go_sem, seval]
    done

end Go.Proofs.Ytenpjkinpecnfaa
