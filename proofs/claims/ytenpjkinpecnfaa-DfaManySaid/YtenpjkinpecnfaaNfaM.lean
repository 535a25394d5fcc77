/-
  Layer nfa: the longest front, by states.
-/
import Derived.Test.YtenpjkinpecnfaaNfaS
import Derived.KernelRfl
namespace Go.Proofs.Ytenpjkinpecnfaa
open Go Go.Am
set_option maxRecDepth 100000
set_option maxHeartbeats 4000000
set_option linter.unusedSimpArgs false
set_option linter.unusedVariables false

/-- The least kind that a text's front comes to; 0: none. -/
def EndL (G : List St) (w : List UInt8) (e : Nat) : Prop := (e = 0 ∧ ∀ q x, Live G w q → G[q]? = some x → x.fin = 0) ∨ (0 < e ∧ (∃ q x, Live G w q ∧ G[q]? = some x ∧ x.fin = e) ∧ ∀ q x, Live G w q → G[q]? = some x → 0 < x.fin → e ≤ x.fin)
/-- The longest of the fronts of so many bytes. -/
def Best (G : List St) (s : List UInt8) (i k n : Nat) (ok : Bool) : Prop := (ok = false ∧ k = 0 ∧ n = 0 ∧ ∀ j, 0 < j → j ≤ i → EndL G (s.take j) 0) ∨ (ok = true ∧ 0 < n ∧ n ≤ i ∧ EndL G (s.take n) (k + 1) ∧ ∀ j, n < j → j ≤ i → EndL G (s.take j) 0)

theorem live_front {G : List St} {u : List UInt8} : ∀ (n : Nat) (v : List UInt8) {q : Nat}, v.length = n → Live G (u ++ v) q → ∃ p, Live G u p
  | 0, v, q, hv, h => by
    have := List.eq_nil_of_length_eq_zero hv
    subst this
    rw [List.append_nil] at h
    exact ⟨q, h⟩
  | n + 1, v, q, hv, h => by
    have hne : v ≠ [] := by intro e; subst e; simp at hv
    rw [← List.dropLast_concat_getLast hne, ← List.append_assoc] at h
    obtain ⟨p, x, h1, _⟩ := live_next.1 h
    exact live_front n v.dropLast (by simp [hv]) h1
theorem zero_bools (n : Nat) : zeroRow [.bool false] n = (List.replicate n false).map AV.bool := by
  refine List.ext_getElem (by simp [zeroRow]) fun i h1 h2 => ?_
  simp [zeroRow, Nat.mod_one]
/-- A new set. -/
theorem mk_bits {K : KH} {h : Heap} {n : Nat} {t : Nat} {zr : List AV} (ht : T t = some ⟨.slc 4, 1, 24, zr, false⟩) (hn : n ≤ 1000000) (k : K.k (.slc (some (h.nxt, 0)) n (some n) 1) (h.add (.cells ((List.replicate n false).map AV.bool) true))) : @OBk (makeSliceA T t (.int .i64 n) (.int .i64 n) h) K := by
  have e : makeSliceA T t (.int .i64 n) (.int .i64 n) h = some (.slc (some (h.nxt, 0)) n (some n) 1, h.add (.cells ((List.replicate n false).map AV.bool) true)) := by
    simp only [makeSliceA, ht, T_4]
    rw [if_pos (by omega), Int.toNat_natCast, Nat.mul_one, zero_bools]
  exact OBk_of e k
theorem bits_new {h : Heap} {n : Nat} : Bits (h.add (.cells ((List.replicate n false).map AV.bool) true)) h.nxt (.slc (some (h.nxt, 0)) n (some n) 1) (List.replicate n false) := ⟨by simp, by simp, get_add_self⟩
theorem has_new {n i : Nat} : ¬ has (List.replicate n false) i := by unfold has; rw [List.getElem?_replicate]; split <;> simp

theorem nLongest_uf {h : Heap} {G : List St} {l : AV} {s : List UInt8} (sl : Lst h l G) (hp : 0 < G.length) (hw : wt G ≤ 1000000) (hs : s.length ≤ 100000) (hf : ∀ x ∈ G, x.fin ≤ 1000000) :
    UF T F 31 [l, .str s] h fun v' h' => Ext h h' ∧ ∃ k n ok, v' = .tup [.int .i64 (k : Nat), .int .i64 (n : Nat), .bool ok] ∧ Best G s s.length k n ok := by
  obtain ⟨la, ln, lc, lz, rfl, hln⟩ := sl.form
  have hgl := wt_len G
  refine UF.gen fun Q hQ => UF.of (F_31) (c := _) rfl ?_
  unfold Try.f31
  simp only [List.length, Nat.reduceSub, Nat.reduceAdd, List.replicate, List.cons_append, List.nil_append]
  simp (disch := first | ((try simp only [heapN]) <;> omega) | fail) only [go_sem, seval]
  refine mk_bits T_119 (by omega) ?_
  have e1 : Ext h (h.add (.cells ((List.replicate ln false).map AV.bool) true)) := Ext.add _ _
  simp (disch := first | ((try simp only [heapN]) <;> omega) | fail) only [go_sem, seval]
  refine callV_ofU F_55 rfl ((add_uf (sl.ext e1) (bits_new (n := ln)) (by simp; omega) hw (fun i x j h1 => absurd h1 has_new)).mono ?_)
  rintro v2 h2 ⟨u2, bs0, B0, hl0, hs0, hb0⟩
  simp (disch := first | ((try simp only [heapN]) <;> omega) | fail) only [go_sem, seval]
  have e2 : Ext h h2 := ((e1.upd (h.nxt ≤ ·)).trans (u2.weak fun b _ e => by omega)).ext fun b hb => by omega
  have B0' : Bits h2 h.nxt (.slc (some (h.nxt, 0)) ln (some ln) 1) bs0 := B0
  have hlive0 : ∀ q, has bs0 q ↔ Live G (s.take 0) q := fun q => by
    rw [hb0, List.take_zero]
    constructor
    · rintro (h1 | ⟨h1, k, n, h2, W⟩)
      · exact absurd h1 has_new
      · have : k = 0 := by omega
        subst this; exact ⟨h1, n, W⟩
    · rintro ⟨h1, n, W⟩; exact .inr ⟨h1, 0, n, rfl, W⟩
  refine LoopU_while (fun m st hh => ∃ (i sb : Nat) (bs : List Bool) (k n : Nat) (ok : Bool), i ≤ s.length ∧ m = s.length - i ∧ h.nxt ≤ sb ∧ Bits hh sb (.slc (some (sb, 0)) ln (some ln) 1) bs ∧ bs.length = G.length ∧ (∀ q, has bs q ↔ Live G (s.take i) q) ∧ Best G s i k n ok ∧ Ext h hh ∧
      Keep st 79 [(0, .slc la ln lc lz), (1, .str s), (4, .int .i64 (k : Nat)), (5, .int .i64 (n : Nat)), (6, .bool ok), (7, .slc (some (sb, 0)) ln (some ln) 1), (21, .int .i64 (s.length : Nat)), (22, .int .i64 (i : Nat))]) s.length
    ⟨0, h.nxt, bs0, 0, 0, false, by omega, by omega, Nat.le_refl _, B0', hl0, hlive0, .inl ⟨rfl, rfl, rfl, fun j h1 h2 => by omega⟩, e2, rfl, by simp [Has]⟩ ?_
  rintro m st hh ⟨i, sb, bs, k, n, ok, hi, rfl, hsb, B, hbl, hlive, hbest, eh, hk⟩
  rw [hk.eq]
  obtain ⟨k0, k1, k4, k5, k6, k7, k21, k22, -⟩ := hk.2
  simp only [slotsFrom, Nat.reduceAdd] at k0 k1 k4 k5 k6 k7 k21 k22 ⊢
  simp only [k0, k1, k4, k5, k6, k7, k21, k22]
  have slj := sl.ext eh
  simp (disch := first | ((try simp only [heapN]) <;> omega) | fail) only [go_sem, seval]
  by_cases hlt : (i : Int) < (s.length : Int)
  · simp (disch := first | ((try simp only [heapN]) <;> omega) | fail) only [go_sem, seval, hlt]
    refine mk_bits T_119 (by omega) ?_
    simp (disch := first | ((try simp only [heapN]) <;> omega) | fail) only [go_sem, seval]
    have hil : i < s.length := by omega
    have en : Ext hh (hh.add (.cells ((List.replicate ln false).map AV.bool) true)) := Ext.add _ _
    have hnb : sb ≠ hh.nxt := by have := B.2.1; omega
    have hnh := eh.nxt
    generalize hb9 : hh.nxt = nb at *
    have Bn : Bits (hh.add (.cells ((List.replicate ln false).map AV.bool) true)) nb (.slc (some (nb, 0)) ln (some ln) 1) (List.replicate ln false) := by rw [← hb9]; exact bits_new
    refine LoopU_while (fun m st h2 => ∃ (j : Nat) (bs2 : List Bool), j ≤ G.length ∧ m = G.length - j ∧ Bits h2 nb (.slc (some (nb, 0)) ln (some ln) 1) bs2 ∧ bs2.length = G.length ∧ Shut G bs2 [] ∧ (∀ q, has bs2 q ↔ ∃ p x, p < j ∧ has bs p ∧ G[p]? = some x ∧ (x.lo ≤ s[i] ∧ s[i] ≤ x.hi) ∧ Eps G x.next q) ∧ Ext hh h2 ∧
        Keep st 79 [(0, .slc la ln lc lz), (1, .str s), (4, .int .i64 (k : Nat)), (5, .int .i64 (n : Nat)), (6, .bool ok), (7, .slc (some (sb, 0)) ln (some ln) 1), (8, .int .i64 (i : Nat)), (9, .slc (some (nb, 0)) ln (some ln) 1), (21, .int .i64 (s.length : Nat)), (22, .int .i64 (i : Nat)), (28, .slc (some (sb, 0)) ln (some ln) 1), (29, .int .i64 (ln : Nat)), (30, .int .i64 (j : Nat))]) G.length
      ⟨0, List.replicate ln false, by omega, by omega, Bn, by simp; omega, fun i x j h1 => absurd h1 has_new, fun q => ⟨fun h1 => absurd h1 has_new, fun ⟨p, x, h1, _⟩ => by omega⟩, en, rfl, by simp [Has]⟩ ?_
    rintro m st h2' ⟨j, bs2, hj, rfl, B2, hbl2, hsh2, hlive2, eh2, hk⟩
    rw [hk.eq]
    obtain ⟨k0, k1, k4, k5, k6, k7, k8, k9, k21, k22, k28, k29, k30, -⟩ := hk.2
    simp only [slotsFrom, Nat.reduceAdd] at k0 k1 k4 k5 k6 k7 k8 k9 k21 k22 k28 k29 k30 ⊢
    simp only [k0, k1, k4, k5, k6, k7, k8, k9, k21, k22, k28, k29, k30]
    have sl2 := slj.ext eh2
    have Bs2 : Bits h2' sb (.slc (some (sb, 0)) ln (some ln) 1) bs := B.upd (eh2.upd fun _ => False) fun f => f
    simp (disch := first | ((try simp only [heapN]) <;> omega) | fail) only [go_sem, seval]
    by_cases hjlt : (j : Int) < (ln : Int)
    · have hjl : j < G.length := by omega
      have hjb : j < bs.length := by omega
      have g := Bs2.2.2
      have hgi : (bs.map AV.bool)[j * 1]? = some (.bool bs[j]) := by rw [Nat.mul_one, List.getElem?_map, List.getElem?_eq_getElem hjb]; rfl
      obtain ⟨gb, go, gcs, gl, rfl, rfl, hgb, hgg, ⟨fv, rfl, sf⟩, hgr, hgt', hgc⟩ := sl2.at_ (i := j) (x := G[j]) (List.getElem?_eq_getElem hjl) (k := 5) rfl
      obtain ⟨fa, fn, fc, fz, rfl, hfn⟩ := sf.form
      simp (disch := first | ((try simp only [heapN]) <;> omega) | fail) only [go_sem, seval, hjlt, g, Int.toNat_natCast, hgi, hgg, hgr, hgt']
      have e3 : Ext h2' ((h2'.add (.cells [.int .u8 0, .int .u8 0, .int .i64 0, .slc none 0 (some 0) 0, .int .i64 0] true)).put h2'.nxt (.cells [.int .u8 G[j].lo.toNat, .int .u8 G[j].hi.toNat, .int .i64 G[j].next, .slc fa fn fc fz, .int .i64 G[j].fin] true)) := (Ext.add _ _).put (Nat.le_refl _)
      have g3 : ((h2'.add (.cells [.int .u8 0, .int .u8 0, .int .i64 0, .slc none 0 (some 0) 0, .int .i64 0] true)).put h2'.nxt (.cells [.int .u8 G[j].lo.toNat, .int .u8 G[j].hi.toNat, .int .i64 G[j].next, .slc fa fn fc fz, .int .i64 G[j].fin] true)).get h2'.nxt = some (.cells [.int .u8 G[j].lo.toNat, .int .u8 G[j].hi.toNat, .int .i64 G[j].next, .slc fa fn fc fz, .int .i64 G[j].fin] true) := get_put_self
      have n3 : h2'.nxt < ((h2'.add (.cells [.int .u8 0, .int .u8 0, .int .i64 0, .slc none 0 (some 0) 0, .int .i64 0] true)).put h2'.nxt (.cells [.int .u8 G[j].lo.toNat, .int .u8 G[j].hi.toNat, .int .i64 G[j].next, .slc fa fn fc fz, .int .i64 G[j].fin] true)).nxt := by simp
      generalize ((h2'.add (.cells [.int .u8 0, .int .u8 0, .int .i64 0, .slc none 0 (some 0) 0, .int .i64 0] true)).put h2'.nxt (.cells [.int .u8 G[j].lo.toNat, .int .u8 G[j].hi.toNat, .int .i64 G[j].next, .slc fa fn fc fz, .int .i64 G[j].fin] true)) = h3 at e3 g3 n3 ⊢
      have hG : G[j]? = some G[j] := List.getElem?_eq_getElem hjl
      have hhas : has bs j ↔ bs[j] = true := by unfold has; rw [List.getElem?_eq_getElem hjb]; simp
      have hsi : s[i]? = some s[i] := List.getElem?_eq_getElem hil
      have hskip : ¬ (has bs j ∧ G[j].lo ≤ s[i] ∧ s[i] ≤ G[j].hi) → ∀ q, has bs2 q ↔ ∃ p x, p < j + 1 ∧ has bs p ∧ G[p]? = some x ∧ (x.lo ≤ s[i] ∧ s[i] ≤ x.hi) ∧ Eps G x.next q := by
        intro hno q
        rw [hlive2]
        constructor
        · rintro ⟨p, x, h1, h2⟩; exact ⟨p, x, by omega, h2⟩
        · rintro ⟨p, x, h1, h2, h3, h4, h5⟩
          by_cases hpj : p = j
          · subst hpj
            rw [hG] at h3; simp only [Option.some.injEq] at h3; subst h3
            exact absurd ⟨h2, h4⟩ hno
          · exact ⟨p, x, by omega, h2, h3, h4, h5⟩
      have eb : Ext hh (h3.bump 17) := (eh2.trans e3).trans (Ext.bump _ _)
      have B3 : Bits (h3.bump 17) nb (.slc (some (nb, 0)) ln (some ln) 1) bs2 := B2.upd ((e3.trans (Ext.bump _ _)).upd fun _ => False) fun f => f
      cases hbv : bs[j] with
      | false =>
        refine DrawU_quiet (by rfl) ?_
        simp (disch := first | ((try simp only [heapN]) <;> omega) | fail) only [go_sem, seval]
        exact AgainK.mk (G.length - (j + 1)) (by simp only; omega) ⟨j + 1, bs2, by omega, rfl, B3, hbl2, hsh2, hskip fun h1 => by rw [hhas, hbv] at h1; simp at h1, eb, rfl, by simp [Has]⟩
      | true =>
        by_cases q1 : ((s[i].toNat : Nat) : Int) ≥ (G[j].lo.toNat : Nat)
        · by_cases q2 : ((s[i].toNat : Nat) : Int) ≤ (G[j].hi.toNat : Nat)
          · skip
            refine DrawU_quiet (by rfl) ?_
            simp (disch := first | ((try simp only [heapN]) <;> omega) | fail) only [go_sem, seval, g3, hlt, Int.toNat_natCast, hsi, q1, q2]
            have sl3 := sl2.ext (e3.trans (Ext.bump _ 17))
            refine callV_ofU F_55 rfl ((add_uf sl3 B3 hbl2 hw hsh2).mono ?_)
            rintro v4 h4 ⟨u4, bs4, B4, hl4, hs4, hb4⟩
            simp (disch := first | ((try simp only [heapN]) <;> omega) | fail) only [go_sem, seval]
            have e4 : Ext hh h4 := ((eb.upd (nb ≤ ·)).trans (u4.weak fun b _ e => by omega)).ext fun b hb => by omega
            refine AgainK.mk (G.length - (j + 1)) (by simp only; omega) ⟨j + 1, bs4, by omega, rfl, B4, hl4, hs4, fun q => ?_, e4, rfl, by simp [Has]⟩
            rw [hb4, hlive2]
            constructor
            · rintro (⟨p, x, h1, h2⟩ | h1)
              · exact ⟨p, x, by omega, h2⟩
              · exact ⟨j, G[j], by omega, hhas.2 hbv, hG, ⟨UInt8.le_iff_toNat_le.2 (by omega), UInt8.le_iff_toNat_le.2 (by omega)⟩, h1⟩
            · rintro ⟨p, x, h1, h2, h3, h4, h5⟩
              by_cases hpj : p = j
              · subst hpj
                rw [hG] at h3; simp only [Option.some.injEq] at h3; subst h3
                exact .inr h5
              · exact .inl ⟨p, x, by omega, h2, h3, h4, h5⟩
          · skip
            refine DrawU_quiet (by rfl) ?_
            simp (disch := first | ((try simp only [heapN]) <;> omega) | fail) only [go_sem, seval, g3, hlt, Int.toNat_natCast, hsi, q1, q2]
            exact AgainK.mk (G.length - (j + 1)) (by simp only; omega) ⟨j + 1, bs2, by omega, rfl, B3, hbl2, hsh2, hskip fun h1 => q2 (by have := UInt8.le_iff_toNat_le.1 h1.2.2; omega), eb, rfl, by simp [Has]⟩
        · skip
          refine DrawU_quiet (by rfl) ?_
          simp (disch := first | ((try simp only [heapN]) <;> omega) | fail) only [go_sem, seval, g3, hlt, Int.toNat_natCast, hsi, q1]
          exact AgainK.mk (G.length - (j + 1)) (by simp only; omega) ⟨j + 1, bs2, by omega, rfl, B3, hbl2, hsh2, hskip fun h1 => q1 (by have := UInt8.le_iff_toNat_le.1 h1.2.1; omega), eb, rfl, by simp [Has]⟩
    · have hjn : j = G.length := by omega
      subst hjn
      simp (disch := first | ((try simp only [heapN]) <;> omega) | fail) only [go_sem, seval, hjlt]
      have hnext : ∀ q, has bs2 q ↔ Live G (s.take (i + 1)) q := fun q => by
        rw [List.take_add_one, List.getElem?_eq_getElem hil, Option.toList_some, live_next, hlive2]
        constructor
        · rintro ⟨p, x, h1, h2, h3⟩; exact ⟨p, x, (hlive p).1 h2, h3⟩
        · rintro ⟨p, x, h1, h2, h3⟩; exact ⟨p, x, (List.getElem?_eq_some_iff.1 h2).1, (hlive p).2 h1, h2, h3⟩
      refine callV_ofU F_56 rfl ((contains_uf B2 (by omega)).mono ?_)
      rintro v5 h5 ⟨e5, y, rfl, hy⟩
      simp (disch := first | ((try simp only [heapN]) <;> omega) | fail) only [go_sem, seval]
      cases y with
      | false =>
        have hno : ∀ q, ¬ Live G (s.take (i + 1)) q := fun q h1 => by
          have := hy.2 ⟨q, (hnext q).2 h1⟩
          simp at this
        have hnone : ∀ j, i < j → EndL G (s.take j) 0 := fun j hj' => .inl ⟨rfl, fun q x h1 _ => by
          have e : s.take j = s.take (i + 1) ++ (s.drop (i + 1)).take (j - (i + 1)) := by
            rw [← List.take_add]; congr 1; omega
          rw [e] at h1
          obtain ⟨p, h2⟩ := live_front _ _ rfl h1
          exact absurd h2 (hno p)⟩
        simp (disch := first | ((try simp only [heapN]) <;> omega) | fail) only [go_sem, seval]
        refine hQ _ _ ⟨(eh.trans eh2).trans e5, k, n, ok, rfl, ?_⟩
        rcases hbest with ⟨h1, h2, h3, h4⟩ | ⟨h1, h2, h3, h4, h5⟩
        · exact .inl ⟨h1, h2, h3, fun j h6 h7 => if h8 : j ≤ i then h4 j h6 h8 else hnone j (by omega)⟩
        · exact .inr ⟨h1, h2, by omega, h4, fun j h6 h7 => if h8 : j ≤ i then h5 j h6 h8 else hnone j (by omega)⟩
      | true =>
        simp (disch := first | ((try simp only [heapN]) <;> omega) | fail) only [go_sem, seval]
        have B5 : Bits h5 nb (.slc (some (nb, 0)) ln (some ln) 1) bs2 := B2.upd (e5.upd fun _ => False) fun f => f
        refine callV_ofU F_57 rfl ((end_uf (sl2.ext e5) B5 hbl2 hw).mono ?_)
        rintro v6 h6 ⟨e6, e, rfl, hE⟩
        simp (disch := first | ((try simp only [heapN]) <;> omega) | fail) only [go_sem, seval]
        have hEL : EndL G (s.take (i + 1)) e := by
          rcases hE with ⟨h1, h2⟩ | ⟨h1, ⟨q, x, h2, h3, h4⟩, h5⟩
          · exact .inl ⟨h1, fun q x h3 h4 => h2 q x (List.getElem?_eq_some_iff.1 h4).1 ((hnext q).2 h3) h4⟩
          · exact .inr ⟨h1, ⟨q, x, (hnext q).1 h2, h3, h4⟩, fun q x h3 h4 h6 => h5 q x (List.getElem?_eq_some_iff.1 h4).1 ((hnext q).2 h3) h4 h6⟩
        have eAll : Ext h h6 := ((eh.trans eh2).trans e5).trans e6
        have B6 : Bits h6 nb (.slc (some (nb, 0)) ln (some ln) 1) bs2 := B5.upd (e6.upd fun _ => False) fun f => f
        by_cases he : (e : Int) > 0
        · obtain ⟨e, rfl⟩ : ∃ e', e = e' + 1 := ⟨e - 1, by omega⟩
          have hb : e + 1 ≤ 1000000 := by
            rcases hE with ⟨h1, _⟩ | ⟨_, ⟨q, x, _, h3, h4⟩, _⟩
            · omega
            · have := hf x (List.mem_of_getElem? h3); omega
          have he1 : (((e + 1 : Nat) : Int) - 1) = (e : Nat) := by omega
          simp (disch := first | ((try simp only [heapN]) <;> omega) | fail) only [go_sem, seval, he, he1]
          refine AgainK.mk (s.length - (i + 1)) (by simp only; omega) ⟨i + 1, nb, bs2, e, i + 1, true, by omega, rfl, by omega, B6, hbl2, hnext, .inr ⟨rfl, by omega, by omega, hEL, fun j h1 h2 => by omega⟩, eAll, rfl, by simp [Has]⟩
        · have he0 : e = 0 := by omega
          subst he0
          simp (disch := first | ((try simp only [heapN]) <;> omega) | fail) only [go_sem, seval]
          refine AgainK.mk (s.length - (i + 1)) (by simp only; omega) ⟨i + 1, nb, bs2, k, n, ok, by omega, rfl, by omega, B6, hbl2, hnext, ?_, eAll, rfl, by simp [Has]⟩
          rcases hbest with ⟨h1, h2, h3, h4⟩ | ⟨h1, h2, h3, h4, h5⟩
          · exact .inl ⟨h1, h2, h3, fun j h6 h7 => if h8 : j ≤ i then h4 j h6 h8 else by rw [show j = i + 1 by omega]; exact hEL⟩
          · exact .inr ⟨h1, h2, by omega, h4, fun j h6 h7 => if h8 : j ≤ i then h5 j h6 h8 else by rw [show j = i + 1 by omega]; exact hEL⟩
  · have : i = s.length := by omega
    subst this
    simp (disch := first | ((try simp only [heapN]) <;> omega) | fail) only [go_sem, seval, hlt]
    exact hQ _ _ ⟨eh, k, n, ok, rfl, hbest⟩

end Go.Proofs.Ytenpjkinpecnfaa
