/-
  The document's answer to nfa: where a piece ends, and the longest front.
-/
import Derived.Test.YtenpjkinpecnfaaNfaR
import Derived.Test.YtenpjkinpecnfaaNfaE
import Derived.Test.YtenpjkinpecnfaaNfaT
import Derived.KernelRfl
namespace Go.Proofs.Ytenpjkinpecnfaa
open Go Go.Am
set_option maxRecDepth 100000
set_option maxHeartbeats 4000000
set_option linter.unusedSimpArgs false
set_option linter.unusedVariables false

section
variable {α : Type} [Rep α]
theorem lst_hi {T : TT} {K : KH} {h : Heap} {v : AV} {t e i : Nat} {ti te : TI} {kd : IntKind} {xs : List α} (ht : T t = some ti) (hk : ti.kind = .slc e) (he : T e = some te) (hsz : te.size = Rep.sz α)
    (s : Lst h v xs) (hi : i ≤ xs.length) (k : ∀ v', Lst h v' (xs.take i) → K.k v' h) :
    @OBk (match sliceA T t v none (some (.int kd i)) none with | some r => some (r, h) | none => none) K := by
  obtain ⟨ls, s1, s2⟩ := s
  have hl := s2.length
  obtain ⟨v', e1, e2⟩ := s1.sub (l := 0) (hh := i) (lo := none) (hi := some (.int kd i)) ht hk he hsz (fun n hn _ => by have := sbounds_hi (n := n) (i := (i : Int)) (k := kd) (by omega) (by omega); simpa using this) (by omega) (by omega)
  rw [e1]
  exact k v' ⟨_, by simpa using e2, s2.take i⟩
theorem lst_lo {T : TT} {K : KH} {h : Heap} {v : AV} {t e i : Nat} {ti te : TI} {kd : IntKind} {xs : List α} (ht : T t = some ti) (hk : ti.kind = .slc e) (he : T e = some te) (hsz : te.size = Rep.sz α)
    (s : Lst h v xs) (hi : i ≤ xs.length) (k : ∀ v', Lst h v' (xs.drop i) → K.k v' h) :
    @OBk (match sliceA T t v (some (.int kd i)) none none with | some r => some (r, h) | none => none) K := by
  obtain ⟨ls, s1, s2⟩ := s
  have hl := s2.length
  obtain ⟨v', e1, e2⟩ := s1.sub (l := i) (hh := ls.length) (lo := some (.int kd i)) (hi := none) ht hk he hsz (fun n hn hh => by rw [hh rfl]; have := sbounds_lo (n := ls.length) (i := (i : Int)) (k := kd) (by omega) (by omega); simpa using this) (by omega) (by omega)
  rw [e1]
  exact k v' ⟨_, by simpa using e2, s2.drop i⟩
end

theorem Rx.last (e : Rx) : ∃ pre x, e.items = pre ++ [x] := by
  cases e with
  | cls l => exact ⟨[], _, rfl⟩
  | bin op a b => exact ⟨a.items ++ b.items, ⟨op, []⟩, by simp [Rx.items]⟩
  | rep op a => exact ⟨_, _, rfl⟩

theorem ends_uf : ∀ (N : Nat) (e : Rx), e.items.length ≤ N → e.ok → (∀ x ∈ e.items, x.l.length ≤ 100000) → ∀ {h : Heap} {v bv : AV} {bs : List Bool} {s : List UInt8}, e.items.length ≤ 1000 → s.length ≤ 100000 → Lst h v e.items → Lst h bv bs → bs.length = s.length + 1 →
    UF T F 58 [v, .str s, bv] h fun v' h' => Ext h h' ∧ ∃ R, Lst h' v' R ∧ R.length = s.length + 1 ∧ ∀ j, has R j ↔ EndsP (Lang e) s (has bs) j := by
  intro N
  induction N with
  | zero =>
    intro e hN
    intros
    obtain ⟨pre, x, hx⟩ := e.last
    rw [hx] at hN; simp at hN
  | succ N ih =>
    intro e hN hok hr h v bv bs s hi hs sl sb hbl
    obtain ⟨pre, x, hx⟩ := e.last
    have sl0 := sl
    have hlp : e.items.length = pre.length + 1 := by rw [hx]; simp
    rw [hx] at sl
    obtain ⟨a, n, c, z, rfl, hn⟩ := sl.form
    obtain ⟨ba, bn, bc, bz, rfl, hbn⟩ := sb.form
    have hn2 : n = pre.length + 1 := by rw [hn]; simp
    subst hn2
    refine UF.genq fun Q hQ => UF.of (F_58) (c := _) rfl ?_
    unfold Try.f58
    simp only [List.length, Nat.reduceSub, Nat.reduceAdd, List.replicate, List.cons_append, List.nil_append]
    simp (disch := first | ((try simp only [heapN]) <;> omega) | fail) only [go_sem, seval]
    have ez : ((s.length : Int) + 1) = (s.length + 1 : Nat) := by omega
    rw [ez]
    refine mk_bits T_118 (by omega) ?_
    have e1 : Ext h (h.add (.cells ((List.replicate (s.length + 1) false).map AV.bool) true)) := Ext.add _ _
    have hz : ¬ ((pre.length + 1 : Nat) : Int) = 0 := by omega
    have el : ((pre.length + 1 : Nat) : Int) - 1 = pre.length := by omega
    simp (disch := first | ((try simp only [heapN]) <;> omega) | fail) only [go_sem, seval, hz, el]
    refine lst_hi (i := pre.length) T_28 rfl T_35 rfl (sl.ext e1) (by simp) ?_
    intro v9 s9
    rw [List.take_append_of_le_length (by omega), List.take_length] at s9
    have hlt : (pre.length : Int) < (pre.length + 1 : Nat) := by omega
    obtain ⟨b1, o1, cs1, l1, rfl, rfl, hb1, hg1, ⟨v1, rfl, s1⟩, hr1, ht1, hc1⟩ := sl.at_ (i := pre.length) (x := x) (by simp) (k := 2) rfl
    have c10 := hc1 0 (by decide)
    simp only [Nat.add_zero, List.getElem?_cons_zero] at c10
    have g1 : (h.add (.cells ((List.replicate (s.length + 1) false).map AV.bool) true)).get b1 = _ := (e1.get _ hb1).trans hg1
    simp (disch := first | ((try simp only [heapN]) <;> omega) | fail) only [go_sem, seval, hlt, g1, Int.toNat_natCast, c10]
    have hnxt : h.nxt < (h.add (.cells ((List.replicate (s.length + 1) false).map AV.bool) true)).nxt := by simp
    have B0 : Bits (h.add (.cells ((List.replicate (s.length + 1) false).map AV.bool) true)) h.nxt (.slc (some (h.nxt, 0)) (s.length + 1 : Nat) (some (s.length + 1)) 1) (List.replicate (s.length + 1) false) := bits_new
    generalize hg0 : (h.add (.cells ((List.replicate (s.length + 1) false).map AV.bool) true)) = h1 at *
    cases e with
    | cls l =>
      obtain ⟨rfl, rfl⟩ : pre = [] ∧ x = ⟨1, l⟩ := by
        cases pre with
        | nil => simp only [Rx.items, List.nil_append, List.cons.injEq, and_true] at hx; exact ⟨rfl, hx.symm⟩
        | cons y ys => simp [Rx.items] at hx
      have hll : l.length ≤ 100000 := hr ⟨1, l⟩ (by simp [Rx.items])
      simp (disch := first | ((try simp only [heapN]) <;> omega) | fail) only [go_sem, seval]
      refine LoopU_while (fun m st hh => ∃ (i : Nat) (zs : List Bool), i ≤ s.length ∧ m = s.length - i ∧ Bits hh h.nxt (.slc (some (h.nxt, 0)) (s.length + 1 : Nat) (some (s.length + 1)) 1) zs ∧ zs.length = s.length + 1 ∧ Ext h hh ∧
          (∀ j, has zs j ↔ ∃ i2 c, i2 < i ∧ j = i2 + 1 ∧ has bs i2 ∧ s[i2]? = some c ∧ ∃ r ∈ l, r.lo ≤ c ∧ c ≤ r.hi) ∧
          Keep st 162 [(0, .slc (some (b1, o1)) (([] : List Item).length + 1) c 2), (1, .str s), (2, .slc ba bn bc bz), (7, .slc (some (h.nxt, 0)) (s.length + 1 : Nat) (some (s.length + 1)) 1), (8, .int .i64 (([] : List Item).length : Nat)), (10, .int .i64 (i : Nat))]) s.length
        ⟨0, _, by omega, by omega, B0, by simp, e1, fun j => ⟨fun h1 => absurd h1 has_new, fun ⟨i2, c, h1, _⟩ => by omega⟩, rfl, by simp [Has]⟩ ?_
      rintro m st hh ⟨i, zs, hi, rfl, B, hzl, eh, hz, hk⟩
      rw [hk.eq]
      obtain ⟨k0, k1, k2, k7, k8, k10, -⟩ := hk.2
      simp only [slotsFrom, Nat.reduceAdd] at k0 k1 k2 k7 k8 k10 ⊢
      simp only [k0, k1, k2, k7, k8, k10]
      have g1h : hh.get b1 = _ := (eh.get _ hb1).trans hg1
      obtain ⟨la, ln, lc, lz, rfl, hln⟩ := s1.form
      simp only at hln
      have s1h := s1.ext eh
      have c11 : cs1[o1 + 1]? = some (.slc la ln lc lz) := hc1 1 (by decide)
      simp (disch := first | ((try simp only [heapN]) <;> omega) | fail) only [go_sem, seval]
      by_cases hlti : (i : Int) < (s.length : Int)
      · have hil : i < s.length := by omega
        have hsi : s[i]? = some s[i] := List.getElem?_eq_getElem hil
        have hib : i < bs.length := by omega
        simp (disch := first | ((try simp only [heapN]) <;> omega) | fail) only [go_sem, seval, hlti]
        refine LoopU_while (fun m st hh2 => ∃ (k : Nat) (zs2 : List Bool), k ≤ ln ∧ m = ln - k ∧ Bits hh2 h.nxt (.slc (some (h.nxt, 0)) (s.length + 1 : Nat) (some (s.length + 1)) 1) zs2 ∧ zs2.length = s.length + 1 ∧ Ext h hh2 ∧
            (∀ j, has zs2 j ↔ has zs j ∨ (j = i + 1 ∧ has bs i ∧ ∃ t r, t < k ∧ l[t]? = some r ∧ r.lo ≤ s[i] ∧ s[i] ≤ r.hi)) ∧
            Keep st 162 [(0, .slc (some (b1, o1)) (([] : List Item).length + 1) c 2), (1, .str s), (2, .slc ba bn bc bz), (7, .slc (some (h.nxt, 0)) (s.length + 1 : Nat) (some (s.length + 1)) 1), (8, .int .i64 (([] : List Item).length : Nat)), (10, .int .i64 (i : Nat)), (11, .int .i64 (k : Nat))]) ln
          ⟨0, zs, by omega, by omega, B, hzl, eh, fun j => ⟨.inl, fun h1 => h1.elim id fun ⟨_, _, t, r, h2, _⟩ => by omega⟩, rfl, by simp [Has]⟩ ?_
        rintro m st hh2 ⟨k, zs2, hk0, rfl, B2, hzl2, eh2, hz2, hk⟩
        rw [hk.eq]
        obtain ⟨k0, k1, k2, k7, k8, k10, k11, -⟩ := hk.2
        simp only [slotsFrom, Nat.reduceAdd] at k0 k1 k2 k7 k8 k10 k11 ⊢
        simp only [k0, k1, k2, k7, k8, k10, k11]
        have g1h2 : hh2.get b1 = _ := (eh2.get _ hb1).trans hg1
        have s1h2 := s1.ext eh2
        have sb2 := sb.ext eh2
        simp (disch := first | ((try simp only [heapN]) <;> omega) | fail) only [go_sem, seval]
        have hl0 : ((([] : List Item).length : Nat) : Int) < ((([] : List Item).length + 1 : Nat) : Int) := by simp
        simp (disch := first | ((try simp only [heapN]) <;> omega) | fail) only [go_sem, seval, g1h2, Int.toNat_natCast, c11, hl0]
        have hltb : (i : Int) < (bn : Int) := by omega
        obtain ⟨b2, o2, cs2, l2, rfl, rfl, hb2, hg2, rfl, hr2, ht2, hc2⟩ := sb2.at_ (i := i) (x := bs[i]) (List.getElem?_eq_getElem hib) (k := 1) rfl
        have c20 := hc2 0 (by decide)
        simp only [Nat.add_zero, List.getElem?_cons_zero] at c20
        have hx : has bs i ↔ bs[i] = true := by unfold has; rw [List.getElem?_eq_getElem hib]; simp
        have hout : (¬ has bs i ∨ k = ln) → ∀ j, has zs2 j ↔ ∃ i2 c, i2 < i + 1 ∧ j = i2 + 1 ∧ has bs i2 ∧ s[i2]? = some c ∧ ∃ r ∈ l, r.lo ≤ c ∧ c ≤ r.hi := by
          intro ho j
          rw [hz2, hz]
          constructor
          · rintro (⟨i2, c, h1, h2⟩ | ⟨rfl, h2, t, r, h3, h4, h5⟩)
            · exact ⟨i2, c, by omega, h2⟩
            · exact ⟨i, s[i], by omega, rfl, h2, hsi, r, List.mem_of_getElem? h4, h5⟩
          · rintro ⟨i2, c, h1, rfl, h2, h3, r, h4, h5⟩
            by_cases hii : i2 = i
            · subst hii
              rw [hsi] at h3
              simp only [Option.some.injEq] at h3
              subst h3
              obtain ⟨t, ht, rfl⟩ := List.getElem_of_mem h4
              exact .inr ⟨rfl, h2, t, _, by rcases ho with ho | ho; exact absurd h2 ho; omega, List.getElem?_eq_getElem ht, h5⟩
            · exact .inl ⟨i2, c, by omega, rfl, h2, h3, r, h4, h5⟩
        by_cases hltk : (k : Int) < (ln : Int)
        · have hkl : k < l.length := by omega
          simp (disch := first | ((try simp only [heapN]) <;> omega) | fail) only [go_sem, seval, hltk, hltb, hg2, Int.toNat_natCast, c20]
          by_cases hbi : bs[i] = true
          · obtain ⟨b3, o3, cs3, l3, rfl, rfl, hb3, hg3, rfl, hr3, ht3, hc3⟩ := s1h2.at_ (i := k) (x := l[k]) (List.getElem?_eq_getElem hkl) (k := 2) rfl
            have c30 := hc3 0 (by decide)
            have c31 : cs3[o3 + k * 2 + 1]? = some (.int .u8 l[k].hi.toNat) := hc3 1 (by decide)
            simp only [Nat.add_zero, List.getElem?_cons_zero] at c30
            have hsb : s[i]? = some s[i] := hsi
            have hnx : ¬ (s[i].toNat : Int) ≥ (l[k].lo.toNat : Nat) ∨ ¬ (s[i].toNat : Int) ≤ (l[k].hi.toNat : Nat) → ∀ j, has zs2 j ↔ has zs j ∨ (j = i + 1 ∧ has bs i ∧ ∃ t r, t < k + 1 ∧ l[t]? = some r ∧ r.lo ≤ s[i] ∧ s[i] ≤ r.hi) := fun hn j => by
              rw [hz2]
              refine or_congr Iff.rfl (and_congr Iff.rfl (and_congr Iff.rfl ⟨fun ⟨t, r, h1, h2⟩ => ⟨t, r, by omega, h2⟩, fun ⟨t, r, h1, h2, h3, h4⟩ => ?_⟩))
              by_cases htk : t = k
              · subst htk
                rw [List.getElem?_eq_getElem hkl] at h2
                simp only [Option.some.injEq] at h2
                subst h2
                have := UInt8.le_iff_toNat_le.1 h3
                have := UInt8.le_iff_toNat_le.1 h4
                rcases hn with hn | hn <;> omega
              · exact ⟨t, r, by omega, h2, h3, h4⟩
            have eb : Ext h (hh2.bump 28) := eh2.trans (Ext.bump _ _)
            have B3 : Bits (hh2.bump 28) h.nxt (.slc (some (h.nxt, 0)) (s.length + 1 : Nat) (some (s.length + 1)) 1) zs2 := B2.upd ((Ext.bump hh2 28).upd fun _ => False) fun f => f
            rw [hbi]
            simp (disch := first | ((try simp only [heapN]) <;> omega) | fail) only [go_sem, seval]
            by_cases q1 : (s[i].toNat : Int) ≥ (l[k].lo.toNat : Nat)
            · by_cases q2 : (s[i].toNat : Int) ≤ (l[k].hi.toNat : Nat)
              · skip
                refine DrawU_quiet (by rfl) ?_
                simp (disch := first | ((try simp only [heapN]) <;> omega) | fail) only [go_sem, seval, hlti, Int.toNat_natCast, hsb, g1h2, c11, hl0, hltk, hg3, c30, c31, q1, q2]
                have ei : ((i : Int) + 1).toNat = i + 1 := by omega
                have gB : hh2.get h.nxt = _ := B2.2.2
                have hroom : (i + 1) * 1 + 1 ≤ (zs2.map AV.bool).length := by simp; omega
                simp (disch := first | ((try simp only [heapN]) <;> omega) | fail) only [go_sem, seval, ei, gB, hroom]
                refine AgainK.mk (ln - (k + 1)) (by simp only; omega) ⟨k + 1, zs2.set (i + 1) true, by omega, rfl, by rw [Nat.mul_one]; exact B3.set (i + 1) true, by simp [hzl2], eb.put (Nat.le_refl _), fun j => ?_, rfl, by simp [Has]⟩
                have hw : ∃ t r, t < k + 1 ∧ l[t]? = some r ∧ r.lo ≤ s[i] ∧ s[i] ≤ r.hi := ⟨k, l[k], by omega, List.getElem?_eq_getElem hkl, UInt8.le_iff_toNat_le.2 (by omega), UInt8.le_iff_toNat_le.2 (by omega)⟩
                by_cases hji : i + 1 = j
                · subst hji
                  have : has (zs2.set (i + 1) true) (i + 1) := by unfold has; rw [List.getElem?_set_self (by omega)]
                  exact ⟨fun _ => .inr ⟨rfl, hx.2 hbi, hw⟩, fun _ => this⟩
                · have : has (zs2.set (i + 1) true) j ↔ has zs2 j := by unfold has; rw [List.getElem?_set_ne hji]
                  rw [this, hz2]
                  exact or_congr Iff.rfl ⟨fun h1 => absurd h1.1.symm hji, fun h1 => absurd h1.1.symm hji⟩
              · skip
                refine DrawU_quiet (by rfl) ?_
                simp (disch := first | ((try simp only [heapN]) <;> omega) | fail) only [go_sem, seval, hlti, Int.toNat_natCast, hsb, g1h2, c11, hl0, hltk, hg3, c30, c31, q1, q2]
                exact AgainK.mk (ln - (k + 1)) (by simp only; omega) ⟨k + 1, zs2, by omega, rfl, B3, hzl2, eb, hnx (.inr q2), rfl, by simp [Has]⟩
            · skip
              refine DrawU_quiet (by rfl) ?_
              simp (disch := first | ((try simp only [heapN]) <;> omega) | fail) only [go_sem, seval, hlti, Int.toNat_natCast, hsb, g1h2, c11, hl0, hltk, hg3, c30, c31, q1]
              exact AgainK.mk (ln - (k + 1)) (by simp only; omega) ⟨k + 1, zs2, by omega, rfl, B3, hzl2, eb, hnx (.inl q1), rfl, by simp [Has]⟩
          · have hbf : bs[i] = false := by simpa using hbi
            rw [hbf]
            simp (disch := first | ((try simp only [heapN]) <;> omega) | fail) only [go_sem, seval]
            exact AgainK.mk (s.length - (i + 1)) (by simp only; omega) ⟨i + 1, zs2, by omega, rfl, B2, hzl2, eh2, hout (.inl (by rw [hx, hbf]; simp)), rfl, by simp [Has]⟩
        · simp (disch := first | ((try simp only [heapN]) <;> omega) | fail) only [go_sem, seval, hltk]
          exact AgainK.mk (s.length - (i + 1)) (by simp only; omega) ⟨i + 1, zs2, by omega, rfl, B2, hzl2, eh2, hout (.inr (by omega)), rfl, by simp [Has]⟩
      · simp (disch := first | ((try simp only [heapN]) <;> omega) | fail) only [go_sem, seval, hlti]
        obtain ⟨h9, l9, n9, L9, u9⟩ := B.frz
        refine hQ _ _ h9 l9 ⟨((eh.upd (h.nxt ≤ ·)).trans (u9.weak fun b _ e => by omega)).ext fun b hb => by omega, zs, L9, hzl, fun j => (hz j).trans ?_⟩
        rw [EndsP.one (P := Lang (.cls l)) (Q := fun c => ∃ r ∈ l, r.lo ≤ c ∧ c ≤ r.hi) (fun w => Iff.rfl)]
        constructor
        · rintro ⟨i2, c, h1, h2⟩; exact ⟨i2, c, h2⟩
        · rintro ⟨i2, c, h2, h3, h4, h5⟩
          exact ⟨i2, c, by have := (List.getElem?_eq_some_iff.1 h4).1; omega, h2, h3, h4, h5⟩
    | bin op p q =>
      obtain ⟨rfl, rfl⟩ : pre = p.items ++ q.items ∧ x = ⟨op, []⟩ := by
        simp only [Rx.items] at hx
        rw [← List.append_assoc] at hx
        have := List.append_inj' hx rfl
        simp only [List.cons.injEq, and_true] at this
        exact ⟨this.1.symm, this.2.symm⟩
      obtain ⟨hop, hokp, hokq⟩ := hok
      have hp0 : 0 < p.items.length := by obtain ⟨a, b, e⟩ := p.last; rw [e]; simp
      have hq0 : 0 < q.items.length := by obtain ⟨a, b, e⟩ := q.last; rw [e]; simp
      simp only [List.length_append] at hlp
      have hmem : ∀ x, x ∈ p.items ∨ x ∈ q.items → x.l.length ≤ 100000 := fun x hx => hr x (by simp only [Rx.items, List.mem_append]; rcases hx with hx | hx <;> simp [hx])
      have hfst : firstP (p.items ++ q.items).reverse 1 = p.items.length := by rw [List.reverse_append, firstP_items q hokq _ 1 (by omega), if_pos rfl, List.length_reverse]
      have hdrop : (p.items ++ q.items).drop p.items.length = q.items := List.drop_left
      have htake : (p.items ++ q.items).take p.items.length = p.items := List.take_left
      have w76 := first_uf s9 (by simp; omega)
      rw [List.length_append, hfst] at w76
      rcases hop with rfl | rfl
      · simp (disch := first | ((try simp only [heapN]) <;> omega) | fail) only [go_sem, seval]
        refine callV_ofU F_76 rfl ((w76).mono ?_)
        rintro v76 h76 ⟨e76, rfl⟩
        simp (disch := first | ((try simp only [heapN]) <;> omega) | fail) only [go_sem, seval]
        have eb : Ext h1 (h76.bump 12) := e76.trans (Ext.bump _ _)
        have s9' := s9.ext eb
        have sb' := sb.ext (e1.trans eb)
        refine DrawU_of' (fun _ => False) [0, 0, 3, 0, 0, 0, 48, 0, 0, 496, 1023, 2047] (by rfl) (by rfl) (fun b hb => hb.elim) ?_
        simp (disch := first | ((try simp only [heapN]) <;> omega) | fail) only [go_sem, seval]
        refine lst_lo (i := p.items.length) T_28 rfl T_35 rfl s9' (by simp) ?_
        intro va sa
        rw [hdrop] at sa
        simp (disch := first | ((try simp only [heapN]) <;> omega) | fail) only [go_sem, seval]
        refine lst_hi (i := p.items.length) T_28 rfl T_35 rfl s9' (by simp) ?_
        intro vb svb
        rw [htake] at svb
        simp (disch := first | ((try simp only [heapN]) <;> omega) | fail) only [go_sem, seval]
        refine callV_ofU F_58 rfl ((ih p (by omega) hokp (fun x hx => hmem x (.inl hx)) (by omega) hs svb sb' hbl).mono ?_)
        rintro v2 h2 ⟨e2, R2, L2, hR2, hh2⟩
        simp (disch := first | ((try simp only [heapN]) <;> omega) | fail) only [go_sem, seval]
        refine ⟨fun b hb => hb.elim, ?_⟩
        refine callV_ofU F_58 rfl ((ih q (by omega) hokq (fun x hx => hmem x (.inr hx)) (by omega) hs (sa.ext e2) L2 hR2).mono ?_)
        rintro v3 h3 ⟨e3, R3, L3, hR3, hh3⟩
        simp (disch := first | ((try simp only [heapN]) <;> omega) | fail) only [go_sem, seval]
        refine ⟨fun b hb => hb.elim, ?_⟩
        have eh : Ext h h3 := ((e1.trans eb).trans e2).trans e3
        refine hQ _ _ h3 (Le.refl _) ⟨eh, R3, L3, hR3, fun j => (hh3 j).trans ?_⟩
        rw [EndsP.congr (P := Lang (.bin 2 p q)) (Q := fun w => ∃ u v, w = u ++ v ∧ Lang p u ∧ Lang q v) (B := has bs) (fun w _ => by simp [Lang]) (fun _ => Iff.rfl), EndsP.cat]
        exact EndsP.congr (fun _ _ => Iff.rfl) hh2
      · simp (disch := first | ((try simp only [heapN]) <;> omega) | fail) only [go_sem, seval]
        refine callV_ofU F_76 rfl ((w76).mono ?_)
        rintro v76 h76 ⟨e76, rfl⟩
        simp (disch := first | ((try simp only [heapN]) <;> omega) | fail) only [go_sem, seval]
        have eb : Ext h1 (h76.bump 14) := e76.trans (Ext.bump _ _)
        have s9' := s9.ext eb
        have sb' := sb.ext (e1.trans eb)
        refine DrawU_of' (fun _ => False) [0, 0, 3, 0, 0, 31, 0, 0, 192, 0, 0, 2047, 4095, 8191] (by rfl) (by rfl) (fun b hb => hb.elim) ?_
        simp (disch := first | ((try simp only [heapN]) <;> omega) | fail) only [go_sem, seval]
        refine lst_hi (i := p.items.length) T_28 rfl T_35 rfl s9' (by simp) ?_
        intro vb svb
        rw [htake] at svb
        simp (disch := first | ((try simp only [heapN]) <;> omega) | fail) only [go_sem, seval]
        refine callV_ofU F_58 rfl ((ih p (by omega) hokp (fun x hx => hmem x (.inl hx)) (by omega) hs svb sb' hbl).mono ?_)
        rintro v2 h2 ⟨e2, R2, L2, hR2, hh2⟩
        simp (disch := first | ((try simp only [heapN]) <;> omega) | fail) only [go_sem, seval]
        refine ⟨fun b hb => hb.elim, ?_⟩
        refine lst_lo (i := p.items.length) T_28 rfl T_35 rfl (s9'.ext e2) (by simp) ?_
        intro va sa
        rw [hdrop] at sa
        simp (disch := first | ((try simp only [heapN]) <;> omega) | fail) only [go_sem, seval]
        refine callV_ofU F_58 rfl ((ih q (by omega) hokq (fun x hx => hmem x (.inr hx)) (by omega) hs sa (sb'.ext e2) hbl).mono ?_)
        rintro v3 h3 ⟨e3, R3, L3, hR3, hh3⟩
        simp (disch := first | ((try simp only [heapN]) <;> omega) | fail) only [go_sem, seval]
        refine ⟨fun b hb => hb.elim, ?_⟩
        refine callV_ofU F_77 rfl ((either_uf (L2.ext e3) L3 (by omega) (by omega)).mono ?_)
        rintro v4 h4 ⟨e4, R4, L4, hR4, hh4⟩
        simp (disch := first | ((try simp only [heapN]) <;> omega) | fail) only [go_sem, seval]
        refine ⟨fun b hb => hb.elim, ?_⟩
        have eh : Ext h h4 := (((e1.trans eb).trans e2).trans e3).trans e4
        refine hQ _ _ h4 (Le.refl _) ⟨eh, R4, L4, by omega, fun j => (hh4 j).trans ?_⟩
        rw [EndsP.congr (P := Lang (.bin 3 p q)) (Q := fun w => Lang p w ∨ Lang q w) (B := has bs) (fun w _ => by simp [Lang]) (fun _ => Iff.rfl), EndsP.or, hh2, hh3]
    | rep op p =>
      obtain ⟨rfl, rfl⟩ : pre = p.items ∧ x = ⟨op, []⟩ := by
        simp only [Rx.items] at hx
        have := List.append_inj' hx rfl
        simp only [List.cons.injEq, and_true] at this
        exact ⟨this.1.symm, this.2.symm⟩
      obtain ⟨hop, hokp⟩ := hok
      have hmem : ∀ x, x ∈ p.items → x.l.length ≤ 100000 := fun x hx => hr x (by simp only [Rx.items, List.mem_append]; simp [hx])
      have sb1 := sb.ext e1
      by_cases h6 : op = 6
      · subst h6
        simp (disch := first | ((try simp only [heapN]) <;> omega) | fail) only [go_sem, seval]
        refine callV_ofU F_58 rfl ((ih p (by omega) hokp hmem (by omega) hs s9 sb1 hbl).mono ?_)
        rintro v2 h2 ⟨e2, R2, L2, hR2, hh2⟩
        simp (disch := first | ((try simp only [heapN]) <;> omega) | fail) only [go_sem, seval]
        refine callV_ofU F_77 rfl ((either_uf (sb1.ext e2) L2 (by omega) (by omega)).mono ?_)
        rintro v4 h4 ⟨e4, R4, L4, hR4, hh4⟩
        simp (disch := first | ((try simp only [heapN]) <;> omega) | fail) only [go_sem, seval]
        have eh : Ext h h4 := (e1.trans e2).trans e4
        refine hQ _ _ h4 (Le.refl _) ⟨eh, R4, L4, by omega, fun j => (hh4 j).trans ?_⟩
        rw [EndsP.congr (P := Lang (.rep 6 p)) (Q := fun w => w = [] ∨ Lang p w) (B := has bs) (fun w _ => by simp [Lang]) (fun _ => Iff.rfl), EndsP.or, hh2, EndsP.nil (fun i h1 => by have := (List.getElem?_eq_some_iff.1 h1).1; omega)]
      · have q1 : ¬ op = 1 := by omega
        have q2 : ¬ op = 2 := by omega
        have q3 : ¬ op = 3 := by omega
        simp (disch := first | ((try simp only [heapN]) <;> omega) | fail) only [go_sem, seval, q1, q2, q3, h6]
        refine callV_ofU F_58 rfl ((ih p (by omega) hokp hmem (by omega) hs s9 sb1 hbl).mono ?_)
        rintro v2 h2 ⟨e2, R2, L2, hR2, hh2⟩
        simp (disch := first | ((try simp only [heapN]) <;> omega) | fail) only [go_sem, seval]
        obtain ⟨a9, n9, c9, z9, rfl, hn9⟩ := s9.form
        obtain ⟨a2, n2, c2, z2, rfl, hn2⟩ := L2.form
        refine LoopU_while (fun m st hh => ∃ (i : Nat) (R : List Bool) (v : AV), i ≤ s.length + 1 ∧ m = s.length + 1 - i ∧ Lst hh v R ∧ R.length = s.length + 1 ∧ Ext h1 hh ∧
            (∀ j, has R j ↔ EndsP (PlusN (Lang p) i) s (has bs) j) ∧
            Keep st 162 [(0, .slc (some (b1, o1)) (p.items.length + 1) c 2), (1, .str s), (2, .slc ba bn bc bz), (8, .int .i64 (p.items.length : Nat)), (9, .slc a9 n9 c9 z9), (14, v), (15, .int .i64 (i : Nat))]) (s.length + 1)
          ⟨0, R2, _, by omega, by omega, L2, hR2, e2, hh2, rfl, by simp [Has]⟩ ?_
        rintro m st hh ⟨i, R, v, hi, rfl, LR, hRl, eh, hR, hk⟩
        rw [hk.eq]
        obtain ⟨k0, k1, k2, k8, k9, k14, k15, -⟩ := hk.2
        simp only [slotsFrom, Nat.reduceAdd] at k0 k1 k2 k8 k9 k14 k15 ⊢
        simp only [k0, k1, k2, k8, k9, k14, k15]
        have s9h := s9.ext eh
        have g1h : hh.get b1 = _ := (eh.get _ (Nat.lt_of_lt_of_le hb1 e1.nxt)).trans g1
        simp (disch := first | ((try simp only [heapN]) <;> omega) | fail) only [go_sem, seval]
        by_cases hlti : (i : Int) ≤ (s.length : Int)
        · simp (disch := first | ((try simp only [heapN]) <;> omega) | fail) only [go_sem, seval, hlti]
          refine callV_ofU F_58 rfl ((ih p (by omega) hokp hmem (by omega) hs s9h LR hRl).mono ?_)
          rintro v3 h3 ⟨e3, R3, L3, hR3, hh3⟩
          simp (disch := first | ((try simp only [heapN]) <;> omega) | fail) only [go_sem, seval]
          refine callV_ofU F_77 rfl ((either_uf (LR.ext e3) L3 (by omega) (by omega)).mono ?_)
          rintro v4 h4 ⟨e4, R4, L4, hR4, hh4⟩
          simp (disch := first | ((try simp only [heapN]) <;> omega) | fail) only [go_sem, seval]
          refine AgainK.mk (s.length + 1 - (i + 1)) (by simp only; omega) ⟨i + 1, R4, v4, by omega, rfl, L4, by omega, (eh.trans e3).trans e4, fun j => ?_, rfl, by simp [Has]⟩
          rw [hh4, hh3, EndsP.plusN, hR]
          exact or_congr Iff.rfl (EndsP.congr (fun _ _ => Iff.rfl) hR)
        · simp (disch := first | ((try simp only [heapN]) <;> omega) | fail) only [go_sem, seval, hlti, g1h, Int.toNat_natCast, c10]
          have hii : s.length ≤ i := by omega
          by_cases h4 : op = 4
          · simp (disch := first | ((try simp only [heapN]) <;> omega) | fail) only [go_sem, seval, h4]
            refine callV_ofU F_77 rfl ((either_uf (sb.ext (e1.trans eh)) LR (by omega) (by omega)).mono ?_)
            rintro v4 h4 ⟨e4, R4, L4, hR4, hh4⟩
            simp (disch := first | ((try simp only [heapN]) <;> omega) | fail) only [go_sem, seval]
            refine hQ _ _ h4 (Le.refl _) ⟨(e1.trans eh).trans e4, R4, L4, by omega, fun j => (hh4 j).trans ?_⟩
            rw [EndsP.congr (P := Lang (.rep op p)) (Q := fun w => w = [] ∨ Plus (Lang p) w) (B := has bs) (fun w _ => by simp [Lang, *]) (fun _ => Iff.rfl), EndsP.or, hR, EndsP.plus hii, EndsP.nil (fun i h1 => by have := (List.getElem?_eq_some_iff.1 h1).1; omega)]
          · simp (disch := first | ((try simp only [heapN]) <;> omega) | fail) only [go_sem, seval, h4]
            refine hQ _ _ hh (Le.refl _) ⟨e1.trans eh, R, LR, hRl, fun j => (hR j).trans ?_⟩
            have h5 : op = 5 := by omega
            subst h5
            rw [EndsP.congr (P := Lang (.rep 5 p)) (Q := Plus (Lang p)) (B := has bs) (fun w _ => by simp [Lang]) (fun _ => Iff.rfl), EndsP.plus hii]

end Go.Proofs.Ytenpjkinpecnfaa
