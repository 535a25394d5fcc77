/-
  The document's answer to nfa: by sets of places.
-/
import Derived.Test.YtenpjkinpecnfaaNfaT
import Derived.KernelRfl
namespace Go.Proofs.Ytenpjkinpecnfaa
open Go Go.Am
set_option maxRecDepth 100000
set_option maxHeartbeats 4000000
set_option linter.unusedSimpArgs false
set_option linter.unusedVariables false

theorem flat_bools (bs : List Bool) : (bs.map fun b => [AV.bool b]).flatten = bs.map AV.bool := by
  induction bs with
  | nil => rfl
  | cons b bs ih => simp only [List.map_cons, List.flatten_cons, ih]; rfl
theorem reps_bool (h : Heap) : ∀ bs : List Bool, Reps h bs (bs.map fun b => [AV.bool b])
  | [] => .nil
  | b :: bs => .cons rfl (reps_bool h bs)
/-- A set is frozen. -/
theorem Bits.frz {h : Heap} {b : Nat} {v : AV} {bs : List Bool} (B : Bits h b v bs) : ∃ h', Le h' h ∧ h'.nxt = h.nxt ∧ Lst h' v bs ∧ Upd (· = b) h h' := by
  obtain ⟨rfl, hb, hg⟩ := B
  have sl : LSlc h (.slc (some (b, 0)) bs.length (some bs.length) 1) bs := LSlc.lit (ls := bs.map fun b => [AV.bool b]) hb hg (flat_bools bs).symm (reps_bool h bs) (by simp) rfl
  exact ⟨h.frz b, frz_le _ _, by simp, sl.frz, frz_upd rfl⟩
theorem Bits.set {h : Heap} {b : Nat} {v : AV} {bs : List Bool} (B : Bits h b v bs) (i : Nat) (y : Bool) : Bits (h.put b (.cells ((bs.map AV.bool).set i (.bool y)) true)) b v (bs.set i y) := by
  obtain ⟨rfl, hb, hg⟩ := B
  exact ⟨by simp, by simp; exact hb, by rw [get_put_self, List.map_set]⟩

theorem either_uf {h : Heap} {a b : AV} {xs ys : List Bool} (sa : Lst h a xs) (sb : Lst h b ys) (hl : ys.length = xs.length) (hn : xs.length ≤ 1000000) : UF T F 77 [a, b] h fun v' h' => Ext h h' ∧ ∃ zs, Lst h' v' zs ∧ zs.length = xs.length ∧ ∀ i, has zs i ↔ has xs i ∨ has ys i := by
  obtain ⟨aa, an, ac, az, rfl, han⟩ := sa.form
  obtain ⟨ba, bn, bc, bz, rfl, hbn⟩ := sb.form
  refine UF.genq fun Q hQ => UF.of (F_77) (c := _) rfl ?_
  unfold Try.f77
  simp only [List.length, Nat.reduceSub, Nat.reduceAdd, List.replicate, List.cons_append, List.nil_append]
  simp (disch := omega) only [go_sem, seval]
  refine mk_bits T_118 (by omega) ?_
  simp (disch := omega) only [go_sem, seval]
  have e1 : Ext h (h.add (.cells ((List.replicate an false).map AV.bool) true)) := Ext.add _ _
  refine LoopU_while (fun m st hh => ∃ (j : Nat) (zs : List Bool), j ≤ an ∧ m = an - j ∧ Bits hh h.nxt (.slc (some (h.nxt, 0)) an (some an) 1) zs ∧ zs.length = an ∧ Ext h hh ∧ (∀ i, has zs i ↔ i < j ∧ (has xs i ∨ has ys i)) ∧
      Keep st 30 [(0, .slc aa an ac az), (1, .slc ba bn bc bz), (5, .slc (some (h.nxt, 0)) an (some an) 1), (6, .int .i64 (j : Nat))]) an
    ⟨0, List.replicate an false, by omega, by omega, bits_new, by simp, e1, fun i => ⟨fun h1 => absurd h1 has_new, fun h1 => by omega⟩, rfl, by simp [Has]⟩ ?_
  rintro m st hh ⟨j, zs, hj, rfl, B, hzl, eh, hz, hk⟩
  rw [hk.eq]
  obtain ⟨k0, k1, k5, k6, -⟩ := hk.2
  simp only [slotsFrom, Nat.reduceAdd] at k0 k1 k5 k6 ⊢
  simp only [k0, k1, k5, k6]
  simp (disch := omega) only [go_sem, seval]
  by_cases hlt : (j : Int) < (an : Int)
  · have hjx : j < xs.length := by omega
    have hjy : j < ys.length := by omega
    have hjz : j < zs.length := by omega
    obtain ⟨b1, o1, cs1, l1, rfl, rfl, hb1, hg1, rfl, hr1, ht1, hc1⟩ := sa.at_ (i := j) (x := xs[j]) (List.getElem?_eq_getElem hjx) (k := 1) rfl
    obtain ⟨b2, o2, cs2, l2, rfl, rfl, hb2, hg2, rfl, hr2, ht2, hc2⟩ := sb.at_ (i := j) (x := ys[j]) (List.getElem?_eq_getElem hjy) (k := 1) rfl
    have c1 := hc1 0 (by decide)
    have c2 := hc2 0 (by decide)
    simp only [Nat.add_zero, List.getElem?_cons_zero] at c1 c2
    have g1 : hh.get b1 = _ := (eh.get _ hb1).trans hg1
    have g2 : hh.get b2 = _ := (eh.get _ hb2).trans hg2
    have g := B.2.2
    have hltb : (j : Int) < (bn : Int) := by omega
    have hroom : j * 1 + 1 ≤ (zs.map AV.bool).length := by simp; omega
    have next : ∀ y : Bool, (y = true ↔ (has xs j ∨ has ys j)) → ∀ i, has (zs.set j y) i ↔ i < j + 1 ∧ (has xs i ∨ has ys i) := by
      intro y hy i
      by_cases hij : j = i
      · subst hij
        unfold has at hy ⊢
        rw [List.getElem?_set_self hjz]
        simp only [Option.some.injEq]
        exact hy.trans ⟨fun h1 => ⟨by omega, h1⟩, fun h1 => h1.2⟩
      · have : has (zs.set j y) i ↔ has zs i := by unfold has; rw [List.getElem?_set_ne hij]
        rw [this, hz]
        exact ⟨fun h1 => ⟨by omega, h1.2⟩, fun h1 => ⟨by omega, h1.2⟩⟩
    have hx : has xs j ↔ xs[j] = true := by unfold has; rw [List.getElem?_eq_getElem hjx]; simp
    have hy : has ys j ↔ ys[j] = true := by unfold has; rw [List.getElem?_eq_getElem hjy]; simp
    have fin : ∀ y, Ext h (hh.put h.nxt (.cells ((zs.map AV.bool).set (j * 1) (.bool y)) true)) := fun y => eh.put (Nat.le_refl _)
    simp (disch := omega) only [go_sem, seval, hlt, hltb, g1, g2, Int.toNat_natCast, c1]
    cases hxv : xs[j] with
    | true =>
      simp (disch := omega) only [go_sem, seval, g, hroom, hlt]
      refine AgainK.mk (an - (j + 1)) (by simp only; omega) ⟨j + 1, zs.set j true, by omega, rfl, by rw [Nat.mul_one]; exact B.set j true, by simp [hzl], fin _, next true (by simp [hx, hxv]), rfl, by simp [Has]⟩
    | false =>
      simp (disch := omega) only [go_sem, seval, g, hroom, hlt, hltb, g2, Int.toNat_natCast, c2]
      refine AgainK.mk (an - (j + 1)) (by simp only; omega) ⟨j + 1, zs.set j ys[j], by omega, rfl, by rw [Nat.mul_one]; exact B.set j _, by simp [hzl], fin _, next _ (by rw [hx, hy, hxv]; simp), rfl, by simp [Has]⟩
  · have hjn : j = an := by omega
    subst hjn
    simp (disch := omega) only [go_sem, seval, hlt]
    obtain ⟨h9, l9, n9, L9, u9⟩ := B.frz
    refine hQ _ _ h9 l9 ⟨((eh.upd (h.nxt ≤ ·)).trans (u9.weak fun b _ e => by omega)).ext fun b hb => by omega, zs, L9, by omega, fun i => (hz i).trans ⟨fun h1 => h1.2, fun h1 => ⟨?_, h1⟩⟩⟩
    rcases h1 with h1 | h1
    · have := (List.getElem?_eq_some_iff.1 h1).1; omega
    · have := (List.getElem?_eq_some_iff.1 h1).1; omega

/-- How a piece counts. -/
def need (x : Item) (n : Int) : Int := if x.op = 1 then n - 1 else if x.op = 2 ∨ x.op = 3 then n + 1 else n
/-- Where a piece begins, of items from the last one on. -/
def firstP : List Item → Int → Nat
  | [], _ => 0
  | x :: r, n => if need x n = 0 then r.length else firstP r (need x n)
theorem firstP_items : ∀ (e : Rx), e.ok → ∀ (r : List Item) (n : Int), 1 ≤ n → firstP (e.items.reverse ++ r) n = if n = 1 then r.length else firstP r (n - 1)
  | .cls l, _, r, n, hn => by
    simp only [Rx.items, List.reverse_cons, List.reverse_nil, List.nil_append, List.cons_append, firstP, need, if_true]
    by_cases h : n = 1
    · rw [if_pos h, if_pos (by omega)]
    · rw [if_neg h, if_neg (by omega)]
  | .rep op x, ⟨hop, hx⟩, r, n, hn => by
    simp only [Rx.items, List.reverse_append, List.reverse_cons, List.reverse_nil, List.nil_append, List.cons_append, firstP, need]
    rw [if_neg (show ¬ op = 1 by omega), if_neg (show ¬ (op = 2 ∨ op = 3) by omega), if_neg (by omega)]
    exact firstP_items x hx r n hn
  | .bin op x y, ⟨hop, hx, hy⟩, r, n, hn => by
    simp only [Rx.items, List.reverse_append, List.reverse_cons, List.reverse_nil, List.nil_append, List.cons_append, firstP, need]
    rw [if_neg (show ¬ op = 1 by omega), if_pos (show (op = 2 ∨ op = 3) by omega), if_neg (by omega), List.append_assoc, firstP_items y hy _ (n + 1) (by omega), if_neg (by omega), show n + 1 - 1 = n by omega]
    exact firstP_items x hx r n hn

theorem first_uf {h : Heap} {v : AV} {l : List Item} (sl : Lst h v l) (hl : l.length ≤ 100000) : UF T F 76 [v, .int .i64 ((l.length : Int) - 1)] h fun v' h' => Ext h h' ∧ v' = .int .i64 (firstP l.reverse 1) := by
  obtain ⟨a, n, c, z, rfl, hn⟩ := sl.form
  refine UF.gen fun Q hQ => UF.of (F_76) (c := _) rfl ?_
  unfold Try.f76
  simp only [List.length, Nat.reduceSub, Nat.reduceAdd, List.replicate, List.cons_append, List.nil_append]
  simp (disch := omega) only [go_sem, seval]
  refine LoopU_while (fun m st hh => ∃ (j : Nat) (k : Int), j ≤ l.length ∧ m = j ∧ Ext h hh ∧ 1 ≤ k ∧ k ≤ 1 + (l.length - j) ∧ firstP l.reverse 1 = firstP (l.take j).reverse k ∧
      Keep st 29 [(0, .slc a n c z), (5, .int .i64 k), (6, .int .i64 ((j : Int) - 1))]) l.length
    ⟨l.length, 1, by omega, rfl, Ext.refl _, by omega, by omega, by rw [List.take_length], rfl, by simp [Has]⟩ ?_
  rintro m st hh ⟨j, k, hj, rfl, eh, hk1, hk2, hf, hk⟩
  rw [hk.eq]
  obtain ⟨k0, k5, k6, -⟩ := hk.2
  simp only [slotsFrom, Nat.reduceAdd] at k0 k5 k6 ⊢
  simp only [k0, k5, k6]
  have sl2 := sl.ext eh
  simp (disch := omega) only [go_sem, seval]
  by_cases hge : (m : Int) - 1 ≥ 0
  · obtain ⟨d, rfl⟩ : ∃ d, m = d + 1 := ⟨m - 1, by omega⟩
    have hd : ((d + 1 : Nat) : Int) - 1 = (d : Nat) := by omega
    have hdl : d < l.length := by omega
    obtain ⟨b1, o1, cs1, l1, rfl, rfl, hb1, hg1, ⟨v1, rfl, s1⟩, hr1, ht1, hc1⟩ := sl2.at_ (i := d) (x := l[d]) (List.getElem?_eq_getElem hdl) (k := 2) rfl
    have c10 := hc1 0 (by decide)
    simp only [Nat.add_zero, List.getElem?_cons_zero] at c10
    have hdn : (d : Int) < (n : Int) := by omega
    have hd0 : (d : Int) ≥ 0 := by omega
    rw [List.take_add_one, List.getElem?_eq_getElem hdl] at hf
    simp only [Option.toList_some, List.reverse_append, List.reverse_cons, List.reverse_nil, List.nil_append, List.cons_append, firstP] at hf
    have hlen : (l.take d).reverse.length = d := by simp; omega
    rw [hlen] at hf
    have hnd : ∀ k2 : Int, need l[d] k = k2 → ¬ k2 = 0 → firstP l.reverse 1 = firstP (l.take d).reverse k2 := fun k2 e h2 => by rw [hf, e, if_neg h2]
    have hnz : ∀ k2 : Int, need l[d] k = k2 → k2 = 0 → firstP l.reverse 1 = d := fun k2 e h2 => by rw [hf, e, if_pos h2]
    rw [hd] at *
    simp (disch := omega) only [go_sem, seval, hd0, hdn, hg1, Int.toNat_natCast, c10]
    have fin : ∀ (k2 : Int) (K : Prop) , need l[d] k = k2 → (k2 = 0 → firstP l.reverse 1 = d → K) → (¬ k2 = 0 → firstP l.reverse 1 = firstP (l.take d).reverse k2 → K) → K := fun k2 K e a b => by
      by_cases h : k2 = 0
      · exact a h (hnz k2 e h)
      · exact b h (hnd k2 e h)
    by_cases q1 : l[d].op = 1
    · simp (disch := omega) only [go_sem, seval, q1]
      refine fin (k - 1) _ (by unfold need; rw [if_pos q1]) (fun z e => ?_) fun z e => ?_
      · simp (disch := omega) only [go_sem, seval, z]
        refine hQ _ _ ⟨eh, ?_⟩
        rw [e]
      · simp (disch := omega) only [go_sem, seval, z]
        exact AgainK.mk d (by simp only; omega) ⟨d, k - 1, by omega, rfl, eh, by omega, by omega, e, rfl, by simp [Has]⟩
    · by_cases q2 : l[d].op = 2
      · simp (disch := omega) only [go_sem, seval, q1, q2]
        refine fin (k + 1) _ (by unfold need; rw [if_neg q1, if_pos (.inl q2)]) (fun z e => ?_) fun z e => ?_
        · simp (disch := omega) only [go_sem, seval, z]
          refine hQ _ _ ⟨eh, ?_⟩
          rw [e]
        · simp (disch := omega) only [go_sem, seval, z]
          exact AgainK.mk d (by simp only; omega) ⟨d, k + 1, by omega, rfl, eh, by omega, by omega, e, rfl, by simp [Has]⟩
      · by_cases q3 : l[d].op = 3
        · simp (disch := omega) only [go_sem, seval, q1, q2, q3]
          refine fin (k + 1) _ (by unfold need; rw [if_neg q1, if_pos (.inr q3)]) (fun z e => ?_) fun z e => ?_
          · simp (disch := omega) only [go_sem, seval, z]
            refine hQ _ _ ⟨eh, ?_⟩
            rw [e]
          · simp (disch := omega) only [go_sem, seval, z]
            exact AgainK.mk d (by simp only; omega) ⟨d, k + 1, by omega, rfl, eh, by omega, by omega, e, rfl, by simp [Has]⟩
        · simp (disch := omega) only [go_sem, seval, q1, q2, q3]
          refine fin k _ (by unfold need; rw [if_neg q1, if_neg (by omega)]) (fun z e => ?_) fun z e => ?_
          · simp (disch := omega) only [go_sem, seval, z]
            refine hQ _ _ ⟨eh, ?_⟩
            rw [e]
          · simp (disch := omega) only [go_sem, seval, z]
            exact AgainK.mk d (by simp only; omega) ⟨d, k, by omega, rfl, eh, by omega, by omega, e, rfl, by simp [Has]⟩
  · have hm0 : m = 0 := by omega
    subst hm0
    simp (disch := omega) only [go_sem, seval]
    refine hQ _ _ ⟨eh, ?_⟩
    rw [hf]; rfl

end Go.Proofs.Ytenpjkinpecnfaa
