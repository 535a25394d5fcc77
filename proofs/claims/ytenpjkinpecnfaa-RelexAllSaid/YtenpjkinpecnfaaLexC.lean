/-
  Layer lex, without the program: what is read, reckoned out.
-/
import Derived.Test.YtenpjkinpecnfaaLexB
import Derived.KernelRfl
namespace Go.Proofs.Ytenpjkinpecnfaa
open Go Go.Am
set_option maxRecDepth 100000
set_option linter.unusedSimpArgs false
set_option linter.unusedVariables false

/-- Items tell which pattern it is. -/
theorem items_inj : ∀ {e : Rx}, e.ok → ∀ {d : Rx}, d.ok → e.items = d.items → e = d
  | .cls l, _, d, hd, h => by
    cases d with
    | cls m => simp only [Rx.items, List.cons.injEq, Item.mk.injEq, true_and, and_true] at h; rw [h]
    | bin op a b =>
      have := congrArg List.length h
      obtain ⟨p, x, hp⟩ := a.last
      obtain ⟨p2, x2, hp2⟩ := b.last
      simp [Rx.items, hp, hp2] at this; omega
    | rep op a =>
      have := congrArg List.length h
      obtain ⟨p, x, hp⟩ := a.last
      simp [Rx.items, hp] at this
  | .rep op a, ⟨ho, ha⟩, d, hd, h => by
    cases d with
    | cls m =>
      have := congrArg List.length h
      obtain ⟨p, x, hp⟩ := a.last
      simp [Rx.items, hp] at this
    | bin op2 b c =>
      simp only [Rx.items] at h
      rw [← List.append_assoc] at h
      have := (List.append_inj' h rfl).2
      simp only [List.cons.injEq, Item.mk.injEq, and_true] at this
      have := hd.1
      omega
    | rep op2 b =>
      simp only [Rx.items] at h
      have h2 := List.append_inj' h rfl
      have h3 := h2.2
      simp only [List.cons.injEq, Item.mk.injEq, and_true] at h3
      rw [items_inj ha hd.2 h2.1, h3]
  | .bin op a b, ⟨ho, ha, hb⟩, d, hd, h => by
    cases d with
    | cls m =>
      have := congrArg List.length h
      obtain ⟨p, x, hp⟩ := a.last
      obtain ⟨p2, x2, hp2⟩ := b.last
      simp [Rx.items, hp, hp2] at this; omega
    | rep op2 c =>
      simp only [Rx.items] at h
      rw [← List.append_assoc] at h
      have := (List.append_inj' h rfl).2
      simp only [List.cons.injEq, Item.mk.injEq, and_true] at this
      have := hd.1
      omega
    | bin op2 a2 b2 =>
      simp only [Rx.items] at h
      rw [← List.append_assoc, ← List.append_assoc] at h
      have h2 := List.append_inj' h rfl
      have h3 := h2.2
      simp only [List.cons.injEq, Item.mk.injEq, and_true] at h3
      have f1 : firstP (a.items ++ b.items).reverse 1 = a.items.length := by rw [List.reverse_append, firstP_items b hb _ 1 (by omega), if_pos rfl, List.length_reverse]
      have f2 : firstP (a2.items ++ b2.items).reverse 1 = a2.items.length := by rw [List.reverse_append, firstP_items b2 hd.2.2 _ 1 (by omega), if_pos rfl, List.length_reverse]
      rw [h2.1, f2] at f1
      have h4 := List.append_inj h2.1 f1.symm
      rw [items_inj ha hd.2.1 h4.1, items_inj hb hd.2.2 h4.2, h3]

/-- Both sets. -/
def orL : List Bool → List Bool → List Bool
  | a :: l, b :: m => (a || b) :: orL l m
  | _, _ => []
theorem orL_len : ∀ {l m : List Bool}, l.length = m.length → (orL l m).length = l.length
  | [], [], _ => rfl
  | a :: l, b :: m, h => by simp only [orL, List.length_cons] at h ⊢; rw [orL_len (by omega)]
theorem orL_has : ∀ {l m : List Bool}, l.length = m.length → ∀ j, has (orL l m) j ↔ has l j ∨ has m j
  | [], [], _, j => by simp [orL, has]
  | a :: l, b :: m, h, 0 => by unfold has; simp [orL]
  | a :: l, b :: m, h, j + 1 => by
    have := orL_has (l := l) (m := m) (by simpa using h) j
    simpa [orL, has] using this
def inCls (l : List Rng) (c : UInt8) : Bool := l.any fun r => decide (r.lo ≤ c) && decide (c ≤ r.hi)
def clsL (l : List Rng) : List UInt8 → List Bool → List Bool
  | c :: s, b :: bs => (b && inCls l c) :: clsL l s bs
  | _, _ => []
def itL (f : List Bool → List Bool) : Nat → List Bool → List Bool
  | 0, a => a
  | n + 1, a => itL f n (orL a (f a))
/-- Where a pattern can end. -/
def en : Rx → List UInt8 → List Bool → List Bool
  | .cls l, s, bs => false :: clsL l s bs
  | .bin op a b, s, bs => if op = 2 then en b s (en a s bs) else orL (en a s bs) (en b s bs)
  | .rep op a, s, bs => if op = 6 then orL bs (en a s bs) else
      let r := itL (fun x => en a s x) s.length (en a s bs)
      if op = 4 then orL bs r else r
theorem clsL_spec (l : List Rng) : ∀ (s : List UInt8) (bs : List Bool), bs.length = s.length + 1 → (clsL l s bs).length = s.length ∧ ∀ j, has (clsL l s bs) j ↔ ∃ c, has bs j ∧ s[j]? = some c ∧ ∃ r ∈ l, r.lo ≤ c ∧ c ≤ r.hi
  | [], [b], _ => ⟨rfl, fun j => by simp [clsL, has]⟩
  | c :: s, b :: bs, h => by
    obtain ⟨h1, h2⟩ := clsL_spec l s bs (by simpa using h)
    refine ⟨by simp [clsL, h1], fun j => ?_⟩
    cases j with
    | zero =>
      unfold has
      simp only [clsL, List.getElem?_cons_zero, Option.some.injEq, Bool.and_eq_true, inCls, List.any_eq_true, decide_eq_true_eq]
      constructor
      · rintro ⟨a, r, hr, hc⟩; exact ⟨c, a, rfl, r, hr, hc⟩
      · rintro ⟨c', a, rfl, r, hr, hc⟩; exact ⟨a, r, hr, hc⟩
    | succ j =>
      have := h2 j
      simpa [clsL, has] using this
theorem en_spec : ∀ (e : Rx) (s : List UInt8) (bs : List Bool), e.ok → bs.length = s.length + 1 → (en e s bs).length = s.length + 1 ∧ ∀ j, has (en e s bs) j ↔ EndsP (Lang e) s (has bs) j
  | .cls l, s, bs, _, h => by
    obtain ⟨h1, h2⟩ := clsL_spec l s bs h
    refine ⟨by simp [en, h1], fun j => ?_⟩
    rw [EndsP.one (P := Lang (.cls l)) (Q := fun c => ∃ r ∈ l, r.lo ≤ c ∧ c ≤ r.hi) (fun w => Iff.rfl)]
    cases j with
    | zero => simp [en, has]
    | succ j =>
      have : has (en (.cls l) s bs) (j + 1) ↔ has (clsL l s bs) j := by simp [en, has]
      rw [this, h2]
      constructor
      · rintro ⟨c, h3⟩; exact ⟨j, c, rfl, h3⟩
      · rintro ⟨i, c, h3, h4⟩
        have : i = j := by omega
        subst this; exact ⟨c, h4⟩
  | .bin op a b, s, bs, ⟨ho, ha, hb⟩, h => by
    obtain ⟨a1, a2⟩ := en_spec a s bs ha h
    by_cases h2 : op = 2
    · subst h2
      obtain ⟨b1, b2⟩ := en_spec b s (en a s bs) hb a1
      refine ⟨by simpa [en] using b1, fun j => ?_⟩
      have : en (.bin 2 a b) s bs = en b s (en a s bs) := by simp [en]
      rw [this, b2, EndsP.congr (P := Lang (.bin 2 a b)) (Q := fun w => ∃ u v, w = u ++ v ∧ Lang a u ∧ Lang b v) (B := has bs) (fun w _ => by simp [Lang]) (fun _ => Iff.rfl), EndsP.cat]
      exact EndsP.congr (fun _ _ => Iff.rfl) a2
    · obtain ⟨b1, b2⟩ := en_spec b s bs hb h
      have : en (.bin op a b) s bs = orL (en a s bs) (en b s bs) := by simp [en, h2]
      rw [this]
      refine ⟨by rw [orL_len (by omega)]; exact a1, fun j => ?_⟩
      rw [orL_has (by omega), a2, b2, EndsP.congr (P := Lang (.bin op a b)) (Q := fun w => Lang a w ∨ Lang b w) (B := has bs) (fun w _ => by simp [Lang, h2]) (fun _ => Iff.rfl), EndsP.or]
  | .rep op a, s, bs, ⟨ho, ha⟩, h => by
    have hbl : ∀ i, has bs i → i ≤ s.length := fun i h1 => by have := (List.getElem?_eq_some_iff.1 h1).1; omega
    obtain ⟨a1, a2⟩ := en_spec a s bs ha h
    by_cases h6 : op = 6
    · subst h6
      have : en (.rep 6 a) s bs = orL bs (en a s bs) := by simp [en]
      rw [this]
      refine ⟨by rw [orL_len (by omega)]; exact h, fun j => ?_⟩
      rw [orL_has (by omega), a2, EndsP.congr (P := Lang (.rep 6 a)) (Q := fun w => w = [] ∨ Lang a w) (B := has bs) (fun w _ => by simp [Lang]) (fun _ => Iff.rfl), EndsP.or, EndsP.nil hbl]
    · have it : ∀ n k x, x.length = s.length + 1 → (∀ j, has x j ↔ EndsP (PlusN (Lang a) k) s (has bs) j) → (itL (fun x => en a s x) n x).length = s.length + 1 ∧ ∀ j, has (itL (fun x => en a s x) n x) j ↔ EndsP (PlusN (Lang a) (k + n)) s (has bs) j := by
        intro n
        induction n with
        | zero => exact fun k x h1 h2 => ⟨h1, h2⟩
        | succ n ih =>
          intro k x h1 h2
          obtain ⟨b1, b2⟩ := en_spec a s x ha h1
          have := ih (k + 1) (orL x (en a s x)) (by rw [orL_len (by omega)]; exact h1) fun j => by
            rw [orL_has (by omega), b2, EndsP.plusN, h2]
            exact or_congr Iff.rfl (EndsP.congr (fun _ _ => Iff.rfl) h2)
          rw [show k + 1 + n = k + (n + 1) by omega] at this
          exact this
      obtain ⟨r1, r2⟩ := it s.length 0 (en a s bs) a1 a2
      rw [Nat.zero_add] at r2
      have r3 : ∀ j, has (itL (fun x => en a s x) s.length (en a s bs)) j ↔ EndsP (Plus (Lang a)) s (has bs) j := fun j => (r2 j).trans (EndsP.plus (Nat.le_refl _))
      by_cases h4 : op = 4
      · subst h4
        have : en (.rep 4 a) s bs = orL bs (itL (fun x => en a s x) s.length (en a s bs)) := by simp [en]
        rw [this]
        refine ⟨by rw [orL_len (by omega)]; exact h, fun j => ?_⟩
        rw [orL_has (by omega), r3, EndsP.congr (P := Lang (.rep 4 a)) (Q := fun w => w = [] ∨ Plus (Lang a) w) (B := has bs) (fun w _ => by simp [Lang]) (fun _ => Iff.rfl), EndsP.or, EndsP.nil hbl]
      · have h5 : op = 5 := by omega
        subst h5
        have : en (.rep 5 a) s bs = itL (fun x => en a s x) s.length (en a s bs) := by simp [en]
        rw [this]
        refine ⟨r1, fun j => ?_⟩
        rw [r3, EndsP.congr (P := Lang (.rep 5 a)) (Q := Plus (Lang a)) (B := has bs) (fun w _ => by simp [Lang]) (fun _ => Iff.rfl)]

/-- The last place of a set. -/
def lastL : List Bool → Nat → Nat → Nat
  | [], _, r => r
  | b :: l, i, r => lastL l (i + 1) (if b then i else r)
theorem lastL_spec : ∀ (l : List Bool) (i r : Nat), (lastL l i r = r ∧ ∀ j, ¬ has l j) ∨ (∃ j, has l j ∧ lastL l i r = i + j ∧ ∀ j2, j < j2 → ¬ has l j2)
  | [], i, r => .inl ⟨rfl, fun j => by simp [has]⟩
  | b :: l, i, r => by
    rcases lastL_spec l (i + 1) (if b then i else r) with ⟨h1, h2⟩ | ⟨j, h1, h2, h3⟩
    · cases b with
      | false => exact .inl ⟨h1, fun j => by cases j with
          | zero => simp [has]
          | succ j => simpa [has] using h2 j⟩
      | true => exact .inr ⟨0, by simp [has], by rw [lastL, h1]; simp, fun j2 hj => by cases j2 with
          | zero => omega
          | succ j => simpa [has] using h2 j⟩
    · exact .inr ⟨j + 1, by simpa [has] using h1, by rw [lastL, h2]; omega, fun j2 hj => by cases j2 with
        | zero => omega
        | succ j2 => simpa [has] using h3 j2 (by omega)⟩
/-- The longest front, reckoned out. -/
def bestL (s : List UInt8) : List Rx → Nat → Nat × Nat → Nat × Nat
  | [], _, r => r
  | e :: es, p, r => bestL s es (p + 1) (if r.2 < lastL (en e s (true :: s.map fun _ => false)) 0 0 then (p, lastL (en e s (true :: s.map fun _ => false)) 0 0) else r)
theorem bestL_spec {es : List Rx} {s : List UInt8} (hok : ∀ e ∈ es, e.ok) : ∀ (l : List Rx) (p : Nat) (r : Nat × Nat), es.drop p = l → p ≤ es.length → BestP es s p r.1 r.2 → BestP es s es.length (bestL s l p r).1 (bestL s l p r).2
  | [], p, r, h, hp, b => by
    have : p = es.length := by have := congrArg List.length h; simp at this; omega
    subst this; exact b
  | e :: l, p, r, h, hp, b => by
    have hpl : p < es.length := by have := congrArg List.length h; simp at this; omega
    have he : es[p]? = some e := by have := congrArg (fun l => l[0]?) h; simpa using this
    have hd : es.drop (p + 1) = l := by have := congrArg List.tail h; simpa using this
    obtain ⟨n1, n2⟩ := en_spec e s (true :: s.map fun _ => false) (hok e (List.mem_of_getElem? he)) (by simp)
    have hL : ∀ j, has (en e s (true :: s.map fun _ => false)) j ↔ j ≤ s.length ∧ HasR es (s.take j) p := fun j => by
      rw [n2]
      constructor
      · rintro ⟨i, h1, h2, h3, h4⟩
        have hi0 : i = 0 := by
          cases i with
          | zero => rfl
          | succ i => unfold has at h1; simp at h1
        subst hi0
        exact ⟨h3, e, he, h4⟩
      · rintro ⟨h1, e2, h2, h3⟩
        rw [he] at h2
        simp only [Option.some.injEq] at h2
        subst h2
        exact ⟨0, by simp [has], by omega, h1, h3⟩
    rw [bestL]
    refine bestL_spec hok l (p + 1) _ hd (by omega) ?_
    rcases lastL_spec (en e s (true :: s.map fun _ => false)) 0 0 with ⟨q1, q2⟩ | ⟨j, q1, q2, q3⟩
    · rw [q1, if_neg (by omega)]
      exact b.same fun j j1 j2 h3 => q2 j ((hL j).2 ⟨j2, h3⟩)
    · rw [q2, Nat.zero_add]
      obtain ⟨hj1, hj2⟩ := (hL j).1 q1
      split
      · rename_i hlt
        exact b.more hlt hj1 hj2 fun j2 j3 j4 h3 => q3 j2 j3 ((hL j2).2 ⟨j4, h3⟩)
      · rename_i hlt
        exact b.same fun j2 j3 j4 h3 => q3 j2 (by omega) ((hL j2).2 ⟨j4, h3⟩)
theorem bestL_best {es : List Rx} {s : List UInt8} (hok : ∀ e ∈ es, e.ok) : BestR es s (bestL s es 0 (0, 0)).1 (bestL s es 0 (0, 0)).2 (decide (0 < (bestL s es 0 (0, 0)).2)) :=
  (bestL_spec hok es 0 (0, 0) rfl (by omega) (.inl ⟨rfl, rfl, fun j _ _ m hm => by omega⟩)).all
/-- Tokens, reckoned out. -/
def toksL (es : List Rx) : Nat → Nat → List UInt8 → List Tk
  | 0, _, _ => []
  | _ + 1, _, [] => []
  | n + 1, i, c :: s => if 0 < (bestL (c :: s) es 0 (0, 0)).2 then ⟨(bestL (c :: s) es 0 (0, 0)).1, i, (bestL (c :: s) es 0 (0, 0)).2⟩ :: toksL es n (i + (bestL (c :: s) es 0 (0, 0)).2) ((c :: s).drop (bestL (c :: s) es 0 (0, 0)).2) else ⟨-1, i, 1⟩ :: toksL es n (i + 1) s
theorem toksL_spec {es : List Rx} (hok : ∀ e ∈ es, e.ok) {s : List UInt8} : ∀ (n i : Nat) (t : List UInt8), t = s.drop i → i ≤ s.length → t.length < n → Toks es s i (toksL es n i t)
  | n + 1, i, [], ht, hi, hn => by
    have := congrArg List.length ht
    simp at this
    exact .nil (by omega)
  | n + 1, i, c :: t, ht, hi, hn => by
    have hl := congrArg List.length ht
    simp at hl
    have b := bestL_best (es := es) (s := c :: t) hok
    rw [toksL]
    by_cases h0 : 0 < (bestL (c :: t) es 0 (0, 0)).2
    · rw [if_pos h0]
      rw [decide_eq_true h0, ht] at b
      have hb := b.pos
      rw [← ht] at hb
      rw [ht] at hb ⊢
      refine .one (by omega) b (toksL_spec hok n _ _ (by rw [List.drop_drop]) (by rw [List.length_drop] at hb; omega) ?_)
      rw [List.length_drop, List.length_drop]
      rw [List.length_cons] at hn
      omega
    · rw [if_neg h0]
      rw [decide_eq_false h0, ht] at b
      exact .bad (by omega) b (toksL_spec hok n _ _ (by have := congrArg List.tail ht; simpa using this) (by omega) (by simp at hn; omega))

end Go.Proofs.Ytenpjkinpecnfaa
