/-
  Layer nfa, without the program: what states tell of a pattern.
-/
import Derived.Test.YtenpjkinpecnfaaNfaB
namespace Go.Proofs.Ytenpjkinpecnfaa
open Go Go.Am
set_option maxRecDepth 100000
set_option linter.unusedSimpArgs false
set_option linter.unusedVariables false

/-- Once or more. -/
inductive Plus (P : List UInt8 → Prop) : List UInt8 → Prop
  | one {w : List UInt8} (h : P w) : Plus P w
  | more {u v : List UInt8} (h : P u) (t : Plus P v) : Plus P (u ++ v)
/-- What a pattern is. -/
def Lang : Rx → List UInt8 → Prop
  | .cls l, w => ∃ c, w = [c] ∧ ∃ r ∈ l, r.lo ≤ c ∧ c ≤ r.hi
  | .bin op a b, w => (op = 2 ∧ ∃ u v, w = u ++ v ∧ Lang a u ∧ Lang b v) ∨ (op ≠ 2 ∧ (Lang a w ∨ Lang b w))
  | .rep op a, w => (w = [] ∧ op ≠ 5) ∨ (op = 6 ∧ Lang a w) ∨ (op ≠ 6 ∧ Plus (Lang a) w)

def stF (xs : List Nat) : St := ⟨1, 0, -1, xs, 0⟩
theorem freeS_get {ss : List St} {i j : Nat} {xs : List Nat} : (freeS ss i xs)[j]? = if j = i then (ss[i]?).map (fun x => { x with free := x.free ++ xs }) else ss[j]? := by
  unfold freeS
  cases hx : ss[i]? with
  | some x =>
    have hi := (List.getElem?_eq_some_iff.1 hx).1
    simp only [Option.map_some]
    by_cases h : j = i
    · subst h; rw [if_pos rfl, List.getElem?_set_self hi]
    · rw [if_neg h, List.getElem?_set_ne (Ne.symm h)]
  | none =>
    simp only [Option.map_none]
    by_cases h : j = i
    · subst h; rw [if_pos rfl, hx]
    · rw [if_neg h]

/-- A pattern's states lie from a to b; it begins at f and ends at t. -/
def Frag (G : List St) : Rx → Nat → Nat → Nat → Nat → Prop
  | .cls l, f, t, a, b => f = a ∧ t = a + 1 ∧ b = a + 2 + l.length ∧ G[f]? = some (stF (List.range' (a + 2) l.length)) ∧ ∀ (i : Nat) (r : Rng), l[i]? = some r → G[a + 2 + i]? = some ⟨r.lo, r.hi, (a + 1 : Nat), [], 0⟩
  | .bin op x y, f, t, a, b =>
    (op = 2 ∧ ∃ m t1 f2, Frag G x f t1 a m ∧ Frag G y f2 t m b ∧ G[t1]? = some (stF [f2])) ∨
    (op ≠ 2 ∧ ∃ m f1 t1 f2 t2, Frag G x f1 t1 a m ∧ Frag G y f2 t2 m f ∧ t = f + 1 ∧ b = f + 2 ∧ G[f]? = some (stF [f1, f2]) ∧ G[t1]? = some (stF [t]) ∧ G[t2]? = some (stF [t]))
  | .rep op x, f, t, a, b => ∃ f1 t1, Frag G x f1 t1 a f ∧ t = f + 1 ∧ b = f + 2 ∧ G[f]? = some (stF (f1 :: if op = 5 then [] else [t])) ∧ G[t1]? = some (stF (t :: if op = 6 then [] else [f1]))
theorem Frag.in_ {G : List St} : ∀ {e : Rx} {f t a b : Nat}, Frag G e f t a b → a ≤ f ∧ f < b ∧ a ≤ t ∧ t < b ∧ f ≠ t
  | .cls l, f, t, a, b, h => by obtain ⟨rfl, rfl, rfl, _⟩ := h; omega
  | .bin op x y, f, t, a, b, h => by
    rcases h with ⟨_, m, t1, f2, h1, h2, _⟩ | ⟨_, m, f1, t1, f2, t2, h1, h2, rfl, rfl, _⟩
    · have := h1.in_; have := h2.in_; omega
    · have := h1.in_; have := h2.in_; omega
  | .rep op x, f, t, a, b, h => by
    obtain ⟨f1, t1, h1, rfl, rfl, _⟩ := h
    have := h1.in_; omega
/-- Other states are no matter, nor is where it ends. -/
theorem Frag.other {G G' : List St} : ∀ {e : Rx} {f t a b : Nat}, Frag G e f t a b → (∀ i, a ≤ i → i < b → i ≠ t → G'[i]? = G[i]?) → Frag G' e f t a b
  | .cls l, f, t, a, b, h, hg => by
    obtain ⟨rfl, rfl, rfl, h1, h2⟩ := h
    refine ⟨rfl, rfl, rfl, (hg _ (by omega) (by omega) (by omega)).trans h1, fun i r hr => (hg _ (by omega) ?_ (by omega)).trans (h2 i r hr)⟩
    have := (List.getElem?_eq_some_iff.1 hr).1; omega
  | .bin op x y, f, t, a, b, h, hg => by
    rcases h with ⟨ho, m, t1, f2, h1, h2, h3⟩ | ⟨ho, m, f1, t1, f2, t2, h1, h2, rfl, rfl, h3, h4, h5⟩
    · have i1 := h1.in_
      have i2 := h2.in_
      exact .inl ⟨ho, m, t1, f2, h1.other fun i x y z => hg i (by omega) (by omega) (by omega), h2.other fun i x y z => hg i (by omega) (by omega) (by omega), (hg _ (by omega) (by omega) (by omega)).trans h3⟩
    · have i1 := h1.in_
      have i2 := h2.in_
      exact .inr ⟨ho, m, f1, t1, f2, t2, h1.other fun i x y z => hg i (by omega) (by omega) (by omega), h2.other fun i x y z => hg i (by omega) (by omega) (by omega), rfl, rfl, (hg _ (by omega) (by omega) (by omega)).trans h3, (hg _ (by omega) (by omega) (by omega)).trans h4, (hg _ (by omega) (by omega) (by omega)).trans h5⟩
  | .rep op x, f, t, a, b, h, hg => by
    obtain ⟨f1, t1, h1, rfl, rfl, h2, h3⟩ := h
    have i1 := h1.in_
    exact ⟨f1, t1, h1.other fun i x y z => hg i (by omega) (by omega) (by omega), rfl, rfl, (hg _ (by omega) (by omega) (by omega)).trans h2, (hg _ (by omega) (by omega) (by omega)).trans h3⟩

/-- Ways through states, by so many steps. -/
inductive Way (G : List St) : Nat → Nat → List UInt8 → Nat → Prop
  | nil {a : Nat} : Way G 0 a [] a
  | eps {a b c n : Nat} {w : List UInt8} {x : St} (hx : G[a]? = some x) (hb : b ∈ x.free) (t : Way G n b w c) : Way G (n + 1) a w c
  | chr {a b c n : Nat} {w : List UInt8} {x : St} {y : UInt8} (hx : G[a]? = some x) (hl : x.lo ≤ y) (hh : y ≤ x.hi) (hn : x.next = (b : Nat)) (t : Way G n b w c) : Way G (n + 1) a (y :: w) c
theorem Way.app {G : List St} {n m a b c : Nat} {u v : List UInt8} (h : Way G n a u b) (k : Way G m b v c) : Way G (n + m) a (u ++ v) c := by
  induction h with
  | nil => simpa using k
  | eps hx hb t ih => rw [Nat.add_right_comm]; exact .eps hx hb (ih k)
  | chr hx hl hh hn t ih => rw [Nat.add_right_comm]; exact .chr hx hl hh hn (ih k)
/-- A state that goes on with nothing alone. -/
theorem Way.stF {G : List St} {n a c : Nat} {w : List UInt8} {xs : List Nat} (h : Way G n a w c) (hx : G[a]? = some (stF xs)) (hne : a ≠ c) : ∃ m b, n = m + 1 ∧ b ∈ xs ∧ Way G m b w c := by
  cases h with
  | nil => exact absurd rfl hne
  | eps hx' hb t =>
    rw [hx] at hx'
    simp only [Option.some.injEq] at hx'
    subst hx'
    exact ⟨_, _, rfl, hb, t⟩
  | chr hx' hl hh hn t =>
    rw [hx] at hx'
    simp only [Option.some.injEq] at hx'
    subst hx'
    rename_i y
    have : (1 : UInt8) ≤ 0 := UInt8.le_trans hl hh
    exact absurd this (by decide)

theorem Frag.sound {G : List St} : ∀ {e : Rx} {f t a b : Nat}, Frag G e f t a b → ∀ {z : Nat}, (z < a ∨ b ≤ z ∨ z = t) → ∀ {n : Nat} {w : List UInt8}, Way G n f w z → ∃ u v m, m ≤ n ∧ w = u ++ v ∧ Lang e u ∧ Way G m t v z
  | .cls l, f, t, a, b, h, z, hz, n, w, k => by
    obtain ⟨rfl, rfl, rfl, h1, h2⟩ := h
    obtain ⟨m, c, rfl, hc, k2⟩ := k.stF h1 (by omega)
    simp only [List.mem_range'_1] at hc
    have hi : c - (f + 2) < l.length := by omega
    have h3 := h2 _ _ (List.getElem?_eq_getElem hi)
    have hcc : f + 2 + (c - (f + 2)) = c := by omega
    rw [hcc] at h3
    cases k2 with
    | nil => omega
    | eps hx hb t =>
      rw [h3] at hx
      simp only [Option.some.injEq] at hx
      subst hx
      simp at hb
    | chr hx hl hh hn t =>
      rw [h3] at hx
      simp only [Option.some.injEq] at hx
      subst hx
      simp only at hn hl hh
      rename_i b' m' w' y
      have : b' = f + 1 := by omega
      subst this
      exact ⟨[y], w', _, by omega, rfl, ⟨y, rfl, _, List.getElem_mem hi, hl, hh⟩, t⟩
  | .bin op x y, f, t, a, b, h, z, hz, n, w, k => by
    rcases h with ⟨ho, m, t1, f2, h1, h2, h3⟩ | ⟨ho, m, f1, t1, f2, t2, h1, h2, rfl, rfl, h3, h4, h5⟩
    · have i1 := h1.in_
      have i2 := h2.in_
      obtain ⟨u, v, m1, hm1, rfl, L1, k1⟩ := h1.sound (z := z) (by omega) k
      obtain ⟨m2, c, rfl, hc, k2⟩ := k1.stF h3 (by omega)
      simp only [List.mem_singleton] at hc
      subst hc
      obtain ⟨u2, v2, m3, hm3, rfl, L2, k3⟩ := h2.sound (z := z) (by omega) k2
      exact ⟨u ++ u2, v2, m3, by omega, by simp, .inl ⟨ho, u, u2, rfl, L1, L2⟩, k3⟩
    · have i1 := h1.in_
      have i2 := h2.in_
      obtain ⟨m1, c, rfl, hc, k1⟩ := k.stF h3 (by omega)
      simp only [List.mem_cons, List.not_mem_nil, or_false] at hc
      rcases hc with rfl | rfl
      · obtain ⟨u, v, m2, hm2, rfl, L1, k2⟩ := h1.sound (z := z) (by omega) k1
        obtain ⟨m3, c, rfl, hc, k3⟩ := k2.stF h4 (by omega)
        simp only [List.mem_singleton] at hc
        subst hc
        exact ⟨u, v, m3, by omega, rfl, .inr ⟨ho, .inl L1⟩, k3⟩
      · obtain ⟨u, v, m2, hm2, rfl, L1, k2⟩ := h2.sound (z := z) (by omega) k1
        obtain ⟨m3, c, rfl, hc, k3⟩ := k2.stF h5 (by omega)
        simp only [List.mem_singleton] at hc
        subst hc
        exact ⟨u, v, m3, by omega, rfl, .inr ⟨ho, .inr L1⟩, k3⟩
  | .rep op x, f, t, a, b, h, z, hz, n, w, k => by
    obtain ⟨f1, t1, h1, rfl, rfl, h2, h3⟩ := h
    have i1 := h1.in_
    have loop : ∀ (n : Nat) (w : List UInt8), Way G n f1 w z → ∃ u v m, m ≤ n ∧ w = u ++ v ∧ ((op = 6 ∧ Lang x u) ∨ (op ≠ 6 ∧ Plus (Lang x) u)) ∧ Way G m (f + 1) v z := by
      intro n
      induction n using Nat.strongRecOn with
      | _ n ih =>
        intro w k
        obtain ⟨u, v, m1, hm1, rfl, L1, k1⟩ := h1.sound (z := z) (by omega) k
        obtain ⟨m2, c, rfl, hc, k2⟩ := k1.stF h3 (by omega)
        rcases List.mem_cons.1 hc with rfl | hc
        · refine ⟨u, v, m2, by omega, rfl, ?_, k2⟩
          by_cases h6 : op = 6
          · exact .inl ⟨h6, L1⟩
          · exact .inr ⟨h6, .one L1⟩
        · by_cases h6 : op = 6
          · rw [if_pos h6] at hc; simp at hc
          · rw [if_neg h6] at hc
            simp only [List.mem_singleton] at hc
            subst hc
            obtain ⟨u2, v2, m3, hm3, rfl, L2, k3⟩ := ih m2 (by omega) v k2
            rcases L2 with ⟨h6', _⟩ | ⟨_, L2⟩
            · exact absurd h6' h6
            · exact ⟨u ++ u2, v2, m3, by omega, by simp, .inr ⟨h6, .more L1 L2⟩, k3⟩
    obtain ⟨m1, c, rfl, hc, k1⟩ := k.stF h2 (by omega)
    rcases List.mem_cons.1 hc with rfl | hc
    · obtain ⟨u, v, m, hm, rfl, L, k2⟩ := loop _ _ k1
      exact ⟨u, v, m, by omega, rfl, .inr L, k2⟩
    · by_cases h5 : op = 5
      · rw [if_pos h5] at hc; simp at hc
      · rw [if_neg h5] at hc
        simp only [List.mem_singleton] at hc
        subst hc
        exact ⟨[], w, m1, by omega, rfl, .inl ⟨rfl, h5⟩, k1⟩

theorem Frag.complete {G : List St} : ∀ {e : Rx} {f t a b : Nat}, Frag G e f t a b → ∀ {w : List UInt8}, Lang e w → ∃ n, Way G n f w t
  | .cls l, f, t, a, b, h, w, L => by
    obtain ⟨rfl, rfl, rfl, h1, h2⟩ := h
    obtain ⟨c, rfl, r, hr, hl, hh⟩ := L
    obtain ⟨i, hi⟩ := List.getElem?_of_mem hr
    have hil := (List.getElem?_eq_some_iff.1 hi).1
    exact ⟨_, .eps h1 (b := f + 2 + i) (by simp only [stF, List.mem_range'_1]; omega) (.chr (h2 i r hi) hl hh rfl .nil)⟩
  | .bin op x y, f, t, a, b, h, w, L => by
    rcases h with ⟨ho, m, t1, f2, h1, h2, h3⟩ | ⟨ho, m, f1, t1, f2, t2, h1, h2, rfl, rfl, h3, h4, h5⟩
    · rcases L with ⟨_, u, v, rfl, L1, L2⟩ | ⟨hn, _⟩
      · obtain ⟨n1, k1⟩ := h1.complete L1
        obtain ⟨n2, k2⟩ := h2.complete L2
        exact ⟨_, k1.app (.eps h3 (by simp [stF]) k2)⟩
      · exact absurd ho hn
    · rcases L with ⟨hn, _⟩ | ⟨_, L | L⟩
      · exact absurd hn ho
      · obtain ⟨n1, k1⟩ := h1.complete L
        have := k1.app (.eps h4 (by simp [stF]) .nil : Way G 1 t1 [] (f + 1))
        rw [List.append_nil] at this
        exact ⟨_, .eps h3 (by simp [stF]) this⟩
      · obtain ⟨n1, k1⟩ := h2.complete L
        have := k1.app (.eps h5 (by simp [stF]) .nil : Way G 1 t2 [] (f + 1))
        rw [List.append_nil] at this
        exact ⟨_, .eps h3 (by simp [stF]) this⟩
  | .rep op x, f, t, a, b, h, w, L => by
    obtain ⟨f1, t1, h1, rfl, rfl, h2, h3⟩ := h
    have one : ∀ {u : List UInt8}, Lang x u → ∃ n, Way G n f1 u (f + 1) := by
      intro u L
      obtain ⟨n1, k1⟩ := h1.complete L
      have := k1.app (.eps h3 (by simp [stF]) .nil : Way G 1 t1 [] (f + 1))
      rw [List.append_nil] at this
      exact ⟨_, this⟩
    rcases L with ⟨rfl, h5⟩ | ⟨h6, L⟩ | ⟨h6, L⟩
    · exact ⟨_, .eps h2 (b := f + 1) (by simp [stF, h5]) .nil⟩
    · obtain ⟨n, k⟩ := one L
      exact ⟨_, .eps h2 (by simp [stF]) k⟩
    · have : ∃ n, Way G n f1 w (f + 1) := by
        clear h2
        induction L with
        | one L => exact one L
        | more L t ih =>
          obtain ⟨n1, k1⟩ := h1.complete L
          obtain ⟨n2, k2⟩ := ih
          exact ⟨_, k1.app (.eps h3 (by simp [stF, h6]) k2)⟩
      obtain ⟨n, k⟩ := this
      exact ⟨_, .eps h2 (by simp [stF]) k⟩

theorem clsS_get {f t : Nat} : ∀ {l : List Rng} {ss : List St} {x : St}, ss[f]? = some x →
    (clsS f t ss l)[f]? = some { x with free := x.free ++ List.range' ss.length l.length } ∧ (∀ j, j < ss.length → j ≠ f → (clsS f t ss l)[j]? = ss[j]?) ∧ (∀ (i : Nat) (r : Rng), l[i]? = some r → (clsS f t ss l)[ss.length + i]? = some ⟨r.lo, r.hi, (t : Nat), [], 0⟩)
  | [], ss, x, h => by simp [clsS, h]
  | r :: l, ss, x, h => by
    have hf := (List.getElem?_eq_some_iff.1 h).1
    have h1 : (clsR f t ss r)[f]? = some { x with free := x.free ++ [ss.length] } := by
      unfold clsR
      rw [freeS_get, if_pos rfl, List.getElem?_append_left hf, h]; rfl
    have h2 : ∀ j, j < ss.length → j ≠ f → (clsR f t ss r)[j]? = ss[j]? := fun j hj hn => by
      unfold clsR
      rw [freeS_get, if_neg hn, List.getElem?_append_left hj]
    have h3 : (clsR f t ss r)[ss.length]? = some ⟨r.lo, r.hi, (t : Nat), [], 0⟩ := by
      unfold clsR
      rw [freeS_get, if_neg (by omega), List.getElem?_append_right (by omega), Nat.sub_self]; rfl
    have hl := clsR_len f t ss r
    obtain ⟨a, b, c⟩ := clsS_get (l := l) (t := t) h1
    have e : clsS f t ss (r :: l) = clsS f t (clsR f t ss r) l := rfl
    rw [e]
    rw [hl] at a b c
    refine ⟨?_, fun j hj hn => (b j (by omega) hn).trans (h2 j hj hn), fun i r' hr => ?_⟩
    · rw [a]; simp [List.range'_succ]
    · cases i with
      | zero =>
        simp only [List.getElem?_cons_zero, Option.some.injEq] at hr
        subst hr
        rw [Nat.add_zero]
        exact (b _ (by omega) (by omega)).trans h3
      | succ i =>
        have := c i r' (by simpa using hr)
        rw [← this]; congr 1; omega

/-- A pattern's items make its states. -/
theorem build : ∀ (e : Rx), e.ok → ∀ (ss : List St) (ps : List Prt), ∃ ss' r, (∀ rest ss2 ps2, Runs rest ss' (ps ++ [r]) ss2 ps2 → Runs (e.items ++ rest) ss ps ss2 ps2) ∧ Frag ss' e r.from_ r.to_ ss.length ss'.length ∧ ss'[r.to_]? = some st0 ∧ ∀ i, i < ss.length → ss'[i]? = ss[i]?
  | .cls l, ⟨hne, hok⟩, ss, ps => by
    have h0 : (ss ++ [st0, st0])[ss.length]? = some st0 := by rw [List.getElem?_append_right (by omega), Nat.sub_self]; rfl
    obtain ⟨a, b, c⟩ := clsS_get (l := l) (t := ss.length + 1) h0
    have hl : (ss ++ [st0, st0]).length = ss.length + 2 := by simp
    rw [hl] at a b c
    refine ⟨_, ⟨ss.length, ss.length + 1⟩, fun rest ss2 ps2 h => .cons (.cls hne hok) h, ⟨rfl, rfl, by rw [clsS_len, hl], ?_, c⟩, ?_, fun i hi => ?_⟩
    · rw [a]; rfl
    · rw [b _ (by simp only; omega) (by simp), List.getElem?_append_right (by simp)]; simp
    · rw [b i (by omega) (by omega), List.getElem?_append_left hi]
  | .rep op x, ⟨hop, hx⟩, ss, ps => by
    obtain ⟨s1, r1, run, F, e1, o1⟩ := build x hx ss ps
    have i1 := F.in_
    have gn : ∀ i, i ≠ s1.length → i ≠ r1.to_ → (repS op s1 r1)[i]? = (s1 ++ [st0, st0])[i]? := fun i h1 h2 => by
      unfold repS
      simp only
      by_cases h5 : op = 5 <;> by_cases h6 : op = 6 <;> simp only [h5, h6, if_true, if_false, freeS_get, h1, h2]
      · omega
      · rw [if_neg (by decide)]; simp only [freeS_get, h1, h2, if_false]
      · rw [if_neg (by decide)]; simp only [freeS_get, h1, h2, if_false]
    have hn2 : s1.length ≠ r1.to_ := by omega
    have g0 : (s1 ++ [st0, st0])[s1.length]? = some st0 := by rw [List.getElem?_append_right (by omega), Nat.sub_self]; rfl
    have gt : (s1 ++ [st0, st0])[r1.to_]? = some st0 := by rw [List.getElem?_append_left (by omega)]; exact e1
    have gF : (repS op s1 r1)[s1.length]? = some (stF (r1.from_ :: if op = 5 then [] else [s1.length + 1])) := by
      unfold repS
      simp only
      rcases hop with rfl | rfl | rfl <;> simp [freeS_get, hn2, g0, st0, stF]
    have gT : (repS op s1 r1)[r1.to_]? = some (stF ((s1.length + 1) :: if op = 6 then [] else [r1.from_])) := by
      unfold repS
      simp only
      rcases hop with rfl | rfl | rfl <;> simp [freeS_get, Ne.symm hn2, gt] <;> rfl
    have hlen : (repS op s1 r1).length = s1.length + 2 := by
      unfold repS
      simp only
      by_cases h5 : op = 5 <;> by_cases h6 : op = 6 <;> simp [h5, h6, freeS_len]
    refine ⟨repS op s1 r1, ⟨s1.length, s1.length + 1⟩, fun rest ss2 ps2 h => ?_, ⟨r1.from_, r1.to_, F.other fun i _ _ _ => ?_, rfl, by rw [hlen], gF, gT⟩, ?_, fun i hi => ?_⟩
    · rw [Rx.items, List.append_assoc]
      exact run _ _ _ (.cons (.rep hop ⟨by omega, by omega⟩) h)
    · rw [gn i (by omega) (by assumption), List.getElem?_append_left (by omega)]
    · rw [gn _ (by simp) (by simp only; omega), List.getElem?_append_right (by simp)]; simp
    · rw [gn i (by omega) (by omega), List.getElem?_append_left (by omega), o1 i hi]
  | .bin op x y, ⟨hop, hx, hy⟩, ss, ps => by
    obtain ⟨s1, r1, run1, F1, e1, o1⟩ := build x hx ss ps
    obtain ⟨s2, r2, run2, F2, e2, o2⟩ := build y hy s1 (ps ++ [r1])
    have i1 := F1.in_
    have i2 := F2.in_
    have e1' : s2[r1.to_]? = some st0 := (o2 _ (by omega)).trans e1
    have F1' : Frag s2 x r1.from_ r1.to_ ss.length s1.length := F1.other fun i _ _ _ => o2 i (by omega)
    rcases hop with rfl | rfl
    · refine ⟨joinS s2 r1 r2, ⟨r1.from_, r2.to_⟩, fun rest ss2 ps2 h => ?_, .inl ⟨rfl, s1.length, r1.to_, r2.from_, F1'.other fun i _ _ h => ?_, ?_, ?_⟩, ?_, fun i hi => ?_⟩
      · rw [Rx.items, List.append_assoc, List.append_assoc]
        refine run1 _ _ _ (run2 _ _ _ (.cons ?_ h))
        rw [List.append_assoc]
        exact .join ⟨by omega, by omega⟩ ⟨by omega, by omega⟩
      · unfold joinS; rw [freeS_get, if_neg h]
      · have : (joinS s2 r1 r2).length = s2.length := freeS_len _ _ _
        rw [this]
        exact F2.other fun i _ _ _ => by unfold joinS; rw [freeS_get, if_neg (by omega)]
      · unfold joinS; rw [freeS_get, if_pos rfl, e1']; rfl
      · unfold joinS; rw [freeS_get, if_neg (by simp only; omega)]; exact e2
      · unfold joinS; rw [freeS_get, if_neg (by omega), o2 i (by omega), o1 i hi]
    · have gn : ∀ i, i ≠ s2.length → i ≠ r1.to_ → i ≠ r2.to_ → (altS s2 r1 r2)[i]? = (s2 ++ [st0, st0])[i]? := fun i h1 h2 h3 => by
        unfold altS
        simp only [freeS_get, h1, h2, h3, if_false]
      have hn1 : s2.length ≠ r1.to_ := by omega
      have hn2 : s2.length ≠ r2.to_ := by omega
      have h12 : r1.to_ ≠ r2.to_ := by omega
      have g0 : (s2 ++ [st0, st0])[s2.length]? = some st0 := by rw [List.getElem?_append_right (by omega), Nat.sub_self]; rfl
      have g1 : (s2 ++ [st0, st0])[r1.to_]? = some st0 := by rw [List.getElem?_append_left (by omega)]; exact e1'
      have g2 : (s2 ++ [st0, st0])[r2.to_]? = some st0 := by rw [List.getElem?_append_left (by omega)]; exact e2
      have hlen : (altS s2 r1 r2).length = s2.length + 2 := by unfold altS; simp [freeS_len]
      refine ⟨altS s2 r1 r2, ⟨s2.length, s2.length + 1⟩, fun rest ss2 ps2 h => ?_, .inr ⟨by decide, s1.length, r1.from_, r1.to_, r2.from_, r2.to_, F1'.other fun i _ _ h => ?_, F2.other fun i _ _ h => ?_, rfl, by rw [hlen], ?_, ?_, ?_⟩, ?_, fun i hi => ?_⟩
      · rw [Rx.items, List.append_assoc, List.append_assoc]
        refine run1 _ _ _ (run2 _ _ _ (.cons ?_ h))
        rw [List.append_assoc]
        exact .alt ⟨by omega, by omega⟩ ⟨by omega, by omega⟩
      · rw [gn i (by omega) h (by omega), List.getElem?_append_left (by omega)]
      · rw [gn i (by omega) (by omega) h, List.getElem?_append_left (by omega)]
      · unfold altS; simp [freeS_get, hn1, hn2, g0, st0, stF]
      · unfold altS; simp [freeS_get, Ne.symm hn1, h12, g1]; rfl
      · unfold altS; simp [freeS_get, Ne.symm hn2, Ne.symm h12, g2]; rfl
      · rw [gn _ (by simp) (by simp only; omega) (by simp only; omega), List.getElem?_append_right (by simp)]; simp
      · rw [gn i (by omega) (by omega) (by omega), List.getElem?_append_left (by omega), o2 i (by omega), o1 i hi]

theorem Frag.fin0 {G : List St} : ∀ {e : Rx} {f t a b : Nat}, Frag G e f t a b → ∀ i, a ≤ i → i < b → i ≠ t → ∃ x, G[i]? = some x ∧ x.fin = 0
  | .cls l, f, t, a, b, h, i, h1, h2, h3 => by
    obtain ⟨rfl, rfl, rfl, g1, g2⟩ := h
    by_cases hi : i = f
    · subst hi; exact ⟨_, g1, rfl⟩
    · have hl : i - (f + 2) < l.length := by omega
      have := g2 _ _ (List.getElem?_eq_getElem hl)
      rw [show f + 2 + (i - (f + 2)) = i by omega] at this
      exact ⟨_, this, rfl⟩
  | .bin op x y, f, t, a, b, h, i, h1, h2, h3 => by
    rcases h with ⟨ho, m, t1, f2, k1, k2, k3⟩ | ⟨ho, m, f1, t1, f2, t2, k1, k2, rfl, rfl, k3, k4, k5⟩
    · by_cases hm : i < m
      · by_cases ht : i = t1
        · subst ht; exact ⟨_, k3, rfl⟩
        · exact k1.fin0 i h1 hm ht
      · exact k2.fin0 i (by omega) h2 h3
    · by_cases hm : i < m
      · by_cases ht : i = t1
        · subst ht; exact ⟨_, k4, rfl⟩
        · exact k1.fin0 i h1 hm ht
      · by_cases hf : i < f
        · by_cases ht : i = t2
          · subst ht; exact ⟨_, k5, rfl⟩
          · exact k2.fin0 i (by omega) hf ht
        · have : i = f := by omega
          subst this; exact ⟨_, k3, rfl⟩
  | .rep op x, f, t, a, b, h, i, h1, h2, h3 => by
    obtain ⟨f1, t1, k1, rfl, rfl, k2, k3⟩ := h
    by_cases hf : i < f
    · by_cases ht : i = t1
      · subst ht; exact ⟨_, k3, rfl⟩
      · exact k1.fin0 i h1 hf ht
    · have : i = f := by omega
      subst this; exact ⟨_, k2, rfl⟩

def stE (n : Nat) : St := ⟨1, 0, -1, [], n⟩
/-- Patterns' states, one pattern's behind the other's. -/
def Blocks (G : List St) : List Rx → Nat → List Nat → Nat → Nat → Prop
  | [], k, fs, a, z => fs = [] ∧ a = z
  | e :: es, k, fs, a, z => ∃ f t b fs', fs = f :: fs' ∧ Frag G e f t a b ∧ G[t]? = some (stE (k + 1)) ∧ Blocks G es (k + 1) fs' b z
theorem Blocks.le {G : List St} : ∀ {es : List Rx} {k : Nat} {fs : List Nat} {a z : Nat}, Blocks G es k fs a z → a ≤ z
  | [], _, _, _, _, h => by have := h.2; omega
  | e :: es, k, fs, a, z, ⟨f, t, b, fs', _, F, _, h⟩ => by have := F.in_; have := h.le; omega
theorem Blocks.other {G G' : List St} : ∀ {es : List Rx} {k : Nat} {fs : List Nat} {a z : Nat}, Blocks G es k fs a z → (∀ i, a ≤ i → i < z → G'[i]? = G[i]?) → Blocks G' es k fs a z
  | [], _, _, _, _, h, _ => h
  | e :: es, k, fs, a, z, ⟨f, t, b, fs', e1, F, g, h⟩, hg => by
    have := F.in_
    have := h.le
    exact ⟨f, t, b, fs', e1, F.other fun i _ _ _ => hg i (by omega) (by omega), (hg _ (by omega) (by omega)).trans g, h.other fun i _ _ => hg i (by omega) (by omega)⟩
theorem Blocks.of_f {G : List St} : ∀ {es : List Rx} {k : Nat} {fs : List Nat} {a z : Nat}, Blocks G es k fs a z → ∀ {f : Nat}, f ∈ fs → ∃ j e t a' b', es[j]? = some e ∧ Frag G e f t a' b' ∧ G[t]? = some (stE (k + j + 1)) ∧ a ≤ a'
  | [], _, _, _, _, h, f, hf => by rw [h.1] at hf; simp at hf
  | e :: es, k, fs, a, z, ⟨f, t, b, fs', e1, F, g, h⟩, f', hf => by
    subst e1
    rcases List.mem_cons.1 hf with rfl | hf
    · exact ⟨0, e, t, a, b, rfl, F, g, Nat.le_refl _⟩
    · obtain ⟨j, e', t', a', b', h1, h2, h3, h4⟩ := h.of_f hf
      have := F.in_
      exact ⟨j + 1, e', t', a', b', by simpa using h1, h2, by rw [h3]; congr 2; omega, by omega⟩
theorem Blocks.of_j {G : List St} : ∀ {es : List Rx} {k : Nat} {fs : List Nat} {a z : Nat}, Blocks G es k fs a z → ∀ {j : Nat} {e : Rx}, es[j]? = some e → ∃ f t a' b', f ∈ fs ∧ Frag G e f t a' b' ∧ G[t]? = some (stE (k + j + 1))
  | [], _, _, _, _, h, j, e, hj => by simp at hj
  | e :: es, k, fs, a, z, ⟨f, t, b, fs', e1, F, g, h⟩, 0, e', hj => by
    simp at hj; subst hj
    exact ⟨f, t, a, b, by rw [e1]; simp, F, g⟩
  | e :: es, k, fs, a, z, ⟨f, t, b, fs', e1, F, g, h⟩, j + 1, e', hj => by
    obtain ⟨f', t', a', b', h1, h2, h3⟩ := h.of_j (j := j) (e := e') (by simpa using hj)
    exact ⟨f', t', a', b', by rw [e1]; simp [h1], h2, by rw [h3]; congr 2; omega⟩

theorem endS_get {ss : List St} {i j n : Nat} : (endS ss i n)[j]? = if j = i then (ss[i]?).map (fun x => { x with fin := n }) else ss[j]? := by
  unfold endS
  cases hx : ss[i]? with
  | some x =>
    have hi := (List.getElem?_eq_some_iff.1 hx).1
    simp only [Option.map_some]
    by_cases h : j = i
    · subst h; rw [if_pos rfl, List.getElem?_set_self hi]
    · rw [if_neg h, List.getElem?_set_ne (Ne.symm h)]
  | none =>
    simp only [Option.map_none]
    by_cases h : j = i
    · subst h; rw [if_pos rfl, hx]
    · rw [if_neg h]
/-- All patterns make their states. -/
theorem build_all : ∀ (es : List Rx) (k : Nat) (ss : List St) (fs0 : List Nat), (∀ e ∈ es, e.ok) → 0 < ss.length → ss[0]? = some (stF fs0) →
    ∃ ss' fs, OfR (es.map Rx.items) k ss ss' ∧ ss'[0]? = some (stF (fs0 ++ fs)) ∧ Blocks ss' es k fs ss.length ss'.length ∧ ∀ i, 0 < i → i < ss.length → ss'[i]? = ss[i]?
  | [], k, ss, fs0, _, h0, h1 => ⟨ss, [], .nil, by simpa using h1, ⟨rfl, rfl⟩, fun _ _ _ => rfl⟩
  | e :: es, k, ss, fs0, hok, h0, h1 => by
    obtain ⟨s1, r, run, F, e1, o1⟩ := build e (hok e (by simp)) ss []
    have i1 := F.in_
    have run1 : Runs e.items ss [] s1 [r] := by
      have := run [] s1 [r] .nil
      rwa [List.append_nil] at this
    have g0 : (endS (freeS s1 0 [r.from_]) r.to_ (k + 1))[0]? = some (stF (fs0 ++ [r.from_])) := by
      rw [endS_get, if_neg (by omega), freeS_get, if_pos rfl, o1 0 h0, h1]; rfl
    have gt : (endS (freeS s1 0 [r.from_]) r.to_ (k + 1))[r.to_]? = some (stE (k + 1)) := by
      rw [endS_get, if_pos rfl, freeS_get, if_neg (by omega), e1]; rfl
    have gn : ∀ i, 0 < i → i ≠ r.to_ → (endS (freeS s1 0 [r.from_]) r.to_ (k + 1))[i]? = s1[i]? := fun i h1 h2 => by
      rw [endS_get, if_neg h2, freeS_get, if_neg (by omega)]
    have hlen : (endS (freeS s1 0 [r.from_]) r.to_ (k + 1)).length = s1.length := by rw [endS_len, freeS_len]
    obtain ⟨ss', fs, R, g, B, o⟩ := build_all es (k + 1) _ _ (fun e he => hok e (by simp [he])) (by rw [hlen]; omega) g0
    rw [hlen] at B o
    refine ⟨ss', r.from_ :: fs, .cons run1 ⟨by omega, by omega⟩ (by omega) R, by rw [g, List.append_assoc]; rfl, ⟨r.from_, r.to_, s1.length, fs, rfl, F.other fun i _ _ hi => ?_, (o _ (by omega) (by omega)).trans gt, B⟩, fun i h2 h3 => ?_⟩
    · rw [o i (by omega) (by omega), gn i (by omega) hi]
    · rw [o i h2 (by omega), gn i h2 (by omega), o1 i h3]

/-- States of patterns. -/
def Auto (G : List St) (es : List Rx) : Prop := ∃ fs, G[0]? = some (stF fs) ∧ Blocks G es 0 fs 1 G.length
theorem auto_of (es : List Rx) (hok : ∀ e ∈ es, e.ok) : ∃ G, OfR (es.map Rx.items) 0 [st0] G ∧ Auto G es := by
  obtain ⟨G, fs, R, g, B, _⟩ := build_all es 0 [st0] [] hok (by simp) rfl
  exact ⟨G, R, fs, by simpa using g, B⟩
/-- A state that is an end is come to just by what is of its kind. -/
theorem Auto.acc {G : List St} {es : List Rx} (A : Auto G es) {w : List UInt8} {m : Nat} : (∃ n q x, Way G n 0 w q ∧ G[q]? = some x ∧ x.fin = m + 1) ↔ ∃ e, es[m]? = some e ∧ Lang e w := by
  obtain ⟨fs, g0, B⟩ := A
  constructor
  · rintro ⟨n, q, x, W, gx, hx⟩
    have hq : 0 ≠ q := by
      rintro rfl
      rw [g0] at gx
      simp only [Option.some.injEq] at gx
      subst gx
      simp [stF] at hx
    obtain ⟨n', f, rfl, hf, W⟩ := W.stF g0 hq
    obtain ⟨j, e, t, a', b', h1, F, h3, h4⟩ := B.of_f hf
    have hz : q < a' ∨ b' ≤ q ∨ q = t := by
      by_cases h5 : q < a'
      · exact .inl h5
      · by_cases h6 : b' ≤ q
        · exact .inr (.inl h6)
        · by_cases h7 : q = t
          · exact .inr (.inr h7)
          · obtain ⟨y, hy, hy0⟩ := F.fin0 q (by omega) (by omega) h7
            rw [gx] at hy
            simp only [Option.some.injEq] at hy
            subst hy
            omega
    obtain ⟨u, v, m', _, rfl, L, W2⟩ := F.sound hz W
    cases W2 with
    | nil =>
      rw [gx] at h3
      simp only [Option.some.injEq] at h3
      subst h3
      have : j = m := by simp [stE] at hx; exact hx
      subst this
      exact ⟨e, h1, by rwa [List.append_nil]⟩
    | eps hx' hb t =>
      rw [h3] at hx'
      simp only [Option.some.injEq] at hx'
      subst hx'
      simp [stE] at hb
    | chr hx' hl hh hn t =>
      rw [h3] at hx'
      simp only [Option.some.injEq] at hx'
      subst hx'
      have : (1 : UInt8) ≤ 0 := UInt8.le_trans hl hh
      exact absurd this (by decide)
  · rintro ⟨e, he, L⟩
    obtain ⟨f, t, a', b', hf, F, h3⟩ := B.of_j he
    obtain ⟨n, W⟩ := F.complete L
    exact ⟨_, t, _, .eps g0 hf W, h3, by simp [stE]⟩

end Go.Proofs.Ytenpjkinpecnfaa
