import Derived.Test.YtenpjkinpecnfaaNfaL
import Derived.Test.YtenpjkinpecnfaaAmSt
import Derived.KernelRfl
/-
  Layer nfa: sets of states.
-/
namespace Go.Proofs.Ytenpjkinpecnfaa
open Go Go.Am
set_option maxRecDepth 100000
set_option maxHeartbeats 4000000
set_option linter.unusedSimpArgs false
set_option linter.unusedVariables false

/-- A set of our own, in its block. -/
def Bits (h : Heap) (b : Nat) (v : AV) (bs : List Bool) : Prop := v = .slc (some (b, 0)) bs.length (some bs.length) 1 ∧ b < h.nxt ∧ h.get b = some (.cells (bs.map AV.bool) true)
theorem Bits.upd {h h' : Heap} {b : Nat} {v : AV} {bs : List Bool} {S : Nat → Prop} (B : Bits h b v bs) (u : Upd S h h') (hS : ¬ S b) : Bits h' b v bs := ⟨B.1, Nat.lt_of_lt_of_le B.2.1 u.nxt, (u.get b B.2.1 hS).trans B.2.2⟩

theorem reps_int {h : Heap} : ∀ {xs : List Nat} {ls : List (List AV)}, Reps h xs ls → Reps h (xs.map fun (x : Nat) => (x : Int)) ls
  | [], _, .nil => .nil
  | x :: xs, _, .cons a b => .cons a (reps_int b)
theorem lst_int {h : Heap} {v : AV} {xs : List Nat} (s : Lst h v xs) : LSlc h v (xs.map fun (x : Nat) => (x : Int)) := by
  obtain ⟨ls, a, b⟩ := s
  exact ⟨ls, a.slc, reps_int b⟩

/-- What is come to with nothing, from one of those. -/
def Eps (G : List St) (a : Int) (i : Nat) : Prop := i < G.length ∧ ∃ (k n : Nat), a = (k : Int) ∧ Way G n k [] i
def has (bs : List Bool) (i : Nat) : Prop := bs[i]? = some true
/-- What they come to in one step with nothing is in the set, or is yet to do. -/
def Shut (G : List St) (bs : List Bool) (todo : List Int) : Prop := ∀ (i : Nat) (x : St) (j : Nat), has bs i → G[i]? = some x → j ∈ x.free → j < G.length → has bs j ∨ (j : Int) ∈ todo
/-- How much is to do. -/
def left : List St → List Bool → Nat
  | x :: G, b :: bs => (if b then 0 else 1 + x.free.length) + left G bs
  | _, _ => 0
theorem left_set : ∀ {G : List St} {bs : List Bool} {i : Nat} {x : St}, G[i]? = some x → bs[i]? = some false → left G (bs.set i true) + (1 + x.free.length) = left G bs
  | [], _, _, _, h, _ => by simp at h
  | _ :: _, [], _, _, _, h => by simp at h
  | y :: G, b :: bs, 0, x, h1, h2 => by
    simp at h1 h2; subst h1; subst h2
    simp [left]; omega
  | y :: G, b :: bs, i + 1, x, h1, h2 => by
    have := left_set (G := G) (bs := bs) (i := i) (x := x) (by simpa using h1) (by simpa using h2)
    simp only [left, List.set_cons_succ]; omega
theorem left_le : ∀ (G : List St) (bs : List Bool), left G bs ≤ wt G
  | [], bs => by simp [left]
  | x :: G, [] => by simp [left]
  | x :: G, b :: bs => by
    have := left_le G bs
    have e : wt (x :: G) = 1 + x.free.length + wt G := rfl
    rw [e, left]
    split <;> omega
theorem way_last {G : List St} {n a i : Nat} {w : List UInt8} (h : Way G n a w i) {x : St} (hx : G[i]? = some x) {j : Nat} (hj : j ∈ x.free) : Way G (n + 1) a w j := by
  have := h.app (.eps hx hj .nil : Way G 1 i [] j)
  rwa [List.append_nil] at this
theorem shut_way {G : List St} {bs : List Bool} (hs : Shut G bs []) {n a i : Nat} (h : Way G n a [] i) (ha : has bs a) (hi : i < G.length) : has bs i := by
  generalize hw : ([] : List UInt8) = w at h
  induction h with
  | nil => exact ha
  | @eps a' b' c' n' w' x' hx hb t ih =>
    have hbl : b' < G.length := by
      cases t with
      | nil => exact hi
      | eps hx' _ _ => exact (List.getElem?_eq_some_iff.1 hx').1
      | chr hx' _ _ _ _ => exact (List.getElem?_eq_some_iff.1 hx').1
    rcases hs _ _ _ ha hx hb hbl with h1 | h1
    · exact ih h1 hi hw
    · simp at h1
  | chr => cases hw

theorem has_set {bs : List Bool} {i j : Nat} (hi : i < bs.length) : has (bs.set i true) j ↔ has bs j ∨ j = i := by
  unfold has
  by_cases h : i = j
  · subst h; rw [List.getElem?_set_self hi]; simp
  · rw [List.getElem?_set_ne h]
    exact ⟨.inl, fun h1 => h1.elim id fun e => absurd e.symm h⟩
/-- The least kind of the first ones of a set; 0: none. -/
def EndTo (G : List St) (bs : List Bool) (n e : Nat) : Prop := (e = 0 ∧ ∀ i x, i < n → has bs i → G[i]? = some x → x.fin = 0) ∨ (0 < e ∧ (∃ i x, has bs i ∧ G[i]? = some x ∧ x.fin = e) ∧ ∀ i x, i < n → has bs i → G[i]? = some x → 0 < x.fin → e ≤ x.fin)
theorem EndTo.skip {G : List St} {bs : List Bool} {n e : Nat} (E : EndTo G bs n e) {x : St} (hx : G[n]? = some x) (h : ¬ (has bs n ∧ 0 < x.fin ∧ (e = 0 ∨ x.fin < e))) : EndTo G bs (n + 1) e := by
  rcases E with ⟨rfl, E⟩ | ⟨h0, E1, E2⟩
  · refine .inl ⟨rfl, fun i y hi hb hy => ?_⟩
    by_cases hin : i = n
    · subst hin
      rw [hx] at hy; simp only [Option.some.injEq] at hy; subst hy
      have : ¬ 0 < x.fin := fun h1 => h ⟨hb, h1, .inl rfl⟩
      omega
    · exact E i y (by omega) hb hy
  · refine .inr ⟨h0, E1, fun i y hi hb hy hp => ?_⟩
    by_cases hin : i = n
    · subst hin
      rw [hx] at hy; simp only [Option.some.injEq] at hy; subst hy
      have : ¬ x.fin < e := fun h1 => h ⟨hb, hp, .inr h1⟩
      omega
    · exact E2 i y (by omega) hb hy hp
theorem EndTo.take {G : List St} {bs : List Bool} {n e : Nat} (E : EndTo G bs n e) {x : St} (hx : G[n]? = some x) (hb : has bs n) (h1 : 0 < x.fin) (h2 : e = 0 ∨ x.fin < e) : EndTo G bs (n + 1) x.fin := by
  refine .inr ⟨h1, ⟨n, x, hb, hx, rfl⟩, fun i y hi hb' hy hp => ?_⟩
  by_cases hin : i = n
  · subst hin
    rw [hx] at hy; simp only [Option.some.injEq] at hy; subst hy
    exact Nat.le_refl _
  · rcases E with ⟨rfl, E⟩ | ⟨h0, E1, E2⟩
    · have := E i y (by omega) hb' hy; omega
    · have := E2 i y (by omega) hb' hy hp; omega

theorem way_split {G : List St} {n a z : Nat} {w : List UInt8} (h : Way G n a w z) : ∀ (u : List UInt8) (c : UInt8), w = u ++ [c] → ∃ n1 p x b n2, Way G n1 a u p ∧ G[p]? = some x ∧ (x.lo ≤ c ∧ c ≤ x.hi) ∧ x.next = ((b : Nat) : Int) ∧ Way G n2 b [] z := by
  induction h with
  | nil => intro u c e; simp at e
  | eps hx hb t ih =>
    intro u c e
    obtain ⟨n1, p, x, b, n2, h1, h2⟩ := ih u c e
    exact ⟨n1 + 1, p, x, b, n2, .eps hx hb h1, h2⟩
  | chr hx hl hh hn t ih =>
    intro u c e
    cases u with
    | nil =>
      simp at e
      obtain ⟨rfl, rfl⟩ := e
      exact ⟨0, _, _, _, _, .nil, hx, ⟨hl, hh⟩, hn, t⟩
    | cons y u =>
      simp at e
      obtain ⟨rfl, e⟩ := e
      obtain ⟨n1, p, x, b, n2, h1, h2⟩ := ih u c e
      exact ⟨n1 + 1, p, x, b, n2, .chr hx hl hh hn h1, h2⟩
/-- The states that a text's front comes to. -/
def Live (G : List St) (w : List UInt8) (q : Nat) : Prop := q < G.length ∧ ∃ n, Way G n 0 w q
theorem live_next {G : List St} {w : List UInt8} {c : UInt8} {q : Nat} : Live G (w ++ [c]) q ↔ ∃ p x, Live G w p ∧ G[p]? = some x ∧ (x.lo ≤ c ∧ c ≤ x.hi) ∧ Eps G x.next q := by
  constructor
  · rintro ⟨hq, n, W⟩
    obtain ⟨n1, p, x, b, n2, h1, h2, h3, h4, h5⟩ := way_split W w c rfl
    exact ⟨p, x, ⟨(List.getElem?_eq_some_iff.1 h2).1, n1, h1⟩, h2, h3, hq, b, n2, h4, h5⟩
  · rintro ⟨p, x, ⟨hp, n1, h1⟩, h2, h3, hq, b, n2, h4, h5⟩
    exact ⟨hq, _, h1.app (.chr h2 h3.1 h3.2 h4 h5)⟩

end Go.Proofs.Ytenpjkinpecnfaa

/-
  Layer nfa: the longest front, by states.
-/
namespace Go.Proofs.Ytenpjkinpecnfaa
open Go Go.Am
set_option maxRecDepth 100000
set_option maxHeartbeats 4000000
set_option linter.unusedSimpArgs false
set_option linter.unusedVariables false

/-- The least kind that a text's front comes to; 0: none. -/
def EndL (G : List St) (w : List UInt8) (e : Nat) : Prop := (e = 0 ∧ ∀ q x, Live G w q → G[q]? = some x → x.fin = 0) ∨ (0 < e ∧ (∃ q x, Live G w q ∧ G[q]? = some x ∧ x.fin = e) ∧ ∀ q x, Live G w q → G[q]? = some x → 0 < x.fin → e ≤ x.fin)
/-- The longest of the fronts of so many bytes. -/
def Best (G : List St) (s : List UInt8) (i k n : Nat) (ok : Bool) : Prop := (ok = false ∧ k = 0 ∧ n = 0 ∧ ∀ j, 0 < j → j ≤ i → EndL G (s.take j) 0) ∨ (ok = true ∧ 0 < n ∧ n ≤ i ∧ EndL G (s.take n) (k + 1) ∧ ∀ j, n < j → j ≤ i → EndL G (s.take j) 0)

theorem live_front {G : List St} {u : List UInt8} : ∀ (n : Nat) (v : List UInt8) {q : Nat}, v.length = n → Live G (u ++ v) q → ∃ p, Live G u p
  | 0, v, q, hv, h => by
    have := List.eq_nil_of_length_eq_zero hv
    subst this
    rw [List.append_nil] at h
    exact ⟨q, h⟩
  | n + 1, v, q, hv, h => by
    have hne : v ≠ [] := by intro e; subst e; simp at hv
    rw [← List.dropLast_concat_getLast hne, ← List.append_assoc] at h
    obtain ⟨p, x, h1, _⟩ := live_next.1 h
    exact live_front n v.dropLast (by simp [hv]) h1
theorem zero_bools (n : Nat) : zeroRow [.bool false] n = (List.replicate n false).map AV.bool := by
  refine List.ext_getElem (by simp [zeroRow]) fun i h1 h2 => ?_
  simp [zeroRow, Nat.mod_one]
/-- A new set. -/
theorem mk_bits {K : KH} {h : Heap} {n : Nat} {t : Nat} {zr : List AV} (ht : T t = some ⟨.slc 4, 1, 24, zr, false⟩) (hn : n ≤ 1000000) (k : K.k (.slc (some (h.nxt, 0)) n (some n) 1) (h.add (.cells ((List.replicate n false).map AV.bool) true))) : @OBk (makeSliceA T t (.int .i64 n) (.int .i64 n) h) K := by
  have e : makeSliceA T t (.int .i64 n) (.int .i64 n) h = some (.slc (some (h.nxt, 0)) n (some n) 1, h.add (.cells ((List.replicate n false).map AV.bool) true)) := by
    simp only [makeSliceA, ht, T_4]
    rw [if_pos (by omega), Int.toNat_natCast, Nat.mul_one, zero_bools]
  exact OBk_of e k
theorem bits_new {h : Heap} {n : Nat} : Bits (h.add (.cells ((List.replicate n false).map AV.bool) true)) h.nxt (.slc (some (h.nxt, 0)) n (some n) 1) (List.replicate n false) := ⟨by simp, by simp, get_add_self⟩
theorem has_new {n i : Nat} : ¬ has (List.replicate n false) i := by unfold has; rw [List.getElem?_replicate]; split <;> simp

end Go.Proofs.Ytenpjkinpecnfaa

/-
  Layer nfa: the longest front, told of patterns.
-/
namespace Go.Proofs.Ytenpjkinpecnfaa
open Go Go.Am
set_option maxRecDepth 100000
set_option linter.unusedSimpArgs false
set_option linter.unusedVariables false

/-- A pattern, by its number, has a word. -/
def HasR (es : List Rx) (w : List UInt8) (m : Nat) : Prop := ∃ e, es[m]? = some e ∧ Lang e w
/-- The longest front, and the first pattern that has it. -/
def BestR (es : List Rx) (s : List UInt8) (k n : Nat) (ok : Bool) : Prop :=
  (ok = false ∧ k = 0 ∧ n = 0 ∧ ∀ j, 0 < j → j ≤ s.length → ∀ m, ¬ HasR es (s.take j) m) ∨
  (ok = true ∧ 0 < n ∧ n ≤ s.length ∧ HasR es (s.take n) k ∧ (∀ m, m < k → ¬ HasR es (s.take n) m) ∧ ∀ j, n < j → j ≤ s.length → ∀ m, ¬ HasR es (s.take j) m)

theorem EndL.none {G : List St} {es : List Rx} (A : Auto G es) {w : List UInt8} (h : EndL G w 0) (m : Nat) : ¬ HasR es w m := by
  intro hm
  obtain ⟨n, q, x, W, hx, hf⟩ := A.acc.2 hm
  rcases h with ⟨_, h⟩ | ⟨h, _⟩
  · have := h q x ⟨(List.getElem?_eq_some_iff.1 hx).1, n, W⟩ hx
    omega
  · omega
theorem EndL.some {G : List St} {es : List Rx} (A : Auto G es) {w : List UInt8} {k : Nat} (h : EndL G w (k + 1)) : HasR es w k ∧ ∀ m, m < k → ¬ HasR es w m := by
  rcases h with ⟨h, _⟩ | ⟨_, ⟨q, x, ⟨hq, n, W⟩, hx, hf⟩, h⟩
  · omega
  · refine ⟨A.acc.1 ⟨n, q, x, W, hx, hf⟩, fun m hm h2 => ?_⟩
    obtain ⟨n2, q2, x2, W2, hx2, hf2⟩ := A.acc.2 h2
    have := h q2 x2 ⟨(List.getElem?_eq_some_iff.1 hx2).1, n2, W2⟩ hx2 (by omega)
    omega
theorem Best.patterns {G : List St} {es : List Rx} (A : Auto G es) {s : List UInt8} {k n : Nat} {ok : Bool} (h : Best G s s.length k n ok) : BestR es s k n ok := by
  rcases h with ⟨h1, h2, h3, h4⟩ | ⟨h1, h2, h3, h4, h5⟩
  · exact .inl ⟨h1, h2, h3, fun j j1 j2 => (h4 j j1 j2).none A⟩
  · exact .inr ⟨h1, h2, h3, (h4.some A).1, (h4.some A).2, fun j j1 j2 => (h5 j j1 j2).none A⟩
theorem BestR.unique {es : List Rx} {s : List UInt8} {k n k2 n2 : Nat} {ok ok2 : Bool} (h : BestR es s k n ok) (h2 : BestR es s k2 n2 ok2) : k = k2 ∧ n = n2 ∧ ok = ok2 := by
  rcases h with ⟨rfl, rfl, rfl, h⟩ | ⟨rfl, a1, a2, a3, a4, a5⟩ <;> rcases h2 with ⟨rfl, rfl, rfl, h2⟩ | ⟨rfl, b1, b2, b3, b4, b5⟩
  · exact ⟨rfl, rfl, rfl⟩
  · exact absurd b3 (h _ b1 b2 _)
  · exact absurd a3 (h2 _ a1 a2 _)
  · have e : n = n2 := by
      rcases Nat.lt_trichotomy n n2 with l | l | l
      · exact absurd b3 (a5 _ l b2 _)
      · exact l
      · exact absurd a3 (b5 _ l a2 _)
    subst e
    refine ⟨?_, rfl, rfl⟩
    rcases Nat.lt_trichotomy k k2 with l | l | l
    · exact absurd a3 (b4 _ l)
    · exact l
    · exact absurd b3 (a4 _ l)

/-- A word of a pattern has no byte below 32. -/
theorem Lang.ge {e : Rx} (h : e.ok) : ∀ {w : List UInt8}, Lang e w → ∀ c ∈ w, 32 ≤ c.toNat := by
  induction e with
  | cls l =>
    rintro w ⟨c, rfl, r, hr, h1, h2⟩ d hd
    obtain rfl := List.mem_singleton.1 hd
    have := (h.2 r hr).2.1
    have := UInt8.le_iff_toNat_le.1 h1
    omega
  | bin op x y ix iy =>
    rintro w (⟨_, u, v, rfl, h1, h2⟩ | ⟨_, h1 | h1⟩) d hd
    · rcases List.mem_append.1 hd with hd | hd
      · exact ix h.2.1 h1 d hd
      · exact iy h.2.2 h2 d hd
    · exact ix h.2.1 h1 d hd
    · exact iy h.2.2 h1 d hd
  | rep op x ix =>
    rintro w (⟨rfl, _⟩ | ⟨_, h1⟩ | ⟨_, h1⟩) d hd
    · cases hd
    · exact ix h.2 h1 d hd
    · induction h1 with
      | one h1 => exact ix h.2 h1 d hd
      | more h1 _ ih =>
        rcases List.mem_append.1 hd with hd | hd
        · exact ix h.2 h1 d hd
        · exact ih hd

end Go.Proofs.Ytenpjkinpecnfaa
