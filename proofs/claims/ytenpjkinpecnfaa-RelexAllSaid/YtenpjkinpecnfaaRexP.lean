/-
  Layer rex: patterns, read.
-/
import Derived.Test.YtenpjkinpecnfaaRex
namespace Go.Proofs.Ytenpjkinpecnfaa
open Go Go.Am
set_option maxRecDepth 100000
set_option maxHeartbeats 4000000
set_option linter.unusedSimpArgs false
set_option linter.unusedVariables false

abbrev Res := Option (List Item × List UInt8)
def meta1 : List UInt8 := [40, 41, 91, 93, 124, 42, 43, 63, 46, 92]
/-- An atom; sub: what is in brackets, if these may be. -/
def atomP (sub : Option (List UInt8 → Res)) (r : List UInt8) : Res :=
  if nx r = 40 then (match sub with
    | none => none
    | some p => match p r.tail with
      | none => none
      | some (l, r1) => if nx r1 = 41 then some (l, r1.tail) else none)
  else if nx r = 91 then cls r.tail
  else if nx r = 46 then some ([⟨1, [⟨32, 126⟩]⟩], r.tail)
  else match sign meta1 r with
    | none => none
    | some (c, r1) => some ([⟨1, [⟨c, c⟩]⟩], r1)
/-- How often an atom is. -/
def posts : List UInt8 → List Item × List UInt8
  | [] => ([], [])
  | c :: r => if c = 42 then (⟨4, []⟩ :: (posts r).1, (posts r).2) else if c = 43 then (⟨5, []⟩ :: (posts r).1, (posts r).2) else if c = 63 then (⟨6, []⟩ :: (posts r).1, (posts r).2) else ([], c :: r)
def manyP (sub : Option (List UInt8 → Res)) (r : List UInt8) : Res := match atomP sub r with
  | none => none
  | some (l, r1) => some (l ++ (posts r1).1, (posts r1).2)
def rowL (m : List UInt8 → Res) : Nat → List UInt8 → Res
  | 0, _ => none
  | n + 1, r => if r = [] ∨ nx r = 124 ∨ nx r = 41 then some ([], r) else match m r with
    | none => none
    | some (l, r1) => match rowL m n r1 with
      | none => none
      | some (l2, r2) => some (l ++ ⟨2, []⟩ :: l2, r2)
def rowP (sub : Option (List UInt8 → Res)) (r : List UInt8) : Res := match manyP sub r with
  | none => none
  | some (l, r1) => match rowL (manyP sub) (r1.length + 1) r1 with
    | none => none
    | some (l2, r2) => some (l ++ l2, r2)
def altL (m : List UInt8 → Res) : Nat → List UInt8 → Res
  | 0, _ => none
  | n + 1, r => if nx r = 124 then (match m r.tail with
    | none => none
    | some (l, r1) => match altL m n r1 with
      | none => none
      | some (l2, r2) => some (l ++ ⟨3, []⟩ :: l2, r2)) else some ([], r)
def patP (sub : Option (List UInt8 → Res)) (r : List UInt8) : Res := match rowP sub r with
  | none => none
  | some (l, r1) => match altL (rowP sub) (r1.length + 1) r1 with
    | none => none
    | some (l2, r2) => some (l ++ l2, r2)
/-- A pattern, in which brackets may stand so deep. -/
def pat : Nat → List UInt8 → Res
  | 0 => patP none
  | d + 1 => patP (some (pat d))
def parse (s : List UInt8) : Option (List Item) := if s.length < 1 ∨ 24 < s.length then none else match pat 12 s with
  | some (l, []) => some l
  | _ => none

/-- What is read is longer than what is made, by half. -/
def Shr (p : List UInt8 → Res) : Prop := ∀ {r l r'}, p r = some (l, r') → l.length + 2 * r'.length + 1 ≤ 2 * r.length
theorem tail_len {r : List UInt8} (h : r ≠ []) : r.tail.length + 1 = r.length := by cases r; exact absurd rfl h; rfl
theorem nx_ne {r : List UInt8} {c : UInt8} (h : nx r = c) (hc : c ≠ 0) : r ≠ [] := by rintro rfl; exact hc h.symm

theorem posts_len : ∀ r : List UInt8, (posts r).1.length + 2 * (posts r).2.length ≤ 2 * r.length
  | [] => by simp [posts]
  | c :: r => by
    have := posts_len r
    rw [posts]
    split
    · simp; omega
    · split
      · simp; omega
      · split
        · simp; omega
        · simp
theorem shr_cls {r r' : List UInt8} {l : List Item} (e : cls r = some (l, r')) : l.length + 2 * r'.length + 1 ≤ 2 * r.length := by
  unfold cls at e
  split at e
  · cases e
  · rename_i l1 r1 h
    have h2 := rngs_end h
    split at e
    · rename_i hl
      simp only [Option.some.injEq, Prod.mk.injEq] at e
      obtain ⟨rfl, rfl⟩ := e
      have := tail_len (nx_ne h2.1 (by decide))
      have := List.length_pos_iff.2 hl
      simp; omega
    · cases e
theorem shr_atom {sub : Option (List UInt8 → Res)} (hs : ∀ p, sub = some p → Shr p) : Shr (atomP sub) := by
  intro r l r' e
  unfold atomP at e
  split at e
  · rename_i h40
    have := tail_len (nx_ne h40 (by decide))
    split at e
    · cases e
    · rename_i p
      split at e
      · cases e
      · rename_i l1 r1 h1
        have := hs p rfl h1
        split at e
        · simp only [Option.some.injEq, Prod.mk.injEq] at e
          obtain ⟨rfl, rfl⟩ := e
          simp; omega
        · cases e
  · split at e
    · rename_i h91
      have := tail_len (nx_ne h91 (by decide))
      have := shr_cls e
      omega
    · split at e
      · rename_i h46
        have := tail_len (nx_ne h46 (by decide))
        simp only [Option.some.injEq, Prod.mk.injEq] at e
        obtain ⟨rfl, rfl⟩ := e
        simp; omega
      · split at e
        · cases e
        · rename_i c r1 h1
          have := sign_len h1
          simp only [Option.some.injEq, Prod.mk.injEq] at e
          obtain ⟨rfl, rfl⟩ := e
          simp; omega
theorem shr_many {sub : Option (List UInt8 → Res)} (hs : ∀ p, sub = some p → Shr p) : Shr (manyP sub) := by
  intro r l r' e
  unfold manyP at e
  split at e
  · cases e
  · rename_i l1 r1 h1
    have := shr_atom hs h1
    have := posts_len r1
    simp only [Option.some.injEq, Prod.mk.injEq] at e
    obtain ⟨rfl, rfl⟩ := e
    simp; omega
theorem shr_rowL {m : List UInt8 → Res} (hm : Shr m) : ∀ {n : Nat} {r r' : List UInt8} {l : List Item}, rowL m n r = some (l, r') → l.length + 2 * r'.length ≤ 2 * r.length
  | 0, _, _, _, e => by simp [rowL] at e
  | n + 1, r, r', l, e => by
    rw [rowL] at e
    split at e
    · simp only [Option.some.injEq, Prod.mk.injEq] at e
      obtain ⟨rfl, rfl⟩ := e; simp
    · split at e
      · cases e
      · rename_i l1 r1 h1
        have := hm h1
        split at e
        · cases e
        · rename_i l2 r2 h2
          have := shr_rowL hm h2
          simp only [Option.some.injEq, Prod.mk.injEq] at e
          obtain ⟨rfl, rfl⟩ := e
          simp; omega
theorem shr_row {sub : Option (List UInt8 → Res)} (hs : ∀ p, sub = some p → Shr p) : Shr (rowP sub) := by
  intro r l r' e
  unfold rowP at e
  split at e
  · cases e
  · rename_i l1 r1 h1
    have := shr_many hs h1
    split at e
    · cases e
    · rename_i l2 r2 h2
      have := shr_rowL (shr_many hs) h2
      simp only [Option.some.injEq, Prod.mk.injEq] at e
      obtain ⟨rfl, rfl⟩ := e
      simp; omega
theorem shr_altL {m : List UInt8 → Res} (hm : Shr m) : ∀ {n : Nat} {r r' : List UInt8} {l : List Item}, altL m n r = some (l, r') → l.length + 2 * r'.length ≤ 2 * r.length
  | 0, _, _, _, e => by simp [altL] at e
  | n + 1, r, r', l, e => by
    rw [altL] at e
    split at e
    · rename_i h124
      have := tail_len (nx_ne h124 (by decide))
      split at e
      · cases e
      · rename_i l1 r1 h1
        have := hm h1
        split at e
        · cases e
        · rename_i l2 r2 h2
          have := shr_altL hm h2
          simp only [Option.some.injEq, Prod.mk.injEq] at e
          obtain ⟨rfl, rfl⟩ := e
          simp; omega
    · simp only [Option.some.injEq, Prod.mk.injEq] at e
      obtain ⟨rfl, rfl⟩ := e; simp
theorem shr_pat {sub : Option (List UInt8 → Res)} (hs : ∀ p, sub = some p → Shr p) : Shr (patP sub) := by
  intro r l r' e
  unfold patP at e
  split at e
  · cases e
  · rename_i l1 r1 h1
    have := shr_row hs h1
    split at e
    · cases e
    · rename_i l2 r2 h2
      have := shr_altL (shr_row hs) h2
      simp only [Option.some.injEq, Prod.mk.injEq] at e
      obtain ⟨rfl, rfl⟩ := e
      simp; omega
theorem shr_pats : ∀ d, Shr (pat d)
  | 0 => shr_pat (by simp)
  | d + 1 => shr_pat fun p e => by simp only [Option.some.injEq] at e; subst e; exact shr_pats d

/-- What holds of all items that are read. -/
def Few_ (N : Nat) (p : List UInt8 → Res) : Prop := ∀ {r l r'}, r.length ≤ N → p r = some (l, r') → (∀ x ∈ l, x.l.length ≤ N ∧ 1 ≤ x.op ∧ x.op ≤ 6) ∧ r'.length ≤ N
theorem few_posts {N : Nat} (hN : 1 ≤ N) : ∀ r : List UInt8, r.length ≤ N → (∀ x ∈ (posts r).1, x.l.length ≤ N ∧ 1 ≤ x.op ∧ x.op ≤ 6) ∧ (posts r).2.length ≤ N
  | [], _ => by simp [posts]
  | c :: r, h => by
    have ih := few_posts hN r (by simp at h; omega)
    rw [posts]
    split
    · exact ⟨fun x hx => by rcases List.mem_cons.1 hx with rfl | hx; simp; exact ih.1 x hx, ih.2⟩
    · split
      · exact ⟨fun x hx => by rcases List.mem_cons.1 hx with rfl | hx; simp; exact ih.1 x hx, ih.2⟩
      · split
        · exact ⟨fun x hx => by rcases List.mem_cons.1 hx with rfl | hx; simp; exact ih.1 x hx, ih.2⟩
        · exact ⟨by simp, h⟩
theorem few_one {N : Nat} {op : Int} {l : List Rng} (h1 : l.length ≤ N) (h2 : 1 ≤ op ∧ op ≤ 6) : ∀ x ∈ [(⟨op, l⟩ : Item)], x.l.length ≤ N ∧ 1 ≤ x.op ∧ x.op ≤ 6 := by
  intro x hx; simp only [List.mem_singleton] at hx; subst hx; exact ⟨h1, h2⟩
theorem few_app {N : Nat} {a b : List Item} (ha : ∀ x ∈ a, x.l.length ≤ N ∧ 1 ≤ x.op ∧ x.op ≤ 6) (hb : ∀ x ∈ b, x.l.length ≤ N ∧ 1 ≤ x.op ∧ x.op ≤ 6) : ∀ x ∈ a ++ b, x.l.length ≤ N ∧ 1 ≤ x.op ∧ x.op ≤ 6 :=
  fun x hx => (List.mem_append.1 hx).elim (ha x) (hb x)
theorem few_atom {N : Nat} (hN : 1 ≤ N) {sub : Option (List UInt8 → Res)} (hs : ∀ p, sub = some p → Few_ N p) : Few_ N (atomP sub) := by
  intro r l r' hr e
  have tl : r.tail.length ≤ N := by simp; omega
  unfold atomP at e
  split at e
  · split at e
    · cases e
    · rename_i p
      split at e
      · cases e
      · rename_i l1 r1 h1
        have := hs p rfl tl h1
        split at e
        · simp only [Option.some.injEq, Prod.mk.injEq] at e
          obtain ⟨rfl, rfl⟩ := e
          exact ⟨this.1, by have := this.2; simp; omega⟩
        · cases e
  · split at e
    · unfold cls at e
      split at e
      · cases e
      · rename_i l1 r1 h
        have h2 := rngs_end h
        split at e
        · simp only [Option.some.injEq, Prod.mk.injEq] at e
          obtain ⟨rfl, rfl⟩ := e
          exact ⟨few_one (by omega) (by decide), by simp; omega⟩
        · cases e
    · split at e
      · simp only [Option.some.injEq, Prod.mk.injEq] at e
        obtain ⟨rfl, rfl⟩ := e
        exact ⟨few_one (by simpa using hN) (by decide), tl⟩
      · split at e
        · cases e
        · rename_i c r1 h1
          have := sign_len h1
          simp only [Option.some.injEq, Prod.mk.injEq] at e
          obtain ⟨rfl, rfl⟩ := e
          exact ⟨few_one (by simpa using hN) (by decide), by omega⟩
theorem few_many {N : Nat} (hN : 1 ≤ N) {sub : Option (List UInt8 → Res)} (hs : ∀ p, sub = some p → Few_ N p) : Few_ N (manyP sub) := by
  intro r l r' hr e
  unfold manyP at e
  split at e
  · cases e
  · rename_i l1 r1 h1
    have h2 := few_atom hN hs hr h1
    have h3 := few_posts hN r1 h2.2
    simp only [Option.some.injEq, Prod.mk.injEq] at e
    obtain ⟨rfl, rfl⟩ := e
    exact ⟨few_app h2.1 h3.1, h3.2⟩
theorem few_rowL {N : Nat} {m : List UInt8 → Res} (hm : Few_ N m) : ∀ {n : Nat} {r r' : List UInt8} {l : List Item}, r.length ≤ N → rowL m n r = some (l, r') → (∀ x ∈ l, x.l.length ≤ N ∧ 1 ≤ x.op ∧ x.op ≤ 6) ∧ r'.length ≤ N
  | 0, _, _, _, _, e => by simp [rowL] at e
  | n + 1, r, r', l, hr, e => by
    rw [rowL] at e
    split at e
    · simp only [Option.some.injEq, Prod.mk.injEq] at e
      obtain ⟨rfl, rfl⟩ := e; exact ⟨by simp, hr⟩
    · split at e
      · cases e
      · rename_i l1 r1 h1
        have h2 := hm hr h1
        split at e
        · cases e
        · rename_i l2 r2 h3
          have h4 := few_rowL hm h2.2 h3
          simp only [Option.some.injEq, Prod.mk.injEq] at e
          obtain ⟨rfl, rfl⟩ := e
          exact ⟨few_app h2.1 (few_app (a := [⟨2, []⟩]) (few_one (by simp) (by decide)) h4.1), h4.2⟩
theorem few_row {N : Nat} (hN : 1 ≤ N) {sub : Option (List UInt8 → Res)} (hs : ∀ p, sub = some p → Few_ N p) : Few_ N (rowP sub) := by
  intro r l r' hr e
  unfold rowP at e
  split at e
  · cases e
  · rename_i l1 r1 h1
    have h2 := few_many hN hs hr h1
    split at e
    · cases e
    · rename_i l2 r2 h3
      have h4 := few_rowL (few_many hN hs) h2.2 h3
      simp only [Option.some.injEq, Prod.mk.injEq] at e
      obtain ⟨rfl, rfl⟩ := e
      exact ⟨few_app h2.1 h4.1, h4.2⟩
theorem few_altL {N : Nat} {m : List UInt8 → Res} (hm : Few_ N m) : ∀ {n : Nat} {r r' : List UInt8} {l : List Item}, r.length ≤ N → altL m n r = some (l, r') → (∀ x ∈ l, x.l.length ≤ N ∧ 1 ≤ x.op ∧ x.op ≤ 6) ∧ r'.length ≤ N
  | 0, _, _, _, _, e => by simp [altL] at e
  | n + 1, r, r', l, hr, e => by
    rw [altL] at e
    split at e
    · split at e
      · cases e
      · rename_i l1 r1 h1
        have h2 := hm (by simp; omega) h1
        split at e
        · cases e
        · rename_i l2 r2 h3
          have h4 := few_altL hm h2.2 h3
          simp only [Option.some.injEq, Prod.mk.injEq] at e
          obtain ⟨rfl, rfl⟩ := e
          exact ⟨few_app h2.1 (few_app (a := [⟨3, []⟩]) (few_one (by simp) (by decide)) h4.1), h4.2⟩
    · simp only [Option.some.injEq, Prod.mk.injEq] at e
      obtain ⟨rfl, rfl⟩ := e; exact ⟨by simp, hr⟩
theorem few_pat {N : Nat} (hN : 1 ≤ N) {sub : Option (List UInt8 → Res)} (hs : ∀ p, sub = some p → Few_ N p) : Few_ N (patP sub) := by
  intro r l r' hr e
  unfold patP at e
  split at e
  · cases e
  · rename_i l1 r1 h1
    have h2 := few_row hN hs hr h1
    split at e
    · cases e
    · rename_i l2 r2 h3
      have h4 := few_altL (few_row hN hs) h2.2 h3
      simp only [Option.some.injEq, Prod.mk.injEq] at e
      obtain ⟨rfl, rfl⟩ := e
      exact ⟨few_app h2.1 h4.1, h4.2⟩
theorem few_pats {N : Nat} (hN : 1 ≤ N) : ∀ d, Few_ N (pat d)
  | 0 => few_pat hN (by simp)
  | d + 1 => few_pat hN fun p e => by simp only [Option.some.injEq] at e; subst e; exact few_pats hN d
theorem parse_few {s : List UInt8} {l : List Item} (e : parse s = some l) : l.length ≤ 48 ∧ (∀ x ∈ l, x.l.length ≤ 24 ∧ 1 ≤ x.op ∧ x.op ≤ 6) ∧ 1 ≤ s.length ∧ s.length ≤ 24 := by
  unfold parse at e
  split at e
  · cases e
  · rename_i h
    split at e
    · rename_i l1 h1
      simp only [Option.some.injEq] at e
      subst e
      have := shr_pats 12 h1
      exact ⟨by simp at this; omega, (few_pats (N := 24) (by omega) 12 (by omega) h1).1, by omega, by omega⟩
    · cases e

/-- A reader's function does what a parser does. -/
def Does (f : Nat) (ex : List AV) (p : List UInt8 → Res) : Prop := ∀ {h : Heap} {k : Nat} {s r : List UInt8} {xs : List Item}, RdO h k s r xs → s.length ≤ 1000 → xs.length + 2 * r.length ≤ 10000 →
  UF T F f (.ptr (some (k, 0)) :: ex) h fun v' h' => Upd (k ≤ ·) h h' ∧ match p r with
    | some (l, r') => v' = .bool true ∧ RdO h' k s r' (xs ++ l)
    | none => v' = .bool false

theorem takes_ro {h : Heap} {k : Nat} {s r : List UInt8} {xs : List Item} {c : UInt8} (R : RdO h k s r xs) (hs : s.length ≤ 1000) (hc : c ≠ 0) :
    UF T F 70 [.ptr (some (k, 0)), .int .u8 c.toNat] h fun v' h' => v' = .bool (decide (nx r = c)) ∧ RdO h' k s (if nx r = c then r.tail else r) xs ∧ Upd (k ≤ ·) h h' := by
  obtain ⟨v, R, L⟩ := R
  exact (takes_uf R hs hc).mono fun v1 h1 ⟨a, b, c⟩ => ⟨a, RdO.upd b L c, c.weak fun b _ e => by omega⟩
theorem puts_ro {h : Heap} {k : Nat} {s r : List UInt8} {xs : List Item} {op : Int} {lv : AV} {l : List Rng} (R : RdO h k s r xs) (hl : Lst h lv l) (hx : xs.length ≤ 1000000) :
    UF T F 71 [.ptr (some (k, 0)), .int .i64 op, lv] h fun v' h' => v' = .tup [] ∧ Upd (k ≤ ·) h h' ∧ RdO h' k s r (xs ++ [⟨op, l⟩]) := by
  obtain ⟨v, R, L⟩ := R
  exact (puts_uf R L hl hx).mono fun v1 h1 ⟨a, b, v2, c, d, _⟩ => ⟨a, b.weak fun b _ e => by
    rcases e with rfl | e
    · exact Nat.le_refl _
    · have := L.blk e; omega, v2, c, d⟩
theorem sign_ro {h : Heap} {k : Nat} {s r but : List UInt8} {xs : List Item} (R : RdO h k s r xs) (hs : s.length ≤ 1000) :
    UF T F 91 [.ptr (some (k, 0)), .str but] h fun v' h' => Upd (k ≤ ·) h h' ∧
      match sign but r with
      | some (c, r') => v' = .tup [.int .u8 c.toNat, .bool true] ∧ RdO h' k s r' xs
      | none => v' = .tup [.int .u8 0, .bool false] ∧ ∃ r', RdO h' k s r' xs := by
  obtain ⟨v, R, L⟩ := R
  refine (sign_uf R hs).mono fun v1 h1 ⟨u, m⟩ => ⟨u.weak fun b _ e => by omega, ?_⟩
  cases hc : sign but r with
  | none => rw [hc] at m; obtain ⟨a, r', b⟩ := m; exact ⟨a, r', RdO.upd b L u⟩
  | some p => obtain ⟨c, r'⟩ := p; rw [hc] at m; exact ⟨m.1, RdO.upd m.2 L u⟩

theorem class_does : Does 90 [] cls := fun R hs hx => class_uf' R hs (by omega)

theorem atom_does {sub : Option (List UInt8 → Res)} {D : Int} (hD : 0 ≤ D ∧ D ≤ 12) (h1 : D < 12 → ∃ p, sub = some p ∧ Does 50 [.int .i64 (D + 1)] p ∧ Shr p) (h2 : ¬ D < 12 → sub = none) : Does 87 [.int .i64 D] (atomP sub) := by
  intro h k s r xs R hs hx
  refine UF.gen fun Q hQ => UF.of (F_87) (c := _) rfl ?_
  unfold Try.f87
  simp only [List.length, Nat.reduceSub, Nat.reduceAdd, List.replicate, List.cons_append, List.nil_append]
  simp (disch := first | ((try simp only [heapN]) <;> omega) | fail) only [go_sem, seval]
  refine callV_ofU F_70 rfl ((takes_ro (c := 40) R hs (by decide)).mono ?_)
  rintro v1 h1' ⟨rfl, R1, u1⟩
  simp (disch := first | ((try simp only [heapN]) <;> omega) | fail) only [go_sem, seval]
  by_cases c40 : nx r = 40
  · rw [if_pos c40] at R1
    have t40 := tail_len (nx_ne c40 (by decide))
    by_cases hlt : D < 12
    · obtain ⟨p, rfl, dp, sp⟩ := h1 hlt
      simp (disch := first | ((try simp only [heapN]) <;> omega) | fail) only [go_sem, seval, c40, hlt]
      refine callV_ofU F_50 rfl ((dp R1 hs (by omega)).mono ?_)
      rintro v2 h2' ⟨u2, m2⟩
      simp (disch := first | ((try simp only [heapN]) <;> omega) | fail) only [go_sem, seval]
      have u12 := u1.trans u2
      cases hp : p r.tail with
      | none =>
        rw [hp] at m2
        subst m2
        simp (disch := first | ((try simp only [heapN]) <;> omega) | fail) only [go_sem, seval]
        exact hQ _ _ ⟨u12, by simp only [atomP, c40, if_true, hp]⟩
      | some q =>
        obtain ⟨l, r2⟩ := q
        rw [hp] at m2
        obtain ⟨rfl, R2⟩ := m2
        simp (disch := first | ((try simp only [heapN]) <;> omega) | fail) only [go_sem, seval]
        refine callV_ofU F_70 rfl ((takes_ro (c := 41) R2 hs (by decide)).mono ?_)
        rintro v3 h3' ⟨rfl, R3, u3⟩
        simp (disch := first | ((try simp only [heapN]) <;> omega) | fail) only [go_sem, seval]
        by_cases c41 : nx r2 = 41
        · rw [if_pos c41] at R3
          simp (disch := first | ((try simp only [heapN]) <;> omega) | fail) only [go_sem, seval, c41]
          have e : atomP (some p) r = some (l, r2.tail) := by simp only [atomP, c40, if_true, hp, c41]
          exact hQ _ _ ⟨u12.trans u3, by rw [e]; exact ⟨rfl, R3⟩⟩
        · simp (disch := first | ((try simp only [heapN]) <;> omega) | fail) only [go_sem, seval, c41]
          exact hQ _ _ ⟨u12.trans u3, by simp only [atomP, c40, if_true, hp, c41, if_false]⟩
    · have := h2 hlt
      subst this
      simp (disch := first | ((try simp only [heapN]) <;> omega) | fail) only [go_sem, seval, c40, hlt]
      exact hQ _ _ ⟨u1, by simp only [atomP, c40, if_true]⟩
  rw [if_neg c40] at R1
  simp (disch := first | ((try simp only [heapN]) <;> omega) | fail) only [go_sem, seval, c40]
  refine callV_ofU F_70 rfl ((takes_ro (c := 91) R1 hs (by decide)).mono ?_)
  rintro v2 h2' ⟨rfl, R2, u2⟩
  simp (disch := first | ((try simp only [heapN]) <;> omega) | fail) only [go_sem, seval]
  have u12 := u1.trans u2
  by_cases c91 : nx r = 91
  · rw [if_pos c91] at R2
    have t91 := tail_len (nx_ne c91 (by decide))
    simp (disch := first | ((try simp only [heapN]) <;> omega) | fail) only [go_sem, seval, c91]
    refine callV_ofU F_90 rfl ((class_does R2 hs (by omega)).mono ?_)
    rintro v3 h3' ⟨u3, m3⟩
    simp (disch := first | ((try simp only [heapN]) <;> omega) | fail) only [go_sem, seval]
    refine hQ _ _ ⟨u12.trans u3, ?_⟩
    simp only [atomP, if_neg c40, if_pos c91]
    exact m3
  rw [if_neg c91] at R2
  simp (disch := first | ((try simp only [heapN]) <;> omega) | fail) only [go_sem, seval, c91]
  refine callV_ofU F_70 rfl ((takes_ro (c := 46) R2 hs (by decide)).mono ?_)
  rintro v3 h3' ⟨rfl, R3, u3⟩
  simp (disch := first | ((try simp only [heapN]) <;> omega) | fail) only [go_sem, seval]
  have u13 := u12.trans u3
  by_cases c46 : nx r = 46
  · rw [if_pos c46] at R3
    simp (disch := first | ((try simp only [heapN]) <;> omega) | fail) only [go_sem, seval, c46]
    obtain ⟨Y, leY, eY, nY, lY⟩ := litF (h := h3') (cs := [.int .u8 32, .int .u8 126]) (xs := [(⟨32, 126⟩ : Rng)]) (ls := [[.int .u8 32, .int .u8 126]]) (n := 1) (z := 2) rfl (Reps.one rfl) rfl rfl
    refine callV_ofU F_71 rfl (UF.less leY ((puts_ro (R3.ext eY) lY (by omega)).mono ?_))
    rintro v4 h4' ⟨rfl, u4, R4⟩
    simp (disch := first | ((try simp only [heapN]) <;> omega) | fail) only [go_sem, seval]
    have e : atomP sub r = some ([⟨1, [⟨32, 126⟩]⟩], r.tail) := by simp only [atomP, if_neg c40, if_neg c91, if_pos c46]
    exact hQ _ _ ⟨u13.trans ((eY.upd _).trans u4), by rw [e]; exact ⟨rfl, R4⟩⟩
  rw [if_neg c46] at R3
  simp (disch := first | ((try simp only [heapN]) <;> omega) | fail) only [go_sem, seval, c46]
  refine callV_ofU F_91 rfl ((sign_ro (but := meta1) R3 hs).mono ?_)
  rintro v4 h4' ⟨u4, m4⟩
  simp (disch := first | ((try simp only [heapN]) <;> omega) | fail) only [go_sem, seval]
  have u14 := u13.trans u4
  cases hsg : sign meta1 r with
  | none =>
    rw [hsg] at m4
    obtain ⟨rfl, r', R4⟩ := m4
    simp (disch := first | ((try simp only [heapN]) <;> omega) | fail) only [go_sem, seval]
    obtain ⟨Y, leY, eY, nY, lY⟩ := litF (h := h4') (cs := [.int .u8 0, .int .u8 0]) (xs := [(⟨0, 0⟩ : Rng)]) (ls := [[.int .u8 0, .int .u8 0]]) (n := 1) (z := 2) rfl (Reps.one rfl) rfl rfl
    refine callV_ofU F_71 rfl (UF.less leY ((puts_ro (R4.ext eY) lY (by omega)).mono ?_))
    rintro v5 h5' ⟨rfl, u5, R5⟩
    simp (disch := first | ((try simp only [heapN]) <;> omega) | fail) only [go_sem, seval]
    have e : atomP sub r = none := by simp only [atomP, if_neg c40, if_neg c91, if_neg c46, hsg]
    exact hQ _ _ ⟨u14.trans ((eY.upd _).trans u5), by rw [e]⟩
  | some p =>
    obtain ⟨c, r'⟩ := p
    rw [hsg] at m4
    obtain ⟨rfl, R4⟩ := m4
    simp (disch := first | ((try simp only [heapN]) <;> omega) | fail) only [go_sem, seval]
    obtain ⟨Y, leY, eY, nY, lY⟩ := litF (h := h4') (cs := [.int .u8 c.toNat, .int .u8 c.toNat]) (xs := [(⟨c, c⟩ : Rng)]) (ls := [[.int .u8 c.toNat, .int .u8 c.toNat]]) (n := 1) (z := 2) rfl (Reps.one rfl) rfl rfl
    refine callV_ofU F_71 rfl (UF.less leY ((puts_ro (R4.ext eY) lY (by omega)).mono ?_))
    rintro v5 h5' ⟨rfl, u5, R5⟩
    simp (disch := first | ((try simp only [heapN]) <;> omega) | fail) only [go_sem, seval]
    have e : atomP sub r = some ([⟨1, [⟨c, c⟩]⟩], r') := by simp only [atomP, if_neg c40, if_neg c91, if_neg c46, hsg]
    exact hQ _ _ ⟨u14.trans ((eY.upd _).trans u5), by rw [e]; exact ⟨rfl, R5⟩⟩

theorem posts_at {r : List UInt8} : posts r = if nx r = 42 then (⟨4, []⟩ :: (posts r.tail).1, (posts r.tail).2) else if nx r = 43 then (⟨5, []⟩ :: (posts r.tail).1, (posts r.tail).2) else if nx r = 63 then (⟨6, []⟩ :: (posts r.tail).1, (posts r.tail).2) else ([], r) := by
  cases r with
  | nil => rfl
  | cons c r => rw [posts]; rfl

theorem many_does {sub : Option (List UInt8 → Res)} {D : Int} (hD : 0 ≤ D ∧ D ≤ 12) (hs' : ∀ p, sub = some p → Shr p) (da : Does 87 [.int .i64 D] (atomP sub)) : Does 81 [.int .i64 D] (manyP sub) := by
  intro h k s r xs R hs hx
  refine UF.gen fun Q hQ => UF.of (F_81) (c := _) rfl ?_
  unfold Try.f81
  simp only [List.length, Nat.reduceSub, Nat.reduceAdd, List.replicate, List.cons_append, List.nil_append]
  simp (disch := first | ((try simp only [heapN]) <;> omega) | fail) only [go_sem, seval]
  refine callV_ofU F_87 rfl ((da R hs hx).mono ?_)
  rintro v1 h1 ⟨u1, m1⟩
  simp (disch := first | ((try simp only [heapN]) <;> omega) | fail) only [go_sem, seval]
  cases ha : atomP sub r with
  | none =>
    rw [ha] at m1
    subst m1
    simp (disch := first | ((try simp only [heapN]) <;> omega) | fail) only [go_sem, seval]
    exact hQ _ _ ⟨u1, by simp only [manyP, ha]⟩
  | some q =>
    obtain ⟨l, r1⟩ := q
    rw [ha] at m1
    obtain ⟨rfl, R1⟩ := m1
    have sh := shr_atom hs' ha
    simp (disch := first | ((try simp only [heapN]) <;> omega) | fail) only [go_sem, seval]
    refine LoopU_while (fun m st hh => ∃ r2 ys, RdO hh k s r2 (xs ++ ys) ∧ Upd (k ≤ ·) h hh ∧ m = r2.length ∧ (xs ++ ys).length + 2 * r2.length ≤ 10000 ∧ (l ++ (posts r1).1, (posts r1).2) = (ys ++ (posts r2).1, (posts r2).2) ∧ Keep st 24 [(0, .ptr (some (k, 0)))]) r1.length
      ⟨r1, l, R1, u1, rfl, by simp; omega, rfl, rfl, by simp [Has]⟩ ?_
    rintro m st hh ⟨r2, ys, R2, u2, rfl, hl, he, hk⟩
    rw [hk.eq]
    obtain ⟨k0, -⟩ := hk.2
    simp only [slotsFrom, Nat.reduceAdd] at k0 ⊢
    simp only [k0]
    simp (disch := first | ((try simp only [heapN]) <;> omega) | fail) only [go_sem, seval]
    refine callV_ofU F_70 rfl ((takes_ro (c := 42) R2 hs (by decide)).mono ?_)
    rintro v3 h3 ⟨rfl, R3, u3⟩
    simp (disch := first | ((try simp only [heapN]) <;> omega) | fail) only [go_sem, seval]
    have u23 := u2.trans u3
    rw [posts_at (r := r2)] at he
    by_cases c42 : nx r2 = 42
    · rw [if_pos c42] at R3
      have t := tail_len (nx_ne c42 (by decide))
      simp (disch := first | ((try simp only [heapN]) <;> omega) | fail) only [go_sem, seval, c42]
      refine callV_ofU F_71 rfl ((puts_ro R3 Lst.nil (by omega)).mono ?_)
      rintro v4 h4 ⟨rfl, u4, R4⟩
      simp (disch := first | ((try simp only [heapN]) <;> omega) | fail) only [go_sem, seval]
      rw [if_pos c42] at he
      rw [List.append_assoc] at R4
      exact AgainK.mk r2.tail.length (by simp only; omega) ⟨r2.tail, ys ++ [⟨4, []⟩], R4, u23.trans u4, rfl, by simp at hl ⊢; omega, by rw [he]; simp, rfl, by simp [Has]⟩
    rw [if_neg c42] at R3 he
    simp (disch := first | ((try simp only [heapN]) <;> omega) | fail) only [go_sem, seval, c42]
    refine callV_ofU F_70 rfl ((takes_ro (c := 43) R3 hs (by decide)).mono ?_)
    rintro v4 h4 ⟨rfl, R4, u4⟩
    simp (disch := first | ((try simp only [heapN]) <;> omega) | fail) only [go_sem, seval]
    have u24 := u23.trans u4
    by_cases c43 : nx r2 = 43
    · rw [if_pos c43] at R4
      have t := tail_len (nx_ne c43 (by decide))
      simp (disch := first | ((try simp only [heapN]) <;> omega) | fail) only [go_sem, seval, c43]
      refine callV_ofU F_71 rfl ((puts_ro R4 Lst.nil (by omega)).mono ?_)
      rintro v5 h5 ⟨rfl, u5, R5⟩
      simp (disch := first | ((try simp only [heapN]) <;> omega) | fail) only [go_sem, seval]
      rw [if_pos c43] at he
      rw [List.append_assoc] at R5
      exact AgainK.mk r2.tail.length (by simp only; omega) ⟨r2.tail, ys ++ [⟨5, []⟩], R5, u24.trans u5, rfl, by simp at hl ⊢; omega, by rw [he]; simp, rfl, by simp [Has]⟩
    rw [if_neg c43] at R4 he
    simp (disch := first | ((try simp only [heapN]) <;> omega) | fail) only [go_sem, seval, c43]
    refine callV_ofU F_70 rfl ((takes_ro (c := 63) R4 hs (by decide)).mono ?_)
    rintro v5 h5 ⟨rfl, R5, u5⟩
    simp (disch := first | ((try simp only [heapN]) <;> omega) | fail) only [go_sem, seval]
    have u25 := u24.trans u5
    by_cases c63 : nx r2 = 63
    · rw [if_pos c63] at R5
      have t := tail_len (nx_ne c63 (by decide))
      simp (disch := first | ((try simp only [heapN]) <;> omega) | fail) only [go_sem, seval, c63]
      refine callV_ofU F_71 rfl ((puts_ro R5 Lst.nil (by omega)).mono ?_)
      rintro v6 h6 ⟨rfl, u6, R6⟩
      simp (disch := first | ((try simp only [heapN]) <;> omega) | fail) only [go_sem, seval]
      rw [if_pos c63] at he
      rw [List.append_assoc] at R6
      exact AgainK.mk r2.tail.length (by simp only; omega) ⟨r2.tail, ys ++ [⟨6, []⟩], R6, u25.trans u6, rfl, by simp at hl ⊢; omega, by rw [he]; simp, rfl, by simp [Has]⟩
    rw [if_neg c63] at R5 he
    simp (disch := first | ((try simp only [heapN]) <;> omega) | fail) only [go_sem, seval, c63]
    refine hQ _ _ ⟨u25, ?_⟩
    simp only [List.append_nil, Prod.mk.injEq] at he
    simp only [manyP, ha, he.1, he.2]
    exact ⟨trivial, R5⟩

theorem row_does {sub : Option (List UInt8 → Res)} {D : Int} (hD : 0 ≤ D ∧ D ≤ 12) (hs' : ∀ p, sub = some p → Shr p) (dm : Does 81 [.int .i64 D] (manyP sub)) : Does 69 [.int .i64 D] (rowP sub) := by
  intro h k s r xs R hs hx
  refine UF.gen fun Q hQ => UF.of (F_69) (c := _) rfl ?_
  unfold Try.f69
  simp only [List.length, Nat.reduceSub, Nat.reduceAdd, List.replicate, List.cons_append, List.nil_append]
  simp (disch := first | ((try simp only [heapN]) <;> omega) | fail) only [go_sem, seval]
  refine callV_ofU F_81 rfl ((dm R hs hx).mono ?_)
  rintro v1 h1 ⟨u1, m1⟩
  simp (disch := first | ((try simp only [heapN]) <;> omega) | fail) only [go_sem, seval]
  cases ha : manyP sub r with
  | none =>
    rw [ha] at m1
    subst m1
    simp (disch := first | ((try simp only [heapN]) <;> omega) | fail) only [go_sem, seval]
    exact hQ _ _ ⟨u1, by simp only [rowP, ha]⟩
  | some q =>
    obtain ⟨l, r1⟩ := q
    rw [ha] at m1
    obtain ⟨rfl, R1⟩ := m1
    have sh := shr_many hs' ha
    simp (disch := first | ((try simp only [heapN]) <;> omega) | fail) only [go_sem, seval]
    refine LoopU_while (fun m st hh => ∃ r2 ys, RdO hh k s r2 (xs ++ ys) ∧ Upd (k ≤ ·) h hh ∧ r2.length < m ∧ (xs ++ ys).length + 2 * r2.length ≤ 10000 ∧ (rowP sub r = (rowL (manyP sub) m r2).map fun p => (ys ++ p.1, p.2)) ∧ Keep st 35 [(0, .ptr (some (k, 0))), (1, .int .i64 D)]) (r1.length + 1)
      ⟨r1, l, R1, u1, by omega, by simp; omega, ?_, rfl, by simp [Has]⟩ ?_
    · simp only [rowP, ha]
      cases rowL (manyP sub) (r1.length + 1) r1 <;> rfl
    rintro m st hh ⟨r2, ys, R2, u2, hm, hl, he, hk⟩
    obtain ⟨m, rfl⟩ : ∃ m', m = m' + 1 := ⟨m - 1, by omega⟩
    rw [hk.eq]
    obtain ⟨k0, k1, -⟩ := hk.2
    simp only [slotsFrom, Nat.reduceAdd] at k0 k1 ⊢
    simp only [k0, k1]
    have R2' := R2
    obtain ⟨w, ⟨hkn, i, g, hi, rfl⟩, L⟩ := R2'
    simp (disch := first | ((try simp only [heapN]) <;> omega) | fail) only [go_sem, seval]
    refine DrawU_of' (fun b => b = k) [0, 1, 3, 7, 0, 16, 48, 112, 240, 511, 1023, 2047, 4095, 8191, 16383, 32767, 65535, 131071, 262143, 524287] (by rfl) (by rfl) (fun b hb => by subst hb; exact hkn) ?_
    simp (disch := first | ((try simp only [heapN]) <;> omega) | fail) only [go_sem, seval]
    refine LoadK_ofU rfl rfl ?_
    simp (disch := first | ((try simp only [heapN]) <;> omega) | fail) only [go_sem, seval, g]
    refine LoadK_ofU rfl rfl ?_
    have hstop : ∀ h9, RdO h9 k s (s.drop i) (xs ++ ys) → Upd (k ≤ ·) h h9 → (s.drop i = [] ∨ nx (s.drop i) = 124 ∨ nx (s.drop i) = 41) → Q (.bool true) h9 := by
      intro h9 R9 u9 hc
      rw [rowL, if_pos hc] at he
      simp only [Option.map_some, List.append_nil] at he
      refine hQ _ _ ⟨u9, ?_⟩
      rw [he]
      exact ⟨rfl, R9⟩
    by_cases hlt : (i : Int) < s.length
    · have hne : s.drop i ≠ [] := by
        intro e; have := congrArg List.length e; simp at this; omega
      simp (disch := first | ((try simp only [heapN]) <;> omega) | fail) only [go_sem, seval, g, hlt]
      refine callV_ofU F_82 rfl ((next_uf ((⟨hkn, i, g, hi, rfl⟩ : Rd hh k s (s.drop i) w).ext (Ext.bump _ _)) hs).mono ?_)
      rintro v3 h3 ⟨rfl, e3⟩
      have e3' : Ext hh h3 := (Ext.bump _ _).trans e3
      have R3 := R2.ext e3'
      refine ⟨fun b hb => by subst hb; exact e3.get _ (by simp; omega), ?_⟩
      have c124 : ((nx (s.drop i)).toNat : Int) = 124 ↔ nx (s.drop i) = 124 := iff_of_eq (u8_eq (a := nx (s.drop i)) (b := 124))
      by_cases h124 : nx (s.drop i) = 124
      · simp (disch := first | ((try simp only [heapN]) <;> omega) | fail) only [go_sem, seval, c124.2 h124]
        exact hstop _ R3 (u2.trans (e3'.upd _)) (.inr (.inl h124))
      · have n124 : ¬ ((nx (s.drop i)).toNat : Int) = 124 := fun h => h124 (c124.1 h)
        simp (disch := first | ((try simp only [heapN]) <;> omega) | fail) only [go_sem, seval, n124]
        have R3' := R3
        obtain ⟨w3, R3a, L3a⟩ := R3'
        refine callV_ofU F_82 rfl ((next_uf R3a hs).mono ?_)
        rintro v4 h4 ⟨rfl, e4⟩
        have R4 := R3.ext e4
        refine ⟨fun b hb => by subst hb; exact e4.get _ (Nat.lt_of_lt_of_le hkn e3'.nxt), ?_⟩
        have c41 : ((nx (s.drop i)).toNat : Int) = 41 ↔ nx (s.drop i) = 41 := iff_of_eq (u8_eq (a := nx (s.drop i)) (b := 41))
        by_cases h41 : nx (s.drop i) = 41
        · simp (disch := first | ((try simp only [heapN]) <;> omega) | fail) only [go_sem, seval, c41.2 h41]
          exact hstop _ R4 (u2.trans ((e3'.trans e4).upd _)) (.inr (.inr h41))
        · have n41 : ¬ ((nx (s.drop i)).toNat : Int) = 41 := fun h => h41 (c41.1 h)
          simp (disch := first | ((try simp only [heapN]) <;> omega) | fail) only [go_sem, seval, n41]
          have u4 := u2.trans ((e3'.trans e4).upd (k ≤ ·))
          refine callV_ofU F_81 rfl ((dm R4 hs hl).mono ?_)
          rintro v5 h5 ⟨u5, m5⟩
          simp (disch := first | ((try simp only [heapN]) <;> omega) | fail) only [go_sem, seval]
          have hrow : rowL (manyP sub) (m + 1) (s.drop i) = match manyP sub (s.drop i) with | none => none | some (l, r1) => match rowL (manyP sub) m r1 with | none => none | some (l2, r2) => some (l ++ ⟨2, []⟩ :: l2, r2) := by
            rw [rowL, if_neg]; rintro (h | h | h); exact hne h; exact h124 h; exact h41 h
          cases hm2 : manyP sub (s.drop i) with
          | none =>
            rw [hm2] at m5
            subst m5
            simp (disch := first | ((try simp only [heapN]) <;> omega) | fail) only [go_sem, seval]
            rw [hrow, hm2] at he
            have he : rowP sub r = none := he
            exact hQ _ _ ⟨u4.trans u5, by rw [he]⟩
          | some q =>
            obtain ⟨l3, r3⟩ := q
            rw [hm2] at m5
            obtain ⟨rfl, R5⟩ := m5
            have sh3 := shr_many hs' hm2
            simp (disch := first | ((try simp only [heapN]) <;> omega) | fail) only [go_sem, seval]
            refine callV_ofU F_71 rfl ((puts_ro R5 Lst.nil (by simp at hl sh3 ⊢; omega)).mono ?_)
            rintro v6 h6 ⟨rfl, u6, R6⟩
            simp (disch := first | ((try simp only [heapN]) <;> omega) | fail) only [go_sem, seval]
            rw [List.append_assoc, List.append_assoc] at R6
            refine AgainK.mk m (by simp) ⟨r3, ys ++ (l3 ++ [⟨2, []⟩]), R6, (u4.trans u5).trans u6, by simp at sh3 hm; omega, by simp at hl sh3 ⊢; omega, ?_, rfl, by simp [Has]⟩
            rw [he, hrow, hm2]
            simp only
            cases rowL (manyP sub) m r3 <;> simp
    · simp (disch := first | ((try simp only [heapN]) <;> omega) | fail) only [go_sem, seval, g, hlt]
      exact hstop _ (R2.ext (Ext.bump _ _)) (u2.trans ((Ext.bump _ _).upd _)) (.inl (List.drop_eq_nil_of_le (by omega)))

theorem pat_does {sub : Option (List UInt8 → Res)} {D : Int} (hD : 0 ≤ D ∧ D ≤ 12) (hs' : ∀ p, sub = some p → Shr p) (dr : Does 69 [.int .i64 D] (rowP sub)) : Does 50 [.int .i64 D] (patP sub) := by
  intro h k s r xs R hs hx
  refine UF.gen fun Q hQ => UF.of (F_50) (c := _) rfl ?_
  unfold Try.f50
  simp only [List.length, Nat.reduceSub, Nat.reduceAdd, List.replicate, List.cons_append, List.nil_append]
  simp (disch := first | ((try simp only [heapN]) <;> omega) | fail) only [go_sem, seval]
  refine callV_ofU F_69 rfl ((dr R hs hx).mono ?_)
  rintro v1 h1 ⟨u1, m1⟩
  simp (disch := first | ((try simp only [heapN]) <;> omega) | fail) only [go_sem, seval]
  cases ha : rowP sub r with
  | none =>
    rw [ha] at m1
    subst m1
    simp (disch := first | ((try simp only [heapN]) <;> omega) | fail) only [go_sem, seval]
    exact hQ _ _ ⟨u1, by simp only [patP, ha]⟩
  | some q =>
    obtain ⟨l, r1⟩ := q
    rw [ha] at m1
    obtain ⟨rfl, R1⟩ := m1
    have sh := shr_row hs' ha
    simp (disch := first | ((try simp only [heapN]) <;> omega) | fail) only [go_sem, seval]
    refine LoopU_while (fun m st hh => ∃ r2 ys, RdO hh k s r2 (xs ++ ys) ∧ Upd (k ≤ ·) h hh ∧ r2.length < m ∧ (xs ++ ys).length + 2 * r2.length ≤ 10000 ∧ (patP sub r = (altL (rowP sub) m r2).map fun p => (ys ++ p.1, p.2)) ∧ Keep st 17 [(0, .ptr (some (k, 0))), (1, .int .i64 D)]) (r1.length + 1)
      ⟨r1, l, R1, u1, by omega, by simp; omega, ?_, rfl, by simp [Has]⟩ ?_
    · simp only [patP, ha]
      cases altL (rowP sub) (r1.length + 1) r1 <;> rfl
    rintro m st hh ⟨r2, ys, R2, u2, hm, hl, he, hk⟩
    obtain ⟨m, rfl⟩ : ∃ m', m = m' + 1 := ⟨m - 1, by omega⟩
    rw [hk.eq]
    obtain ⟨k0, k1, -⟩ := hk.2
    simp only [slotsFrom, Nat.reduceAdd] at k0 k1 ⊢
    simp only [k0, k1]
    simp (disch := first | ((try simp only [heapN]) <;> omega) | fail) only [go_sem, seval]
    refine callV_ofU F_70 rfl ((takes_ro (c := 124) R2 hs (by decide)).mono ?_)
    rintro v3 h3 ⟨rfl, R3, u3⟩
    simp (disch := first | ((try simp only [heapN]) <;> omega) | fail) only [go_sem, seval]
    have u23 := u2.trans u3
    by_cases c124 : nx r2 = 124
    · rw [if_pos c124] at R3
      have t := tail_len (nx_ne c124 (by decide))
      rw [altL, if_pos c124] at he
      simp (disch := first | ((try simp only [heapN]) <;> omega) | fail) only [go_sem, seval, c124]
      refine callV_ofU F_69 rfl ((dr R3 hs (by omega)).mono ?_)
      rintro v5 h5 ⟨u5, m5⟩
      simp (disch := first | ((try simp only [heapN]) <;> omega) | fail) only [go_sem, seval]
      cases hm2 : rowP sub r2.tail with
      | none =>
        rw [hm2] at m5 he
        subst m5
        simp (disch := first | ((try simp only [heapN]) <;> omega) | fail) only [go_sem, seval]
        have he : patP sub r = none := he
        exact hQ _ _ ⟨u23.trans u5, by rw [he]⟩
      | some q =>
        obtain ⟨l3, r3⟩ := q
        rw [hm2] at m5 he
        obtain ⟨rfl, R5⟩ := m5
        have sh3 := shr_row hs' hm2
        simp (disch := first | ((try simp only [heapN]) <;> omega) | fail) only [go_sem, seval]
        refine callV_ofU F_71 rfl ((puts_ro R5 Lst.nil (by simp at hl sh3 ⊢; omega)).mono ?_)
        rintro v6 h6 ⟨rfl, u6, R6⟩
        simp (disch := first | ((try simp only [heapN]) <;> omega) | fail) only [go_sem, seval]
        rw [List.append_assoc, List.append_assoc] at R6
        refine AgainK.mk m (by simp) ⟨r3, ys ++ (l3 ++ [⟨3, []⟩]), R6, (u23.trans u5).trans u6, by simp at sh3 hm; omega, by simp at hl sh3 ⊢; omega, ?_, rfl, by simp [Has]⟩
        rw [he]
        simp only
        cases altL (rowP sub) m r3 <;> simp
    · rw [if_neg c124] at R3
      rw [altL, if_neg c124] at he
      simp (disch := first | ((try simp only [heapN]) <;> omega) | fail) only [go_sem, seval, c124]
      simp only [Option.map_some, List.append_nil] at he
      exact hQ _ _ ⟨u23, by rw [he]; exact ⟨rfl, R3⟩⟩

theorem pats_do : ∀ d : Nat, d ≤ 12 → Does 50 [.int .i64 (12 - d)] (pat d)
  | 0, _ => by
    have hs : ∀ p, (none : Option (List UInt8 → Res)) = some p → Shr p := by simp
    have hD : (0 : Int) ≤ 12 - (0 : Nat) ∧ (12 : Int) - (0 : Nat) ≤ 12 := by omega
    exact pat_does hD hs (row_does hD hs (many_does hD hs (atom_does hD (fun h => absurd h (by omega)) fun _ => rfl)))
  | d + 1, hd => by
    have hs : ∀ p, some (pat d) = some p → Shr p := fun p e => by simp only [Option.some.injEq] at e; subst e; exact shr_pats d
    have hD : (0 : Int) ≤ 12 - (d + 1 : Nat) ∧ (12 : Int) - (d + 1 : Nat) ≤ 12 := by omega
    have ih : Does 50 [.int .i64 (12 - d)] (pat d) := pats_do d (by omega)
    have e : (12 : Int) - (d + 1 : Nat) + 1 = 12 - d := by omega
    exact pat_does hD hs (row_does hD hs (many_does hD hs (atom_does hD (fun _ => ⟨pat d, rfl, by rw [e]; exact ih, shr_pats d⟩) fun h => absurd h (by omega))))

theorem Upd.ext' {h h' : Heap} {x : Blk} (u : Upd (h.nxt ≤ ·) (h.add x) h') : Ext h h' :=
  ⟨by have := u.nxt; simp at this; omega, fun b hb => by rw [u.get b (by simp; omega) (by omega), get_add_lt hb]⟩

theorem parse_uf {h : Heap} {s : List UInt8} : UF T F 24 [.str s] h fun v' h' => Ext h h' ∧ match parse s with
    | some l => ∃ v, v' = .tup [v, .bool true] ∧ LFresh h.nxt h' v l
    | none => v' = .tup [.slc none 0 (some 0) 0, .bool false] := by
  refine UF.gen fun Q hQ => UF.of (F_24) (c := _) rfl ?_
  unfold Try.f24
  simp only [List.length, Nat.reduceSub, Nat.reduceAdd, List.replicate, List.cons_append, List.nil_append]
  simp (disch := first | ((try simp only [heapN]) <;> omega) | fail) only [go_sem, seval]
  by_cases h1 : (s.length : Int) < 1
  · simp (disch := first | ((try simp only [heapN]) <;> omega) | fail) only [go_sem, seval, h1]
    refine hQ _ _ ⟨Ext.add _ _, ?_⟩
    have : parse s = none := by rw [parse, if_pos (.inl (by omega))]
    rw [this]
  by_cases h24 : (s.length : Int) > 24
  · simp (disch := first | ((try simp only [heapN]) <;> omega) | fail) only [go_sem, seval, h1, h24]
    refine hQ _ _ ⟨Ext.add _ _, ?_⟩
    have : parse s = none := by rw [parse, if_pos (.inr (by omega))]
    rw [this]
  simp (disch := first | ((try simp only [heapN]) <;> omega) | fail) only [go_sem, seval, h1, h24]
  have R : RdO (h.add (.cells [.str s, .int .i64 0, .slc none 0 (some 0) 0] true)) h.nxt s s [] := ⟨_, ⟨by simp, 0, get_add_self, by omega, rfl⟩, LFresh.nil⟩
  have dp : Does 50 [.int .i64 0] (pat 12) := pats_do 12 (by omega)
  refine callV_ofU F_50 rfl ((dp R (by omega) (by simp; omega)).mono ?_)
  rintro v1 h1' ⟨u1, m1⟩
  simp (disch := first | ((try simp only [heapN]) <;> omega) | fail) only [go_sem, seval]
  have e1 := Upd.ext' u1
  have hparse : parse s = match pat 12 s with | some (l, []) => some l | _ => none := by rw [parse, if_neg (by omega)]
  cases hp : pat 12 s with
  | none =>
    rw [hp] at m1
    subst m1
    simp (disch := first | ((try simp only [heapN]) <;> omega) | fail) only [go_sem, seval]
    exact hQ _ _ ⟨e1, by rw [hparse, hp]⟩
  | some q =>
    obtain ⟨l, r⟩ := q
    rw [hp] at m1
    obtain ⟨rfl, v, ⟨hk, i, g, hi, hd⟩, L⟩ := m1
    by_cases hlt : (i : Int) < s.length
    · simp (disch := first | ((try simp only [heapN]) <;> omega) | fail) only [go_sem, seval, g, hlt]
      refine hQ _ _ ⟨e1, ?_⟩
      rw [hparse, hp]
      cases r with
      | nil => have := congrArg List.length hd; simp at this; omega
      | cons a r => rfl
    · simp (disch := first | ((try simp only [heapN]) <;> omega) | fail) only [go_sem, seval, g, hlt]
      refine hQ _ _ ⟨e1, ?_⟩
      have : r = [] := by rw [← hd]; exact List.drop_eq_nil_of_le (by omega)
      subst this
      rw [hparse, hp]
      exact ⟨v, rfl, (by simpa using L : LFresh (h.nxt + 1) h1' v l).le (by omega)⟩

end Go.Proofs.Ytenpjkinpecnfaa
