/-
  Layer rex: what is read is a pattern; patterns that are made are read.
-/
import Derived.Test.YtenpjkinpecnfaaPicks
namespace Go.Proofs.Ytenpjkinpecnfaa
open Go Go.Am
set_option maxRecDepth 100000
set_option maxHeartbeats 4000000
set_option linter.unusedSimpArgs false
set_option linter.unusedVariables false

/-- Patterns. -/
inductive Rx where
  | cls (l : List Rng)
  | rep (op : Int) (a : Rx)
  | bin (op : Int) (a b : Rx)
def Rx.items : Rx → List Item
  | .cls l => [⟨1, l⟩]
  | .rep op a => a.items ++ [⟨op, []⟩]
  | .bin op a b => a.items ++ (b.items ++ [⟨op, []⟩])
def RngOk (x : Rng) : Prop := x.lo.toNat ≤ x.hi.toNat ∧ 32 ≤ x.lo.toNat ∧ x.hi.toNat ≤ 126
def Rx.ok : Rx → Prop
  | .cls l => l ≠ [] ∧ ∀ x ∈ l, RngOk x
  | .rep op a => (op = 4 ∨ op = 5 ∨ op = 6) ∧ a.ok
  | .bin op a b => (op = 2 ∨ op = 3) ∧ a.ok ∧ b.ok
/-- What is read is a pattern. -/
def Is (l : List Item) : Prop := ∃ e : Rx, e.ok ∧ l = e.items
def IsP (p : List UInt8 → Res) : Prop := ∀ {r l r'}, p r = some (l, r') → Is l

theorem sign_ok {but r r' : List UInt8} {c : UInt8} (e : sign but r = some (c, r')) : 32 ≤ c.toNat ∧ c.toNat ≤ 126 := by
  unfold sign at e
  generalize (if nx r = 92 then r.tail else r) = r1 at e
  simp only at e
  split at e
  · cases e
  · rename_i h
    simp only [Option.some.injEq, Prod.mk.injEq] at e
    obtain ⟨rfl, rfl⟩ := e
    simp only [not_or] at h
    omega
theorem rng_ok {r r' : List UInt8} {x : Rng} (e : rng r = some (x, r')) : RngOk x := by
  unfold rng at e
  split at e
  · cases e
  · rename_i lo r1 h1
    have k1 := sign_ok h1
    split at e
    · split at e
      · cases e
      · rename_i hi r2 h2
        have k2 := sign_ok h2
        split at e
        · simp only [Option.some.injEq, Prod.mk.injEq] at e
          obtain ⟨rfl, rfl⟩ := e
          rename_i hle
          exact ⟨hle, k1.1, k2.2⟩
        · cases e
    · simp only [Option.some.injEq, Prod.mk.injEq] at e
      obtain ⟨rfl, rfl⟩ := e
      exact ⟨Nat.le_refl _, k1.1, k1.2⟩
theorem rngs_ok : ∀ {n : Nat} {r r' : List UInt8} {l : List Rng}, rngs n r = some (l, r') → ∀ x ∈ l, RngOk x
  | 0, _, _, _, e => by simp [rngs] at e
  | n + 1, r, r', l, e => by
    rw [rngs] at e
    split at e
    · simp only [Option.some.injEq, Prod.mk.injEq] at e
      obtain ⟨rfl, rfl⟩ := e; simp
    · split at e
      · cases e
      · rename_i x r2 h2
        split at e
        · cases e
        · rename_i l3 r3 h3
          simp only [Option.some.injEq, Prod.mk.injEq] at e
          obtain ⟨rfl, rfl⟩ := e
          intro y hy
          rcases List.mem_cons.1 hy with rfl | hy
          · exact rng_ok h2
          · exact rngs_ok h3 y hy
theorem Is.cls {l : List Rng} (h : l ≠ []) (h2 : ∀ x ∈ l, RngOk x) : Is [⟨1, l⟩] := ⟨.cls l, ⟨h, h2⟩, rfl⟩
theorem is_atom {sub : Option (List UInt8 → Res)} (hs : ∀ p, sub = some p → IsP p) : IsP (atomP sub) := by
  intro r l r' e
  unfold atomP at e
  split at e
  · split at e
    · cases e
    · rename_i p
      split at e
      · cases e
      · rename_i l1 r1 h1
        split at e
        · simp only [Option.some.injEq, Prod.mk.injEq] at e
          obtain ⟨rfl, rfl⟩ := e
          exact hs p rfl h1
        · cases e
  · split at e
    · unfold Go.Proofs.Ytenpjkinpecnfaa.cls at e
      split at e
      · cases e
      · rename_i l1 r1 h
        split at e
        · rename_i hl
          simp only [Option.some.injEq, Prod.mk.injEq] at e
          obtain ⟨rfl, rfl⟩ := e
          exact Is.cls hl (rngs_ok h)
        · cases e
    · split at e
      · simp only [Option.some.injEq, Prod.mk.injEq] at e
        obtain ⟨rfl, rfl⟩ := e
        exact Is.cls (by simp) (by intro x hx; simp only [List.mem_singleton] at hx; subst hx; unfold RngOk; decide)
      · split at e
        · cases e
        · rename_i c r1 h1
          have := sign_ok h1
          simp only [Option.some.injEq, Prod.mk.injEq] at e
          obtain ⟨rfl, rfl⟩ := e
          exact Is.cls (by simp) (by intro x hx; simp only [List.mem_singleton] at hx; subst hx; exact ⟨Nat.le_refl _, this.1, this.2⟩)
theorem is_posts : ∀ (r : List UInt8) {l : List Item}, Is l → Is (l ++ (posts r).1)
  | [], l, h => by simpa [posts] using h
  | c :: r, l, ⟨e, h1, h2⟩ => by
    have key : ∀ op : Int, (op = 4 ∨ op = 5 ∨ op = 6) → Is (l ++ (⟨op, []⟩ :: (posts r).1)) := by
      intro op hop
      have := is_posts r (l := l ++ [⟨op, []⟩]) ⟨.rep op e, ⟨hop, h1⟩, by rw [h2]; rfl⟩
      simpa using this
    rw [posts]
    split
    · exact key 4 (by simp)
    · split
      · exact key 5 (by simp)
      · split
        · exact key 6 (by simp)
        · simpa using ⟨e, h1, h2⟩
theorem is_many {sub : Option (List UInt8 → Res)} (hs : ∀ p, sub = some p → IsP p) : IsP (manyP sub) := by
  intro r l r' e
  unfold manyP at e
  split at e
  · cases e
  · rename_i l1 r1 h1
    have h2 := is_atom hs h1
    simp only [Option.some.injEq, Prod.mk.injEq] at e
    obtain ⟨rfl, rfl⟩ := e
    exact is_posts r1 h2
theorem Is.bin {a b : List Item} {op : Int} (ho : op = 2 ∨ op = 3) : Is a → Is b → Is (a ++ (b ++ [⟨op, []⟩]))
  | ⟨e, h1, h2⟩, ⟨f, h3, h4⟩ => ⟨.bin op e f, ⟨ho, h1, h3⟩, by rw [h2, h4]; rfl⟩
theorem is_rowL {m : List UInt8 → Res} (hm : IsP m) : ∀ {n : Nat} {r r' : List UInt8} {l a : List Item}, Is a → rowL m n r = some (l, r') → Is (a ++ l)
  | 0, _, _, _, _, _, e => by simp [rowL] at e
  | n + 1, r, r', l, a, ha, e => by
    rw [rowL] at e
    split at e
    · simp only [Option.some.injEq, Prod.mk.injEq] at e
      obtain ⟨rfl, rfl⟩ := e; simpa using ha
    · split at e
      · cases e
      · rename_i l1 r1 h1
        split at e
        · cases e
        · rename_i l2 r2 h3
          simp only [Option.some.injEq, Prod.mk.injEq] at e
          obtain ⟨rfl, rfl⟩ := e
          have := is_rowL hm (ha.bin (op := 2) (by simp) (hm h1)) h3
          simpa using this
theorem is_row {sub : Option (List UInt8 → Res)} (hs : ∀ p, sub = some p → IsP p) : IsP (rowP sub) := by
  intro r l r' e
  unfold rowP at e
  split at e
  · cases e
  · rename_i l1 r1 h1
    split at e
    · cases e
    · rename_i l2 r2 h3
      simp only [Option.some.injEq, Prod.mk.injEq] at e
      obtain ⟨rfl, rfl⟩ := e
      exact is_rowL (is_many hs) (is_many hs h1) h3
theorem is_altL {m : List UInt8 → Res} (hm : IsP m) : ∀ {n : Nat} {r r' : List UInt8} {l a : List Item}, Is a → altL m n r = some (l, r') → Is (a ++ l)
  | 0, _, _, _, _, _, e => by simp [altL] at e
  | n + 1, r, r', l, a, ha, e => by
    rw [altL] at e
    split at e
    · split at e
      · cases e
      · rename_i l1 r1 h1
        split at e
        · cases e
        · rename_i l2 r2 h3
          simp only [Option.some.injEq, Prod.mk.injEq] at e
          obtain ⟨rfl, rfl⟩ := e
          have := is_altL hm (ha.bin (op := 3) (by simp) (hm h1)) h3
          simpa using this
    · simp only [Option.some.injEq, Prod.mk.injEq] at e
      obtain ⟨rfl, rfl⟩ := e; simpa using ha
theorem is_pat {sub : Option (List UInt8 → Res)} (hs : ∀ p, sub = some p → IsP p) : IsP (patP sub) := by
  intro r l r' e
  unfold patP at e
  split at e
  · cases e
  · rename_i l1 r1 h1
    split at e
    · cases e
    · rename_i l2 r2 h3
      simp only [Option.some.injEq, Prod.mk.injEq] at e
      obtain ⟨rfl, rfl⟩ := e
      exact is_altL (is_row hs) (is_row hs h1) h3
theorem is_pats : ∀ d, IsP (pat d)
  | 0 => is_pat (by simp)
  | d + 1 => is_pat fun p e => by simp only [Option.some.injEq] at e; subst e; exact is_pats d
theorem parse_is {s : List UInt8} {l : List Item} (e : parse s = some l) : Is l := by
  unfold parse at e
  split at e
  · cases e
  · split at e
    · rename_i l1 h1
      simp only [Option.some.injEq] at e
      subst e
      exact is_pats 12 h1
    · cases e

/-! what is made -/
def NoPost (r : List UInt8) : Prop := nx r ≠ 42 ∧ nx r ≠ 43 ∧ nx r ≠ 63
theorem posts_no {r : List UInt8} (h : NoPost r) : posts r = ([], r) := by rw [posts_at, if_neg h.1, if_neg h.2.1, if_neg h.2.2]
section
variable {G : Option (List UInt8 → Res) → Prop}
/-- A piece that is read by itself, whatever stands behind it. -/
structure Unit_ (G : Option (List UInt8 → Res) → Prop) (u : List UInt8) (l : List Item) : Prop where
  ne : u ≠ []
  hd : NoPost u ∧ nx u ≠ 124 ∧ nx u ≠ 41
  rd : ∀ sub rest, G sub → NoPost rest → manyP sub (u ++ rest) = some (l, rest)
def Stop (r : List UInt8) : Prop := r = [] ∨ nx r = 124 ∨ nx r = 41
theorem Stop.no {r : List UInt8} (h : Stop r) : NoPost r := by
  rcases h with rfl | h | h
  · unfold NoPost nx; decide
  · unfold NoPost; rw [h]; decide
  · unfold NoPost; rw [h]; decide
theorem nx_app {u r : List UInt8} (h : u ≠ []) : nx (u ++ r) = nx u := by cases u; exact absurd rfl h; rfl
/-- Such pieces, one behind the other. -/
inductive Units (G : Option (List UInt8 → Res) → Prop) : List UInt8 → List Item → Prop
  | nil : Units G [] []
  | cons {u w l m} : Unit_ G u l → Units G w m → Units G (u ++ w) (l ++ ⟨2, []⟩ :: m)
theorem Units.no {w r : List UInt8} {m : List Item} (h : Units G w m) (hr : NoPost r) : NoPost (w ++ r) := by
  cases h with
  | nil => exact hr
  | cons hu _ =>
    rw [List.append_assoc]
    unfold NoPost
    rw [nx_app hu.ne]; exact hu.hd.1
theorem units_rowL {sub : Option (List UInt8 → Res)} (hg : G sub) : ∀ {w : List UInt8} {m : List Item} (n : Nat) (rest : List UInt8), Units G w m → Stop rest → (w ++ rest).length < n → rowL (manyP sub) n (w ++ rest) = some (m, rest)
  | _, _, 0, _, _, _, hn => by omega
  | _, _, n + 1, rest, .nil, hs, _ => by rw [rowL, List.nil_append, if_pos (show rest = [] ∨ nx rest = 124 ∨ nx rest = 41 from hs)]
  | _, _, n + 1, rest, .cons (u := u) (w := w) hu h, hs, hn => by
    have hne : ¬ (u ++ w ++ rest = [] ∨ nx (u ++ w ++ rest) = 124 ∨ nx (u ++ w ++ rest) = 41) := by
      rw [List.append_assoc, nx_app hu.ne]
      rintro (h1 | h1 | h1)
      · exact hu.ne (by simpa using (List.append_eq_nil_iff.1 h1).1)
      · exact hu.hd.2.1 h1
      · exact hu.hd.2.2 h1
    have hul := List.length_pos_iff.2 hu.ne
    rw [rowL, if_neg hne, List.append_assoc, hu.rd sub _ hg (h.no hs.no)]
    simp only
    rw [units_rowL hg n rest h hs (by simp at hn ⊢; omega)]
/-- A row. -/
def RowOk (G : Option (List UInt8 → Res) → Prop) (w : List UInt8) (l : List Item) : Prop := ∃ u v a m, Unit_ G u a ∧ Units G v m ∧ w = u ++ v ∧ l = a ++ m
theorem RowOk.rd {w : List UInt8} {l : List Item} (h : RowOk G w l) {sub : Option (List UInt8 → Res)} (hg : G sub) {rest : List UInt8} (hs : Stop rest) : rowP sub (w ++ rest) = some (l, rest) := by
  obtain ⟨u, v, a, m, hu, hv, rfl, rfl⟩ := h
  unfold rowP
  rw [List.append_assoc, hu.rd sub _ hg (hv.no hs.no)]
  simp only
  rw [units_rowL hg _ rest hv hs (by omega)]
/-- A pattern that is read in brackets, too. -/
def PatOk (G : Option (List UInt8 → Res) → Prop) (w : List UInt8) (l : List Item) : Prop := w ≠ [] ∧ ∀ sub rest, G sub → (rest = [] ∨ nx rest = 41) → patP sub (w ++ rest) = some (l, rest)
theorem altL_end {m : List UInt8 → Res} {n : Nat} {r : List UInt8} (h : r = [] ∨ nx r = 41) : altL m (n + 1) r = some ([], r) := by
  rw [altL, if_neg]
  rcases h with rfl | h
  · decide
  · rw [h]; decide
theorem RowOk.pat {w : List UInt8} {l : List Item} (h : RowOk G w l) : PatOk G w l := by
  refine ⟨?_, fun sub rest hg hr => ?_⟩
  · obtain ⟨u, v, a, m, hu, hv, rfl, rfl⟩ := h
    intro e; exact hu.ne (List.append_eq_nil_iff.1 e).1
  · unfold patP
    rw [h.rd hg (by rcases hr with h | h; exact .inl h; exact .inr (.inr h))]
    simp only
    rw [altL_end hr]
    simp
theorem RowOk.alt {w v : List UInt8} {l m : List Item} (h : RowOk G w l) (k : RowOk G v m) : PatOk G (w ++ 124 :: v) (l ++ (m ++ [⟨3, []⟩])) := by
  refine ⟨by simp, fun sub rest hg hr => ?_⟩
  unfold patP
  rw [List.append_assoc, h.rd hg (.inr (.inl rfl))]
  simp only
  rw [altL, if_pos (show nx (124 :: v ++ rest) = 124 from rfl)]
  simp only [List.cons_append, List.tail_cons]
  rw [k.rd hg (by rcases hr with h | h; exact .inl h; exact .inr (.inr h))]
  simp only [List.length_cons]
  rw [altL_end hr]

theorem Unit_.row {u : List UInt8} {a : List Item} (h : Unit_ G u a) : RowOk G u (a ++ []) := ⟨u, [], a, [], h, .nil, by simp, rfl⟩
theorem RowOk.app {u w : List UInt8} {l : List Item} (h : ∃ a, Unit_ G u a) (k : RowOk G w l) : ∃ m, RowOk G (u ++ w) m := by
  obtain ⟨a, hu⟩ := h
  obtain ⟨v, x, b, m, hv, hx, rfl, rfl⟩ := k
  exact ⟨_, u, v ++ x, a, _, hu, .cons hv hx, rfl, rfl⟩

/-- An atom that is read whatever stands behind it. -/
def Atom_ (G : Option (List UInt8 → Res) → Prop) (u : List UInt8) (l : List Item) : Prop := u ≠ [] ∧ (NoPost u ∧ nx u ≠ 124 ∧ nx u ≠ 41) ∧ ∀ sub rest, G sub → atomP sub (u ++ rest) = some (l, rest)
theorem Atom_.unit {u : List UInt8} {l : List Item} (h : Atom_ G u l) : Unit_ G u l := by
  refine ⟨h.1, h.2.1, fun sub rest hg hr => ?_⟩
  unfold manyP
  rw [h.2.2 sub rest hg]
  simp only [posts_no hr, List.append_nil]
theorem Atom_.post {u : List UInt8} {l : List Item} (h : Atom_ G u l) {c : UInt8} {op : Int} (hc : (c = 42 ∧ op = 4) ∨ (c = 43 ∧ op = 5) ∨ (c = 63 ∧ op = 6))   : Unit_ G (u ++ [c]) (l ++ [⟨op, []⟩]) := by
  refine ⟨by simp, by rw [NoPost, nx_app h.1]; exact h.2.1, fun sub rest hg hr => ?_⟩
  unfold manyP
  rw [List.append_assoc, h.2.2 sub _ hg]
  simp only [List.cons_append, List.nil_append]
  rcases hc with ⟨rfl, rfl⟩ | ⟨rfl, rfl⟩ | ⟨rfl, rfl⟩ <;> simp [posts, posts_no hr]
theorem Atom_.any {u : List UInt8} {l : List Item} (h : Atom_ G u l) : ∀ b, b < 5 → ∃ m, Unit_ G (u ++ sufTab.getD b []) m
  | 0, _ => ⟨_, by simpa [sufTab] using h.unit⟩
  | 1, _ => ⟨_, by simpa [sufTab] using h.unit⟩
  | 2, _ => ⟨_, by simpa [sufTab] using h.post (c := 42) (op := 4) (by simp)⟩
  | 3, _ => ⟨_, by simpa [sufTab] using h.post (c := 43) (op := 5) (by simp)⟩
  | 4, _ => ⟨_, by simpa [sufTab] using h.post (c := 63) (op := 6) (by simp)⟩
  | n + 5, h => by omega
theorem nopost_of {u : List UInt8} (h : (nx u ≠ 42 ∧ nx u ≠ 43 ∧ nx u ≠ 63) ∧ nx u ≠ 124 ∧ nx u ≠ 41) : NoPost u ∧ nx u ≠ 124 ∧ nx u ≠ 41 := h
theorem atom_a : Atom_ G [97] [⟨1, [⟨97, 97⟩]⟩] := ⟨by simp, nopost_of (by decide), fun sub rest _ => rfl⟩
theorem atom_b : Atom_ G [98] [⟨1, [⟨98, 98⟩]⟩] := ⟨by simp, nopost_of (by decide), fun sub rest _ => rfl⟩
theorem atom_c : Atom_ G [99] [⟨1, [⟨99, 99⟩]⟩] := ⟨by simp, nopost_of (by decide), fun sub rest _ => rfl⟩
theorem atom_dot : Atom_ G [46] [⟨1, [⟨32, 126⟩]⟩] := ⟨by simp, nopost_of (by decide), fun sub rest _ => rfl⟩
theorem atom_plus : Atom_ G [92, 43] [⟨1, [⟨43, 43⟩]⟩] := ⟨by simp, nopost_of (by decide), fun sub rest _ => rfl⟩
theorem atom_ab : Atom_ G [91, 97, 98, 93] [⟨1, [⟨97, 97⟩, ⟨98, 98⟩]⟩] := ⟨by simp, nopost_of (by decide), fun sub rest _ => rfl⟩
theorem atom_ac : Atom_ G [91, 97, 45, 99, 48, 45, 49, 93] [⟨1, [⟨97, 99⟩, ⟨48, 49⟩]⟩] := ⟨by simp, nopost_of (by decide), fun sub rest _ => rfl⟩
/-- A pattern in brackets. -/
theorem PatOk.atom {G' : Option (List UInt8 → Res) → Prop} {w : List UInt8} {l : List Item} (h : PatOk G w l) (hG : ∀ sub, G' sub → ∃ s, sub = some (patP s) ∧ G s) : Atom_ G' (40 :: w ++ [41]) l := by
  refine ⟨by simp, nopost_of (by rw [show nx (40 :: w ++ [41]) = 40 from rfl]; decide), fun sub rest hg => ?_⟩
  obtain ⟨s, rfl, hs⟩ := hG sub hg
  unfold atomP
  rw [if_pos (show nx (40 :: w ++ [41] ++ rest) = 40 from rfl)]
  simp only
  have e : (40 :: w ++ [41] ++ rest).tail = w ++ (41 :: rest) := by simp
  rw [e, h.2 s _ hs (.inr rfl)]
  simp only
  rw [if_pos (show nx (41 :: rest) = 41 from rfl)]
  rfl
end

/-- Any; such as brackets may have inside. -/
def G0 : Option (List UInt8 → Res) → Prop := fun _ => True
def G1 : Option (List UInt8 → Res) → Prop := fun sub => ∃ d, sub = some (pat d)
def G2 : Option (List UInt8 → Res) → Prop := fun sub => ∃ d, sub = some (pat (d + 1))
theorem g10 : ∀ sub, G1 sub → ∃ s, sub = some (patP s) ∧ G0 s := by
  rintro _ ⟨d, rfl⟩
  cases d with
  | zero => exact ⟨none, rfl, trivial⟩
  | succ d => exact ⟨some (pat d), rfl, trivial⟩
theorem piece_units (a b : Nat) (ha : a < 9) (hb : b < 5) : ∃ m, RowOk G1 (pieceTab.getD a [] ++ sufTab.getD b []) m := by
  have one : ∀ {u l}, Atom_ G1 u l → ∃ m, RowOk G1 (u ++ sufTab.getD b []) m := fun h => by
    obtain ⟨m, hm⟩ := h.any b hb
    exact ⟨_, hm.row⟩
  have : a = 0 ∨ a = 1 ∨ a = 2 ∨ a = 3 ∨ a = 4 ∨ a = 5 ∨ a = 6 ∨ a = 7 ∨ a = 8 := by omega
  rcases this with rfl | rfl | rfl | rfl | rfl | rfl | rfl | rfl | rfl
  · exact one atom_a
  · exact one atom_b
  · exact one atom_ab
  · obtain ⟨m, hm⟩ := one atom_b
    obtain ⟨n, hn⟩ := RowOk.app (u := [97]) ⟨_, atom_a.unit⟩ hm
    exact ⟨n, hn⟩
  · exact one ((RowOk.alt (G := G0) atom_a.unit.row atom_b.unit.row).atom g10)
  · exact one atom_ac
  · have ab : RowOk G0 [97, 98] _ := ⟨[97], [98], _, _, atom_a.unit, .cons (w := []) atom_b.unit .nil, rfl, rfl⟩
    exact one ((RowOk.alt (G := G0) ab atom_a.unit.row).atom g10)
  · exact one atom_dot
  · exact one atom_plus
theorem RowOk.cat {u w : List UInt8} {l m : List Item} (h : RowOk G1 u l) (k : RowOk G1 w m) : ∃ n, RowOk G1 (u ++ w) n := by
  obtain ⟨a, b, x, y, h1, h2, rfl, rfl⟩ := h
  obtain ⟨c, d, z, t, h3, h4, rfl, rfl⟩ := k
  have : ∀ {b y}, Units G1 b y → ∃ n, Units G1 (b ++ (c ++ d)) n := by
    intro b y h
    induction h with
    | nil => exact ⟨_, by rw [List.nil_append]; exact .cons h3 h4⟩
    | cons hu _ ih =>
      obtain ⟨n, hn⟩ := ih
      exact ⟨_, by rw [List.append_assoc]; exact .cons hu hn⟩
  obtain ⟨n, hn⟩ := this h2
  exact ⟨_, a, b ++ (c ++ d), x, n, h1, hn, by rw [List.append_assoc], rfl⟩
theorem pstr_row : ∀ {ps : List (Nat × Nat)}, ps ≠ [] → (∀ p ∈ ps, p.1 < 9 ∧ p.2 < 5) → ∃ m, RowOk G1 (pstr ps) m
  | [], h, _ => absurd rfl h
  | [p], _, h => by
    have := h p (by simp)
    simpa [pstr] using piece_units p.1 p.2 this.1 this.2
  | p :: q :: ps, _, h => by
    have hp := h p (by simp)
    obtain ⟨m, hm⟩ := piece_units p.1 p.2 hp.1 hp.2
    obtain ⟨n, hn⟩ := pstr_row (ps := q :: ps) (by simp) fun x hx => h x (by simp [hx])
    have := hm.cat hn
    simpa [pstr] using this
theorem alt_row : ∀ c, c < 3 → ∃ m, RowOk G1 (altTab.getD c []) m
  | 0, _ => ⟨_, atom_b.unit.row⟩
  | 1, _ => RowOk.app ⟨_, atom_b.unit⟩ atom_a.unit.row
  | 2, _ => ⟨_, (atom_c.post (c := 43) (op := 5) (by simp)).row⟩
  | n + 3, h => by omega
/-- What is made is read, in brackets, too. -/
theorem made_pat {s : List UInt8} (h : MadeRex s) : ∃ l, PatOk G1 s l := by
  rcases h with rfl | ⟨_, ps, h1, _, hps, rfl | ⟨c, hc, _, rfl⟩⟩
  · exact ⟨_, atom_a.unit.row.pat⟩
  · obtain ⟨m, hm⟩ := pstr_row (by intro e; subst e; simp at h1) hps
    exact ⟨_, hm.pat⟩
  · obtain ⟨m, hm⟩ := pstr_row (by intro e; subst e; simp at h1) hps
    obtain ⟨n, hn⟩ := alt_row c hc
    exact ⟨_, hm.alt hn⟩
theorem PatOk.parse {s : List UInt8} {l : List Item} (h : PatOk G1 s l) (hs : s.length ≤ 24) : Go.Proofs.Ytenpjkinpecnfaa.parse s = some l := by
  have hp := List.length_pos_iff.2 h.1
  unfold Go.Proofs.Ytenpjkinpecnfaa.parse
  rw [if_neg (by omega)]
  have := h.2 (some (pat 11)) [] ⟨11, rfl⟩ (.inl rfl)
  rw [List.append_nil] at this
  have e : pat 12 s = some (l, []) := this
  rw [e]

end Go.Proofs.Ytenpjkinpecnfaa
