/-
  Layer relex, without the program: texts of words.
-/
import Derived.Test.YtenpjkinpecnfaaRelexNone
import Derived.KernelRfl
namespace Go.Proofs.Ytenpjkinpecnfaa
open Go Go.Am
set_option maxRecDepth 100000
set_option linter.unusedSimpArgs false
set_option linter.unusedVariables false

def letter (c : UInt8) : Prop := 97 ≤ c ∧ c ≤ 122
def toksF : List Tok := [⟨[105, 100], [91, 97, 45, 122, 93, 43], false⟩, ⟨[115, 112], [32], true⟩]
def rxsF : List Rx := [.rep 5 (.cls [⟨97, 122⟩]), .cls [⟨32, 32⟩]]
theorem patsF : PatsOf toksF (rxsF.map Rx.items) := .cons (by kernel_rfl) (.cons (by kernel_rfl) .none)
theorem rxsF_ok : ∀ e ∈ rxsF, e.ok := by
  intro e he
  simp only [rxsF, List.mem_cons, List.not_mem_nil, or_false] at he
  rcases he with rfl | rfl
  · exact ⟨by omega, by simp, by intro x hx; simp only [List.mem_singleton] at hx; subst hx; exact ⟨by decide, by decide, by decide⟩⟩
  · exact ⟨by simp, by intro x hx; simp only [List.mem_singleton] at hx; subst hx; exact ⟨by decide, by decide, by decide⟩⟩
theorem cls_letter {w : List UInt8} : Lang (.cls [⟨97, 122⟩]) w ↔ ∃ c, w = [c] ∧ letter c := by
  constructor
  · rintro ⟨c, rfl, r, hr, h1, h2⟩
    simp only [List.mem_singleton] at hr; subst hr
    exact ⟨c, rfl, h1, h2⟩
  · rintro ⟨c, rfl, h1, h2⟩; exact ⟨c, rfl, ⟨97, 122⟩, by simp, h1, h2⟩
theorem lang_word {w : List UInt8} : Lang (.rep 5 (.cls [⟨97, 122⟩])) w ↔ w ≠ [] ∧ ∀ c ∈ w, letter c := by
  constructor
  · rintro (⟨_, h⟩ | ⟨h, _⟩ | ⟨_, h⟩)
    · omega
    · omega
    · induction h with
      | one h => obtain ⟨c, rfl, hc⟩ := cls_letter.1 h; exact ⟨by simp, fun d hd => by simp only [List.mem_singleton] at hd; subst hd; exact hc⟩
      | more h _ ih =>
        obtain ⟨c, rfl, hc⟩ := cls_letter.1 h
        refine ⟨by simp, fun d hd => ?_⟩
        rcases List.mem_append.1 hd with hd | hd
        · simp only [List.mem_singleton] at hd; subst hd; exact hc
        · exact ih.2 d hd
  · rintro ⟨hne, h⟩
    refine .inr (.inr ⟨by omega, ?_⟩)
    cases w with
    | nil => exact absurd rfl hne
    | cons c w =>
      clear hne
      induction w generalizing c with
      | nil => exact .one (cls_letter.2 ⟨c, rfl, h c (by simp)⟩)
      | cons d w ih => exact .more (u := [c]) (cls_letter.2 ⟨c, rfl, h c (by simp)⟩) (ih d fun x hx => h x (by simp [hx]))
theorem hasF {w : List UInt8} {m : Nat} : HasR rxsF w m ↔ (m = 0 ∧ w ≠ [] ∧ ∀ c ∈ w, letter c) ∨ (m = 1 ∧ w = [32]) := by
  have sp : Lang (.cls [⟨32, 32⟩]) w ↔ w = [32] := by
    constructor
    · rintro ⟨c, rfl, r, hr, h1, h2⟩
      simp only [List.mem_singleton] at hr; subst hr
      rw [UInt8.le_antisymm h2 h1]
    · rintro rfl; exact ⟨32, rfl, ⟨32, 32⟩, by simp, UInt8.le_refl _, UInt8.le_refl _⟩
  constructor
  · rintro ⟨e, he, h⟩
    match m, he with
    | 0, he => simp only [rxsF, List.getElem?_cons_zero, Option.some.injEq] at he; subst he; exact .inl ⟨rfl, lang_word.1 h⟩
    | 1, he => simp only [rxsF, List.getElem?_cons_succ, List.getElem?_cons_zero, Option.some.injEq] at he; subst he; exact .inr ⟨rfl, sp.1 h⟩
    | m + 2, he => simp [rxsF] at he
  · rintro (⟨rfl, h⟩ | ⟨rfl, h⟩)
    · exact ⟨_, rfl, lang_word.2 h⟩
    · exact ⟨_, rfl, sp.2 h⟩
theorem word_best {u v : List UInt8} (hu : u ≠ []) (hl : ∀ c ∈ u, letter c) (hv : v = [] ∨ v.head? = some 32) : BestR rxsF (u ++ v) 0 u.length true := by
  have hu0 := List.length_pos_iff.2 hu
  refine .inr ⟨rfl, hu0, by simp, hasF.2 (.inl ⟨rfl, ?_⟩), fun m hm => by omega, fun j j1 j2 m hm => ?_⟩
  · rw [List.take_left]; exact ⟨hu, hl⟩
  · rcases hv with rfl | hv
    · simp at j2; omega
    · cases v with
      | nil => simp at hv
      | cons c v =>
        simp only [List.head?_cons, Option.some.injEq] at hv
        subst hv
        have hmem : (32 : UInt8) ∈ (u ++ 32 :: v).take j := by
          rw [List.take_append, List.take_of_length_le (by omega)]
          refine List.mem_append_right _ ?_
          obtain ⟨d, hd⟩ : ∃ d, j - u.length = d + 1 := ⟨j - u.length - 1, by omega⟩
          rw [hd]; simp
        rcases hasF.1 hm with ⟨_, _, h⟩ | ⟨_, h⟩
        · exact absurd (h _ hmem).1 (by decide)
        · have := congrArg List.length h
          simp at this j2; omega
theorem sp_best {v : List UInt8} : BestR rxsF (32 :: v) 1 1 true := by
  refine .inr ⟨rfl, by omega, by simp, hasF.2 (.inr ⟨rfl, rfl⟩), fun m hm h => ?_, fun j j1 j2 m hm => ?_⟩
  · rcases hasF.1 h with ⟨_, _, h⟩ | ⟨h, _⟩
    · exact absurd (h 32 (by simp)).1 (by decide)
    · omega
  · obtain ⟨d, rfl⟩ : ∃ d, j = d + 1 := ⟨j - 1, by omega⟩
    rcases hasF.1 hm with ⟨_, _, h⟩ | ⟨_, h⟩
    · exact absurd (h 32 (by simp)).1 (by decide)
    · have := congrArg List.length h
      simp only [List.length_take, List.length_cons, List.length_nil] at this j2; omega
/-- Pieces: words, parted by blanks. -/
def Good : List (List UInt8) → Prop
  | [] => True
  | p :: ps => (p = [32] ∨ (p ≠ [] ∧ (∀ c ∈ p, letter c) ∧ (ps = [] ∨ ps.head? = some [32]))) ∧ Good ps
def toksP : Nat → List (List UInt8) → List Tk
  | _, [] => []
  | i, p :: ps => ⟨if p = [32] then 1 else 0, i, p.length⟩ :: toksP (i + p.length) ps
theorem toksP_spec {s : List UInt8} : ∀ (ps : List (List UInt8)) (i : Nat), Good ps → s.drop i = ps.flatten → i ≤ s.length → Toks rxsF s i (toksP i ps)
  | [], i, _, h, hi => by
    have := congrArg List.length h
    simp at this
    exact .nil (by omega)
  | p :: ps, i, ⟨hp, hg⟩, h, hi => by
    have hlen := congrArg List.length h
    simp only [List.length_drop, List.flatten_cons, List.length_append] at hlen
    have hdr : s.drop (i + p.length) = ps.flatten := by
      rw [← List.drop_drop, h, List.flatten_cons, List.drop_left]
    have hpl : 0 < p.length := by
      rcases hp with rfl | ⟨hp, _⟩
      · simp
      · exact List.length_pos_iff.2 hp
    have ih := toksP_spec ps (i + p.length) hg hdr (by omega)
    rw [toksP]
    by_cases h32 : p = [32]
    · subst h32
      rw [if_pos rfl]
      exact .one (by omega) (by rw [h]; exact sp_best) ih
    · rw [if_neg h32]
      rcases hp with hp | ⟨h1, h2, h3⟩
      · exact absurd hp h32
      · refine .one (k := 0) (by omega) ?_ ih
        rw [h, List.flatten_cons]
        refine word_best h1 h2 ?_
        rcases h3 with rfl | h3
        · exact .inl rfl
        · cases ps with
          | nil => simp at h3
          | cons q qs => simp only [List.head?_cons, Option.some.injEq] at h3; subst h3; exact .inr rfl

theorem toksP_len : ∀ (ps : List (List UInt8)) (i : Nat), (toksP i ps).length = ps.length
  | [], _ => rfl
  | p :: ps, i => by rw [toksP, List.length_cons, toksP_len ps, List.length_cons]
theorem toksP_app : ∀ (ps qs : List (List UInt8)) (i : Nat), toksP i (ps ++ qs) = toksP i ps ++ toksP (i + ps.flatten.length) qs
  | [], qs, i => by simp [toksP]
  | p :: ps, qs, i => by
    rw [List.cons_append, toksP, toksP_app ps qs, toksP, List.cons_append, List.flatten_cons, List.length_append, Nat.add_assoc]
/-- A token's text is its piece. -/
theorem piece_text {s p r : List UInt8} {k : Int} {i : Nat} (h : s.drop i = p ++ r) : (⟨k, i, p.length⟩ : Tk).text s = p := by
  unfold Tk.text
  rw [h, List.take_left]
/-- Pieces that are the same, so many bytes further on. -/
theorem same_piece {s t p r r' : List UInt8} {i j : Nat} {k : Int} (h : s.drop i = p ++ r) (h' : t.drop j = p ++ r') : sameT s t ((j : Int) - i) ⟨k, i, p.length⟩ ⟨k, j, p.length⟩ = true := by
  unfold sameT
  rw [piece_text h, piece_text h']
  simp
  omega
theorem front_pieces {s t : List UInt8} (X Y : List (List UInt8)) : ∀ (A : List (List UInt8)) (i : Nat), s.drop i = (A ++ X).flatten → t.drop i = (A ++ Y).flatten →
    frontN (sameT s t 0) (toksP i (A ++ X)) (toksP i (A ++ Y)) = A.length + frontN (sameT s t 0) (toksP (i + A.flatten.length) X) (toksP (i + A.flatten.length) Y)
  | [], i, _, _ => by simp
  | p :: A, i, h, h' => by
    rw [List.cons_append, List.flatten_cons] at h
    rw [List.cons_append, List.flatten_cons] at h'
    have hs := same_piece (k := if p = [32] then 1 else 0) h h'
    rw [show ((i : Int) - i) = 0 by omega] at hs
    rw [List.cons_append, List.cons_append, toksP, toksP, frontN, hs, if_pos rfl, front_pieces X Y A (i + p.length) (by rw [← List.drop_drop, h, List.drop_left]) (by rw [← List.drop_drop, h', List.drop_left]), List.flatten_cons, List.length_append, List.length_cons]
    simp only [Nat.add_assoc]
    omega

/-- All are the same. -/
def AllF (f : Tk → Tk → Bool) : List Tk → List Tk → Prop
  | [], [] => True
  | x :: a, y :: b => f x y = true ∧ AllF f a b
  | _, _ => False
theorem AllF.app {f : Tk → Tk → Bool} : ∀ {a b a' b' : List Tk}, AllF f a b → AllF f a' b' → AllF f (a ++ a') (b ++ b')
  | [], [], _, _, _, h => h
  | x :: a, y :: b, _, _, h, k => ⟨h.1, AllF.app h.2 k⟩
theorem AllF.rev {f : Tk → Tk → Bool} : ∀ {a b : List Tk}, AllF f a b → AllF f a.reverse b.reverse
  | [], [], _ => trivial
  | x :: a, y :: b, h => by
    rw [List.reverse_cons, List.reverse_cons]
    exact (AllF.rev h.2).app ⟨h.1, trivial⟩
theorem AllF.front {f : Tk → Tk → Bool} : ∀ {a b : List Tk} {x y : List Tk}, AllF f a b → frontN f (a ++ x) (b ++ y) = a.length + frontN f x y
  | [], [], _, _, _ => by simp
  | u :: a, v :: b, x, y, h => by
    rw [List.cons_append, List.cons_append, frontN, h.1, if_pos rfl, AllF.front h.2, List.length_cons]; omega
theorem pieces_all {s t : List UInt8} {d : Int} : ∀ (C : List (List UInt8)) (i j : Nat), d = (j : Int) - i → s.drop i = C.flatten → t.drop j = C.flatten → AllF (sameT s t d) (toksP i C) (toksP j C)
  | [], _, _, _, _, _ => trivial
  | p :: C, i, j, hd, h, h' => by
    rw [List.flatten_cons] at h h'
    refine ⟨by rw [hd]; exact same_piece h h', pieces_all C (i + p.length) (j + p.length) (by omega) (by rw [← List.drop_drop, h, List.drop_left]) (by rw [← List.drop_drop, h', List.drop_left])⟩
/-- A piece that is changed to another length: all others are kept. -/
theorem kept_pieces {A C : List (List UInt8)} {p q : List UInt8} {s t : List UInt8} (hs : s = (A ++ p :: C).flatten) (ht : t = (A ++ q :: C).flatten) (hpq : p.length ≠ q.length) :
    keptN s t (toksP 0 (A ++ p :: C)) (toksP 0 (A ++ q :: C)) = A.length + C.length := by
  have h1 := front_pieces (s := s) (t := t) (p :: C) (q :: C) A 0 (by rw [List.drop_zero]; exact hs) (by rw [List.drop_zero]; exact ht)
  have hno : ∀ (d : Int) (k k' : Int) (i j : Nat), sameT s t d ⟨k, i, p.length⟩ ⟨k', j, q.length⟩ = false := fun d k k' i j => by
    unfold sameT; rw [decide_eq_false hpq]; simp
  rw [Nat.zero_add, toksP, toksP, frontN, hno, if_neg (by simp), Nat.add_zero] at h1
  unfold keptN
  rw [h1]
  have hd : ∀ r : List UInt8, (toksP 0 (A ++ r :: C)).drop A.length = ⟨if r = [32] then 1 else 0, A.flatten.length, r.length⟩ :: toksP (A.flatten.length + r.length) C := fun r => by
    rw [toksP_app, Nat.zero_add, toksP, List.drop_left' (toksP_len A 0)]
  rw [hd, hd, List.reverse_cons, List.reverse_cons]
  have hdr : ∀ (r u : List UInt8), u = (A ++ r :: C).flatten → u.drop (A.flatten.length + r.length) = C.flatten := fun r u hu => by
    rw [hu, List.flatten_append, List.flatten_cons, ← List.append_assoc, ← List.length_append, List.drop_left]
  have hall := (pieces_all (d := (t.length : Int) - s.length) C (A.flatten.length + p.length) (A.flatten.length + q.length) (by
    rw [hs, ht]; simp only [List.flatten_append, List.flatten_cons, List.length_append]; omega) (hdr p s hs) (hdr q t ht)).rev
  rw [hall.front, List.length_reverse, toksP_len, frontN, hno, if_neg (by simp), Nat.add_zero]

end Go.Proofs.Ytenpjkinpecnfaa
