/-
  What stands for what: data of slices and structs, frozen, on a heap; lists of our own.
-/
import Derived.Test.YtaockkmmjinhpaaAmUy
namespace Go.Am
set_option linter.unusedVariables false
variable {T : TT} {F : Nat → Option Func}

/-- What is frozen stays. -/
structure Pst (h h' : Heap) : Prop where
  nxt : h.nxt ≤ h'.nxt
  frz : ∀ b cs, b < h.nxt → h.get b = some (.cells cs false) → h'.get b = some (.cells cs false)
theorem Pst.refl (h : Heap) : Pst h h := ⟨Nat.le_refl _, fun _ _ _ e => e⟩
theorem Pst.trans {a b c : Heap} (x : Pst a b) (y : Pst b c) : Pst a c := ⟨Nat.le_trans x.nxt y.nxt, fun k cs hk e => y.frz k cs (Nat.lt_of_lt_of_le hk x.nxt) (x.frz k cs hk e)⟩

/-- What was there stays, but what stands at S. -/
structure Upd (S : Nat → Prop) (h h' : Heap) : Prop where
  nxt : h.nxt ≤ h'.nxt
  get : ∀ b, b < h.nxt → ¬ S b → h'.get b = h.get b
  frz : ∀ b cs, b < h.nxt → h.get b = some (.cells cs false) → h'.get b = some (.cells cs false)
theorem Upd.pst {S : Nat → Prop} {h h' : Heap} (u : Upd S h h') : Pst h h' := ⟨u.nxt, u.frz⟩
theorem Upd.refl (S : Nat → Prop) (h : Heap) : Upd S h h := ⟨Nat.le_refl _, fun _ _ _ => rfl, fun _ _ _ e => e⟩
theorem Upd.trans {S : Nat → Prop} {a b c : Heap} (x : Upd S a b) (y : Upd S b c) : Upd S a c :=
  ⟨Nat.le_trans x.nxt y.nxt, fun k hk hs => (y.get k (Nat.lt_of_lt_of_le hk x.nxt) hs).trans (x.get k hk hs), (x.pst.trans y.pst).frz⟩
/-- Behind it other blocks are left alone, too, if they are new. -/
theorem Upd.trans' {S S' : Nat → Prop} {a b c : Heap} (x : Upd S a b) (y : Upd S' b c) (hs : ∀ k, S' k → k < a.nxt → S k) : Upd S a c :=
  ⟨Nat.le_trans x.nxt y.nxt, fun k hk h1 => (y.get k (Nat.lt_of_lt_of_le hk x.nxt) fun h2 => h1 (hs k h2 hk)).trans (x.get k hk h1), (x.pst.trans y.pst).frz⟩
theorem Upd.weak {S S' : Nat → Prop} {a b : Heap} (x : Upd S a b) (hs : ∀ k, k < a.nxt → S k → S' k) : Upd S' a b := ⟨x.nxt, fun k hk h1 => x.get k hk fun h2 => h1 (hs k hk h2), x.frz⟩
theorem Ext.upd {h h' : Heap} (e : Ext h h') (S : Nat → Prop) : Upd S h h' := ⟨e.nxt, fun b hb _ => e.get b hb, fun b cs hb g => (e.get b hb).trans g⟩
theorem Ext.pst {h h' : Heap} (e : Ext h h') : Pst h h' := ⟨e.nxt, fun b cs hb g => (e.get b hb).trans g⟩
theorem Upd.ext {S : Nat → Prop} {h h' : Heap} (u : Upd S h h') (hs : ∀ b, b < h.nxt → ¬ S b) : Ext h h' := ⟨u.nxt, fun b hb => u.get b hb (hs b hb)⟩
theorem Upd.put {S : Nat → Prop} {h : Heap} {b : Nat} (x : Blk) (hs : S b) (hb : ∀ cs, h.get b ≠ some (.cells cs false)) : Upd S h (h.put b x) := by
  refine ⟨Nat.le_refl _, fun c hc h1 => ?_, fun c cs hc g => ?_⟩
  · rw [Heap.get_put, if_neg (fun e : b = c => h1 (e ▸ hs))]
  · rw [Heap.get_put, if_neg (fun e : b = c => hb cs (by rw [e]; exact g))]; exact g
theorem Upd.del {S : Nat → Prop} {h : Heap} {b : Nat} (hs : S b) (hb : ∀ cs, h.get b ≠ some (.cells cs false)) : Upd S h (h.del b) := by
  refine ⟨Nat.le_refl _, fun c hc h1 => ?_, fun c cs hc g => ?_⟩
  · rw [Heap.get_del, if_neg (fun e : b = c => h1 (e ▸ hs))]
  · rw [Heap.get_del, if_neg (fun e : b = c => hb cs (by rw [e]; exact g))]; exact g

/-- A block is frozen. -/
def Heap.frz (h : Heap) (b : Nat) : Heap := match h.get b with
  | some (.cells cs _) => h.put b (.cells cs false)
  | _ => h
@[simp, go_sem] theorem frz_nxt (h : Heap) (b : Nat) : (h.frz b).nxt = h.nxt := by unfold Heap.frz; split <;> rfl
theorem frz_le (h : Heap) (b : Nat) : Le (h.frz b) h := by
  unfold Heap.frz
  split
  · rename_i cs w hb
    refine ⟨rfl, fun c x e => ?_⟩
    rw [Heap.get_put] at e
    split at e
    · rename_i hbc; subst hbc
      simp only [Option.some.injEq] at e; subst e
      exact ⟨_, hb, w, rfl, by simp⟩
    · exact ⟨x, e, x.le_refl⟩
  · exact Le.refl _
theorem frz_ne {h : Heap} {b c : Nat} (hc : c ≠ b) : (h.frz b).get c = h.get c := by
  unfold Heap.frz
  split
  · rw [Heap.get_put, if_neg (fun e => hc e.symm)]
  · rfl
theorem frz_eq {h : Heap} {b : Nat} {cs : List AV} {w : Bool} (hb : h.get b = some (.cells cs w)) : (h.frz b).get b = some (.cells cs false) := by
  unfold Heap.frz
  rw [hb]
  simp [Heap.get_put]
theorem frz_upd {S : Nat → Prop} {h : Heap} {b : Nat} (hs : S b) : Upd S h (h.frz b) := by
  refine ⟨by simp, fun c hc h1 => frz_ne fun e => h1 (e ▸ hs), fun c cs hc g => ?_⟩
  by_cases e : c = b
  · subst e; exact frz_eq g
  · rw [frz_ne e]; exact g
theorem frz_pst (h : Heap) (b : Nat) : Pst h (h.frz b) := (frz_upd (S := fun _ => True) trivial).pst

/-- A slice's block is frozen. -/
def Heap.frzV (h : Heap) (v : AV) : Heap := match v with
  | .slc (some (b, _)) _ _ _ => h.frz b
  | _ => h
def AV.base : AV → Option Nat
  | .slc (some (b, _)) _ _ _ => some b
  | _ => none
@[simp, go_sem] theorem frzV_nxt (h : Heap) (v : AV) : (h.frzV v).nxt = h.nxt := by unfold Heap.frzV; split <;> simp
theorem frzV_le (h : Heap) (v : AV) : Le (h.frzV v) h := by unfold Heap.frzV; split; exact frz_le _ _; exact Le.refl _
theorem frzV_pst (h : Heap) (v : AV) : Pst h (h.frzV v) := by unfold Heap.frzV; split; exact frz_pst _ _; exact Pst.refl _
theorem frzV_upd {S : Nat → Prop} {h : Heap} {v : AV} (hs : ∀ b, v.base = some b → S b) : Upd S h (h.frzV v) := by
  unfold Heap.frzV
  split
  · rename_i b _ _ _ _; exact frz_upd (hs b rfl)
  · exact Upd.refl _ _

/-- A frozen slice, by its elements' cells. -/
def FSlc (h : Heap) (v : AV) (sz : Nat) (ls : List (List AV)) : Prop :=
  (ls = [] ∧ ∃ a cap z, v = .slc a 0 cap z ∧ (a.isSome = true → z = sz)) ∨
  ∃ b o cap cs, v = .slc (some (b, o)) ls.length cap sz ∧ BlkOf h b o sz ls cs false ∧ ∀ c, cap = some c → ls.length ≤ c
theorem FSlc.slc {h : Heap} {v : AV} {sz : Nat} {ls : List (List AV)} (s : FSlc h v sz ls) : Slc h v sz ls := by
  rcases s with s | ⟨b, o, cap, cs, e, hb, hc⟩
  · exact .inl s
  · exact .inr ⟨b, o, cap, cs, false, e, hb, hc⟩
theorem FSlc.pst {h h' : Heap} {v : AV} {sz : Nat} {ls : List (List AV)} (s : FSlc h v sz ls) (e : Pst h h') : FSlc h' v sz ls := by
  rcases s with s | ⟨b, o, cap, cs, rfl, hb, hc⟩
  · exact .inl s
  · exact .inr ⟨b, o, cap, cs, rfl, ⟨Nat.lt_of_lt_of_le hb.lt e.nxt, e.frz _ _ hb.lt hb.get, hb.len, hb.room, hb.win⟩, hc⟩
theorem Slc.frz {h : Heap} {v : AV} {sz : Nat} {ls : List (List AV)} (s : Slc h v sz ls) : FSlc (h.frzV v) v sz ls := by
  rcases s with s | ⟨b, o, cap, cs, wr, rfl, hb, hc⟩
  · exact .inl s
  · exact .inr ⟨b, o, cap, cs, rfl, ⟨by simp only [frzV_nxt]; exact hb.lt, by simp only [Heap.frzV]; exact frz_eq hb.get, hb.len, hb.room, hb.win⟩, hc⟩
theorem FSlc.sub {h : Heap} {v : AV} {sz t e l hh : Nat} {ti te : TI} {ls : List (List AV)} {lo hi : Option AV} (s : FSlc h v sz ls) (ht : T t = some ti) (hk : ti.kind = .slc e) (he : T e = some te) (hsz : te.size = sz)
    (hbd : ∀ n, ls.length ≤ n → (hi = none → n = ls.length) → sbounds n lo hi = some (l, hh)) (h1 : l ≤ hh) (h2 : hh ≤ ls.length) :
    ∃ v', sliceA T t v lo hi none = some v' ∧ FSlc h v' sz ((ls.take hh).drop l) := by
  rcases s with ⟨rfl, a, cap, z, rfl, hz⟩ | ⟨b, o, cap, cs, rfl, hb, hc⟩
  · obtain ⟨v', e1, e2, _⟩ := slice_slc (h := h) (.inl ⟨rfl, a, cap, z, rfl, hz⟩) ht hk he hsz hbd h1 h2
    refine ⟨v', e1, .inl ?_⟩
    have hh0 : hh = 0 := by simpa using h2
    subst hh0
    refine ⟨by simp, ?_⟩
    obtain ⟨a2, c2, z2, rfl⟩ := e2.form
    refine ⟨a2, c2, z2, by simp, ?_⟩
    intro ha
    rcases e2 with ⟨_, a3, c3, z3, e3, h3⟩ | ⟨b3, o3, c3, cs3, w3, e3, _⟩
    · simp only [AV.slc.injEq] at e3
      obtain ⟨rfl, _, _, rfl⟩ := e3
      exact h3 ha
    · simp only [AV.slc.injEq] at e3
      exact e3.2.2.2
  · obtain ⟨v', e1, e2, _⟩ := slice_slc (h := h) (.inr ⟨b, o, cap, cs, false, rfl, hb, hc⟩) ht hk he hsz hbd h1 h2
    refine ⟨v', e1, ?_⟩
    have hg : ¬ (((some (b, o)).isSome && sz != te.size) = true) := by simp [hsz]
    simp only [sliceA, ht, hk, he, if_neg hg] at e1
    split at e1
    · simp at e1
    · rename_i l' h' hb2
      have hbd2 : l' = l ∧ h' = hh := by
        cases cap with
        | none =>
          have := hbd ls.length (Nat.le_refl _) fun _ => rfl
          simp only at hb2; rw [this] at hb2; simp at hb2; exact ⟨hb2.1.symm, hb2.2.symm⟩
        | some c =>
          simp only at hb2
          cases hi with
          | none =>
            have := hbd ls.length (Nat.le_refl _) fun _ => rfl
            simp only [Option.isSome_none, Bool.false_eq_true, if_false] at hb2
            rw [this] at hb2; simp at hb2; exact ⟨hb2.1.symm, hb2.2.symm⟩
          | some hv =>
            have := hbd c (hc c rfl) (by simp)
            simp only [Option.isSome_some, if_true] at hb2
            rw [this] at hb2; simp at hb2; exact ⟨hb2.1.symm, hb2.2.symm⟩
      obtain ⟨rfl, rfl⟩ := hbd2
      obtain ⟨q1, q2⟩ := hb.sub h1 h2
      cases cap with
      | none =>
        simp only [Option.some.injEq] at e1
        subst e1
        refine .inr ⟨b, o + l' * te.size, none, cs, ?_, by rw [hsz]; exact q2, by simp⟩
        simp only [Option.map_some, q1]
      | some c =>
        simp only at e1
        split at e1
        · rename_i hlc
          simp only [Option.some.injEq] at e1
          subst e1
          by_cases hcl : c = l'
          · rw [if_pos hcl]
            have : h' - l' = 0 := by omega
            rw [this]
            refine .inl ⟨?_, _, _, _, rfl, fun _ => rfl⟩
            apply List.eq_nil_of_length_eq_zero; omega
          · rw [if_neg hcl]
            refine .inr ⟨b, o + l' * te.size, some (c - l'), cs, ?_, by rw [hsz]; exact q2, fun c' hc' => by simp at hc'; omega⟩
            simp only [Option.map_some, q1]
        · simp at e1

/-- Data that stands for something, by its cells. -/
class Rep (α : Type) where
  sz : Nat
  rep : Heap → α → List AV → Prop
  len : ∀ {h x cs}, rep h x cs → cs.length = sz
  leaf : ∀ {h x cs}, rep h x cs → cs.all AV.leaf = true
  pst : ∀ {h h' x cs}, rep h x cs → Pst h h' → rep h' x cs

instance : Rep Int := ⟨1, fun _ x cs => cs = [.int .i64 x], fun e => by rw [e]; rfl, fun e => by rw [e]; rfl, fun e _ => e⟩
instance : Rep Bool := ⟨1, fun _ x cs => cs = [.bool x], fun e => by rw [e]; rfl, fun e => by rw [e]; rfl, fun e _ => e⟩
instance : Rep UInt8 := ⟨1, fun _ x cs => cs = [.int .u8 x.toNat], fun e => by rw [e]; rfl, fun e => by rw [e]; rfl, fun e _ => e⟩
/-- A text, by its bytes. -/
def Str := List UInt8
instance : Rep Str := ⟨1, fun _ x cs => cs = [.str x], fun e => by rw [e]; rfl, fun e => by rw [e]; rfl, fun e _ => e⟩

section
variable {α : Type} [Rep α]
/-- Elements, one by one. -/
inductive Reps (h : Heap) : List α → List (List AV) → Prop
  | nil : Reps h [] []
  | cons {x l xs ls} : Rep.rep h x l → Reps h xs ls → Reps h (x :: xs) (l :: ls)
theorem Reps.length {h : Heap} : ∀ {xs : List α} {ls : List (List AV)}, Reps h xs ls → ls.length = xs.length
  | _, _, .nil => rfl
  | _, _, .cons _ r => by rw [List.length_cons, List.length_cons, r.length]
theorem Reps.lens {h : Heap} : ∀ {xs : List α} {ls : List (List AV)}, Reps h xs ls → ∀ l ∈ ls, l.length = Rep.sz α
  | _, _, .nil => by simp
  | _, _, .cons a r => fun l hl => by
    rcases List.mem_cons.1 hl with rfl | hl
    · exact Rep.len a
    · exact r.lens l hl
theorem Reps.leafs {h : Heap} : ∀ {xs : List α} {ls : List (List AV)}, Reps h xs ls → ∀ l ∈ ls, l.all AV.leaf = true
  | _, _, .nil => by simp
  | _, _, .cons a r => fun l hl => by
    rcases List.mem_cons.1 hl with rfl | hl
    · exact Rep.leaf a
    · exact r.leafs l hl
theorem Reps.pst {h h' : Heap} (e : Pst h h') : ∀ {xs : List α} {ls : List (List AV)}, Reps h xs ls → Reps h' xs ls
  | _, _, .nil => .nil
  | _, _, .cons a r => .cons (Rep.pst a e) (r.pst e)
theorem Reps.app {h : Heap} : ∀ {xs ys : List α} {ls ms : List (List AV)}, Reps h xs ls → Reps h ys ms → Reps h (xs ++ ys) (ls ++ ms)
  | _, _, _, _, .nil, s => s
  | _, _, _, _, .cons a r, s => .cons a (r.app s)
theorem Reps.take {h : Heap} : ∀ {xs : List α} {ls : List (List AV)} (n : Nat), Reps h xs ls → Reps h (xs.take n) (ls.take n)
  | _, _, 0, _ => by simp only [List.take_zero]; exact .nil
  | _, _, _ + 1, .nil => by simp only [List.take_nil]; exact .nil
  | _, _, n + 1, .cons a r => by simp only [List.take_succ_cons]; exact .cons a (r.take n)
theorem Reps.drop {h : Heap} : ∀ {xs : List α} {ls : List (List AV)} (n : Nat), Reps h xs ls → Reps h (xs.drop n) (ls.drop n)
  | _, _, 0, r => r
  | _, _, _ + 1, .nil => by simp only [List.drop_nil]; exact .nil
  | _, _, n + 1, .cons a r => by simp only [List.drop_succ_cons]; exact r.drop n
theorem Reps.at_ {h : Heap} : ∀ {xs : List α} {ls : List (List AV)}, Reps h xs ls → ∀ (i : Nat) (x : α), xs[i]? = some x → ∃ l, ls[i]? = some l ∧ Rep.rep h x l
  | _, _, .nil, i, x, e => by simp at e
  | _, _, .cons a r, 0, x, e => by simp only [List.getElem?_cons_zero, Option.some.injEq] at e; subst e; exact ⟨_, rfl, a⟩
  | _, _, .cons a r, i + 1, x, e => by simpa using r.at_ i x (by simpa using e)
theorem Reps.one {h : Heap} {x : α} {l : List AV} (a : Rep.rep h x l) : Reps h [x] [l] := .cons a .nil
theorem Reps.set {h : Heap} {y : α} {m : List AV} (b : Rep.rep h y m) : ∀ {xs : List α} {ls : List (List AV)} (i : Nat), Reps h xs ls → Reps h (xs.set i y) (ls.set i m)
  | _, _, _, .nil => .nil
  | _, _, 0, .cons a r => .cons b r
  | _, _, i + 1, .cons a r => .cons a (r.set b i)

/-- A frozen slice. -/
def Lst (h : Heap) (v : AV) (xs : List α) : Prop := ∃ ls, FSlc h v (Rep.sz α) ls ∧ Reps h xs ls
/-- A slice of our own. -/
def LOwn (m : Nat) (h : Heap) (v : AV) (xs : List α) : Prop := ∃ ls, Own m h v (Rep.sz α) ls ∧ Reps h xs ls
/-- A slice that was made anew: nothing, or one that grows by moving. -/
def LFresh (m : Nat) (h : Heap) (v : AV) (xs : List α) : Prop := ∃ ls, Fresh m h v (Rep.sz α) ls ∧ Reps h xs ls
/-- A slice of which no more is known. -/
def LSlc (h : Heap) (v : AV) (xs : List α) : Prop := ∃ ls, Slc h v (Rep.sz α) ls ∧ Reps h xs ls
theorem Lst.slc {h : Heap} {v : AV} {xs : List α} (s : Lst h v xs) : LSlc h v xs := by obtain ⟨ls, a, b⟩ := s; exact ⟨ls, a.slc, b⟩
theorem LOwn.slc {m : Nat} {h : Heap} {v : AV} {xs : List α} (s : LOwn m h v xs) : LSlc h v xs := by obtain ⟨ls, a, b⟩ := s; exact ⟨ls, a.slc, b⟩
theorem LFresh.own {m : Nat} {h : Heap} {v : AV} {xs : List α} (s : LFresh m h v xs) : LOwn m h v xs := by obtain ⟨ls, a, b⟩ := s; exact ⟨ls, a.own, b⟩
theorem LFresh.slc {m : Nat} {h : Heap} {v : AV} {xs : List α} (s : LFresh m h v xs) : LSlc h v xs := s.own.slc
theorem LSlc.frz {h : Heap} {v : AV} {xs : List α} (s : LSlc h v xs) : Lst (h.frzV v) v xs := by obtain ⟨ls, a, b⟩ := s; exact ⟨ls, a.frz, b.pst (frzV_pst _ _)⟩
theorem Lst.pst {h h' : Heap} {v : AV} {xs : List α} (s : Lst h v xs) (e : Pst h h') : Lst h' v xs := by obtain ⟨ls, a, b⟩ := s; exact ⟨ls, a.pst e, b.pst e⟩
theorem Lst.ext {h h' : Heap} {v : AV} {xs : List α} (s : Lst h v xs) (e : Ext h h') : Lst h' v xs := s.pst e.pst
theorem LFresh.le {m m' : Nat} {h : Heap} {v : AV} {xs : List α} (s : LFresh m h v xs) (hm : m' ≤ m) : LFresh m' h v xs := by obtain ⟨ls, a, b⟩ := s; exact ⟨ls, a.le hm, b⟩
theorem LSlc.form {h : Heap} {v : AV} {xs : List α} (s : LSlc h v xs) : ∃ a cap z, v = .slc a xs.length cap z := by
  obtain ⟨ls, a, b⟩ := s; obtain ⟨x, c, z, e⟩ := a.form; rw [b.length] at e; exact ⟨x, c, z, e⟩
theorem Lst.form {h : Heap} {v : AV} {xs : List α} (s : Lst h v xs) : ∃ a n cap z, v = .slc a n cap z ∧ n = xs.length := by obtain ⟨a, c, z, e⟩ := s.slc.form; exact ⟨a, _, c, z, e, rfl⟩
theorem LFresh.form {m : Nat} {h : Heap} {v : AV} {xs : List α} (s : LFresh m h v xs) : ∃ a n cap z, v = .slc a n cap z ∧ n = xs.length := by obtain ⟨a, c, z, e⟩ := s.slc.form; exact ⟨a, _, c, z, e, rfl⟩
theorem LOwn.form {m : Nat} {h : Heap} {v : AV} {xs : List α} (s : LOwn m h v xs) : ∃ a n cap z, v = .slc a n cap z ∧ n = xs.length := by obtain ⟨a, c, z, e⟩ := s.slc.form; exact ⟨a, _, c, z, e, rfl⟩
theorem Lst.nil {h : Heap} : Lst (α := α) h (.slc none 0 (some 0) 0) [] := ⟨[], .inl ⟨rfl, none, some 0, 0, rfl, by simp⟩, .nil⟩
theorem LFresh.nil {m : Nat} {h : Heap} : LFresh (α := α) m h (.slc none 0 (some 0) 0) [] := ⟨[], Fresh.nil, .nil⟩
theorem LOwn.nil {m : Nat} {h : Heap} : LOwn (α := α) m h (.slc none 0 (some 0) 0) [] := ⟨[], Own.nil, .nil⟩

/-- What an element's cells are. -/
theorem LSlc.at_ {h : Heap} {a n cap z} {xs : List α} (s : LSlc h (.slc a n cap z) xs) {i : Nat} {x : α} (hi : xs[i]? = some x) {k : Nat} (hk : Rep.sz α = k) :
    ∃ b o cs wr l, a = some (b, o) ∧ z = k ∧ b < h.nxt ∧ h.get b = some (.cells cs wr) ∧ Rep.rep h x l ∧ o + i * k + k ≤ cs.length ∧ (cs.drop (o + i * k)).take k = l ∧ ∀ j, j < k → cs[o + i * k + j]? = l[j]? := by
  obtain ⟨ls, s1, s2⟩ := s
  obtain ⟨l, hl, hr⟩ := s2.at_ i x hi
  obtain ⟨b, o, cs, wr, h1, h2, h3, h4, h5⟩ := s1.atN (by have := (List.getElem?_eq_some_iff.1 hl).1; omega)
  obtain ⟨h6, h7⟩ := h5 i l hl
  subst hk
  refine ⟨b, o, cs, wr, l, h1, h2, h3, h4, hr, h6, h7, fun j hj => ?_⟩
  rw [← h7, List.getElem?_take, if_pos hj, List.getElem?_drop]
theorem Lst.at_ {h : Heap} {a n cap z} {xs : List α} (s : Lst h (.slc a n cap z) xs) {i : Nat} {x : α} (hi : xs[i]? = some x) {k : Nat} (hk : Rep.sz α = k) :
    ∃ b o cs l, a = some (b, o) ∧ z = k ∧ b < h.nxt ∧ h.get b = some (.cells cs false) ∧ Rep.rep h x l ∧ o + i * k + k ≤ cs.length ∧ (cs.drop (o + i * k)).take k = l ∧ ∀ j, j < k → cs[o + i * k + j]? = l[j]? := by
  obtain ⟨b, o, cs, wr, l, h1, h2, h3, h4, h5⟩ := s.slc.at_ hi hk
  obtain ⟨ls, s1, s2⟩ := s
  have hp := (List.getElem?_eq_some_iff.1 hi).1
  rcases s1 with ⟨rfl, _⟩ | ⟨b', o', cap', cs', e, hb, _⟩
  · have := s2.length; simp at this; omega
  · simp only [AV.slc.injEq] at e
    rw [h1] at e
    simp only [Option.some.injEq, Prod.mk.injEq] at e
    obtain ⟨⟨rfl, rfl⟩, _⟩ := e
    have := hb.get
    rw [h4] at this
    simp only [Option.some.injEq, Blk.cells.injEq] at this
    obtain ⟨rfl, rfl⟩ := this
    exact ⟨b, o, cs, l, h1, h2, h3, h4, h5⟩

/-- More of a list of our own. -/
theorem lappend {K : KH} {m : Nat} {h : Heap} {v x : AV} {t e : Nat} {ti te : TI} {xs ys : List α} (ht : T t = some ti) (hk : ti.kind = .slc e) (he : T e = some te) (hsz : te.size = Rep.sz α) (hb0 : te.bytes ≠ 0) (hb1 : te.bytes ≤ 1048576)
    (s : LOwn m h v xs) (sx : LSlc h x ys) (hm : m ≤ h.nxt) (hr : (xs.length + ys.length) * te.bytes ≤ roomA)
    (k : ∀ v' h', h.nxt ≤ h'.nxt → (∀ b, b < h.nxt → v.blk ≠ some b → h'.get b = h.get b) → LOwn m h' v' (xs ++ ys) → ((ys = [] ∧ v' = v ∧ h' = h) ∨ (LFresh m h' v' (xs ++ ys) ∧ ∀ b, v'.blk = some b → h.nxt ≤ b)) → Pst h h' → K.k v' h') :
    @OBk (appendA T t v x h) K := by
  obtain ⟨ls, s1, s2⟩ := s
  obtain ⟨ms, x1, x2⟩ := sx
  refine append_k ht hk he hsz hb0 hb1 s1 x1 x2.lens x2.leafs hm (by rw [s2.length, x2.length]; exact hr) fun v' h' h1 h2 h3 => ?_
  have hP : Pst h h' := by
    refine ⟨h1, fun b cs hb hg => ?_⟩
    rw [h2 b hb]; exact hg
    intro e
    rcases s1 with ⟨rfl, a, z, rfl, _⟩ | ⟨_, _, a, z, rfl⟩ | ⟨b', o, cs', rfl, _, hb'⟩
    · cases a <;> simp [AV.blk] at e
    · cases a <;> simp [AV.blk] at e
    · simp [AV.blk] at e; subst e; rw [hb'.get] at hg; simp at hg
  refine k v' h' h1 h2 ?_ ?_ hP
  · rcases h3 with ⟨rfl, rfl, rfl⟩ | ⟨h3, h4, _⟩
    · have := x2.length; simp at this
      have : ys = [] := by apply List.eq_nil_of_length_eq_zero; omega
      subst this
      rw [List.append_nil]; exact ⟨ls, s1, s2⟩
    · exact ⟨_, h4.own, (s2.app x2).pst hP⟩
  · rcases h3 with ⟨rfl, rfl, rfl⟩ | ⟨h3, h4, h5⟩
    · have := x2.length; simp at this
      have : ys = [] := by apply List.eq_nil_of_length_eq_zero; omega
      exact .inl ⟨this, rfl, rfl⟩
    · exact .inr ⟨⟨_, h4.fresh, (s2.app x2).pst hP⟩, h5⟩
end

instance {α : Type} [Rep α] : Rep (List α) := ⟨1, fun h xs cs => ∃ v, cs = [v] ∧ Lst h v xs, fun ⟨v, e, _⟩ => by rw [e]; rfl, fun ⟨v, e, s⟩ => by
  obtain ⟨a, n, c, z, rfl, _⟩ := s.form; rw [e]; rfl, fun ⟨v, e, s⟩ p => ⟨v, e, s.pst p⟩⟩

end Go.Am
