/-
  Stacks: slices of our own that are cut at their end and appended to.
-/
import Derived.Test.YtaockkmmjinhpaaAmUr
namespace Go.Am
set_option maxRecDepth 100000
set_option linter.unusedVariables false
set_option linter.unusedSimpArgs false
variable {T : TT} {F : Nat → Option Func}

theorem setCells_get : ∀ (vs cs : List AV) (o i : Nat), o + vs.length ≤ cs.length → (setCells cs o vs)[i]? = if o ≤ i ∧ i < o + vs.length then vs[i - o]? else cs[i]?
  | [], cs, o, i, _ => by
    rw [setCells, if_neg]
    simp only [List.length_nil]; omega
  | v :: vs, cs, o, i, h => by
    simp only [List.length_cons] at h ⊢
    rw [setCells, setCells_get vs _ _ _ (by simp; omega)]
    by_cases hi : i = o
    · subst hi
      rw [if_neg (by omega), if_pos (by omega), List.getElem?_set_self (by omega), Nat.sub_self]; rfl
    · by_cases h1 : o + 1 ≤ i ∧ i < o + 1 + vs.length
      · rw [if_pos h1, if_pos (by omega), show i - o = (i - (o + 1)) + 1 by omega, List.getElem?_cons_succ]
      · rw [if_neg h1, if_neg (by omega), List.getElem?_set_ne (Ne.symm hi)]

/-- A slice of our own with room that is known. -/
def CapS (m : Nat) (h : Heap) (v : AV) (sz : Nat) (ls : List (List AV)) : Prop :=
  ∃ b o c cs, v = .slc (some (b, o)) ls.length (some c) sz ∧ m ≤ b ∧ ls.length ≤ c ∧ o + c * sz ≤ cs.length ∧ BlkOf h b o sz ls cs true
theorem CapS.slc {m : Nat} {h : Heap} {v : AV} {sz : Nat} {ls : List (List AV)} (s : CapS m h v sz ls) : Slc h v sz ls := by
  obtain ⟨b, o, c, cs, rfl, _, hc, _, hb⟩ := s
  exact .inr ⟨b, o, some c, cs, true, rfl, hb, fun c' e => by simp at e; omega⟩
theorem CapS.base_ {m : Nat} {h : Heap} {v : AV} {sz : Nat} {ls : List (List AV)} (s : CapS m h v sz ls) {b : Nat} (e : v.base = some b) : m ≤ b ∧ b < h.nxt ∧ ∃ cs, h.get b = some (.cells cs true) := by
  obtain ⟨b', o, c, cs, rfl, hm, _, _, hb⟩ := s
  simp [AV.base] at e; subst e
  exact ⟨hm, hb.lt, cs, hb.get⟩
theorem Mine.base_ {m : Nat} {h : Heap} {v : AV} {sz : Nat} {ls : List (List AV)} (s : Mine m h v sz ls) {b : Nat} (e : v.base = some b) : m ≤ b ∧ b < h.nxt ∧ ∃ cs, h.get b = some (.cells cs true) := by
  obtain ⟨b', o, cs, rfl, hm, hb⟩ := s
  simp [AV.base] at e; subst e
  exact ⟨hm, hb.lt, cs, hb.get⟩

theorem cap_append {m : Nat} {h : Heap} {v x : AV} {sz t e : Nat} {ti te : TI} {ls new : List (List AV)} (s : CapS m h v sz ls) (sx : Slc h x sz new) (hln : ∀ l ∈ new, l.length = sz) (hv : ∀ l ∈ new, l.all AV.leaf = true) (hm : m ≤ h.nxt)
    (ht : T t = some ti) (hk : ti.kind = .slc e) (he : T e = some te) (hsz : te.size = sz) (hb0 : te.bytes ≠ 0) (hb1 : te.bytes ≤ 1048576) (hr : (ls.length + new.length) * te.bytes ≤ roomA) :
    ∃ v' h', appendA T t v x h = some (v', h') ∧ Upd (fun b => v.base = some b) h h' ∧ ((CapS m h' v' sz (ls ++ new) ∧ v'.base = v.base) ∨ (Mine m h' v' sz (ls ++ new) ∧ ∀ b, v'.base = some b → h.nxt ≤ b)) := by
  have hr2 : ls.length + new.length ≤ roomA := Nat.le_trans (Nat.le_mul_of_pos_right _ (Nat.pos_of_ne_zero hb0)) hr
  have hco := comes_of sx hv
  have hcond : ¬ (ls.length + new.length > roomA ∨ te.bytes = 0 ∨ te.bytes > 1048576 ∨ (ls.length + new.length) * te.bytes > roomA) := by omega
  have hl3 : ∀ {l1 : List (List AV)}, (∀ l ∈ l1, l.length = sz) → ∀ l ∈ l1 ++ new, l.length = sz := fun h1 l hl => (List.mem_append.1 hl).elim (h1 l) (hln l)
  obtain ⟨b, o, c, cs, rfl, hmb, hlc, hoc, hb⟩ := s
  have hg' : ¬ (((some (b, o)).isSome && sz != te.size) = true) := by simp [hsz]
  simp only [appendA, ht, hk, he, if_neg hg']
  rw [hsz, hco]
  simp only [if_neg hcond]
  have hfl := flat_len hln
  by_cases hle : ls.length + new.length ≤ c
  · rw [if_pos hle]
    have hroom : o + ls.length * sz + new.length * sz ≤ cs.length := by
      have := Nat.mul_le_mul_right sz hle
      rw [Nat.add_mul] at this; omega
    cases hn : new.flatten with
    | nil =>
      refine ⟨_, _, rfl, Upd.refl _ _, .inl ⟨⟨b, o, c, cs, by simp, hmb, by simp; omega, hoc, hb.lt, hb.get, hl3 hb.len, by simp [Nat.add_mul]; omega, ?_⟩, rfl⟩⟩
      rw [List.flatten_append, hn, List.append_nil, ← hb.win]
      congr 1
      rw [List.length_append, Nat.add_mul, ← hfl, hn]; rfl
    | cons y ys =>
      simp only
      rw [← hn]
      have hlv : new.flatten.all AV.leaf = true := by
        rw [List.all_eq_true]; intro z hz
        obtain ⟨l, hl, hz⟩ := List.mem_flatten.1 hz
        exact List.all_eq_true.1 (hv l hl) z hz
      have hst : storeCells h b (o + ls.length * sz) new.flatten = some (h.put b (.cells (setCells cs (o + ls.length * sz) new.flatten) true)) := by
        simp only [storeCells, hb.get, hfl, hroom, hlv, and_self, if_true]
      rw [hst]
      refine ⟨_, _, rfl, Upd.put _ rfl fun c' e => by rw [hb.get] at e; simp at e, .inl ⟨⟨b, o, c, setCells cs (o + ls.length * sz) new.flatten, by simp, hmb, by simp; omega, by rw [setCells_len]; exact hoc, by simp; exact hb.lt, by rw [Heap.get_put, if_pos rfl], hl3 hb.len, by rw [setCells_len, List.length_append, Nat.add_mul]; omega, ?_⟩, rfl⟩⟩
      rw [List.flatten_append, List.length_append, Nat.add_mul, ← hb.win, ← hfl]
      refine List.ext_getElem? fun i => ?_
      have hwl : (List.take (ls.length * sz) (List.drop o cs)).length = ls.length * sz := by rw [List.length_take, List.length_drop]; omega
      rw [List.getElem?_take]
      by_cases h1 : i < ls.length * sz
      · rw [if_pos (by omega), List.getElem?_drop, setCells_get _ _ _ _ (by rw [hfl]; exact hroom), if_neg (by omega), List.getElem?_append_left (by omega), List.getElem?_take, if_pos h1, List.getElem?_drop]
      · by_cases h2 : i < ls.length * sz + new.flatten.length
        · rw [if_pos h2, List.getElem?_drop, setCells_get _ _ _ _ (by rw [hfl]; exact hroom), if_pos (by omega), List.getElem?_append_right (by omega), hwl]
          congr 1; omega
        · rw [if_neg h2]
          exact (List.getElem?_eq_none (by rw [List.length_append, hwl]; omega)).symm
  · rw [if_neg hle]
    by_cases h0 : ls.length = 0
    · simp only [if_pos h0]
      have : ls = [] := List.eq_nil_of_length_eq_zero h0
      subst this
      exact ⟨_, _, rfl, (Ext.add _ _).upd _, .inr ⟨fresh_slc hm hln, fun b hb => by simp [AV.base] at hb; omega⟩⟩
    · simp only [if_neg h0, loadCells, hb.get, hb.room, if_true, hb.win]
      have := fresh_slc (ls := ls ++ new) (sz := sz) hm (hl3 hb.len)
      rw [List.flatten_append, List.length_append] at this
      exact ⟨_, _, rfl, (Ext.add _ _).upd _, .inr ⟨this, fun b hb => by simp [AV.base] at hb; omega⟩⟩
theorem cap_hi {m : Nat} {h : Heap} {v : AV} {sz t e i : Nat} {ti te : TI} {ls : List (List AV)} {kd : IntKind} (s : CapS m h v sz ls) (ht : T t = some ti) (hk : ti.kind = .slc e) (he : T e = some te) (hsz : te.size = sz) (hi : i ≤ ls.length) (hp : 0 < ls.length) :
    ∃ v', sliceA T t v none (some (.int kd i)) none = some v' ∧ CapS m h v' sz (ls.take i) ∧ v'.base = v.base := by
  obtain ⟨b, o, c, cs, rfl, hm, hc, hoc, hb⟩ := s
  have hg' : ¬ (((some (b, o)).isSome && sz != te.size) = true) := by simp [hsz]
  obtain ⟨q1, q2⟩ := hb.sub (Nat.zero_le i) hi
  simp only [sliceA, ht, hk, he, if_neg hg']
  have hbn : sbounds (if (some (AV.int kd (i : Int))).isSome = true then c else ls.length) none (some (.int kd i)) = some (0, i) := by
    have := sbounds_hi (n := c) (k := kd) (i := (i : Int)) (by omega) (by omega)
    simpa using this
  rw [hbn]
  simp only [if_pos (show 0 ≤ c ∧ i ≤ c by omega), if_neg (show ¬ c = 0 by omega)]
  simp only [List.drop_zero, Nat.zero_mul, Nat.add_zero, Nat.sub_zero] at q1 q2
  refine ⟨_, rfl, ⟨b, o, c, cs, ?_, hm, by rw [q1]; omega, hoc, q2⟩, rfl⟩
  simp [q1, hsz]

theorem blk_base {v : AV} {b : Nat} (e : v.blk = some b) : v.base = some b := by
  unfold AV.blk at e
  split at e
  · simpa [AV.base] using e
  · cases e
/-- A stack of ours. -/
def LStk {α : Type} [Rep α] (m : Nat) (h : Heap) (v : AV) (xs : List α) : Prop := ∃ ls, (Mine m h v (Rep.sz α) ls ∨ CapS m h v (Rep.sz α) ls) ∧ Reps h xs ls
section
variable {α : Type} [Rep α]
theorem LStk.slc {m : Nat} {h : Heap} {v : AV} {xs : List α} (s : LStk m h v xs) : LSlc h v xs := by
  obtain ⟨ls, a | a, b⟩ := s
  · exact ⟨ls, a.slc, b⟩
  · exact ⟨ls, a.slc, b⟩
theorem LStk.form {m : Nat} {h : Heap} {v : AV} {xs : List α} (s : LStk m h v xs) : ∃ a n cap z, v = .slc a n cap z ∧ n = xs.length := by obtain ⟨a, c, z, e⟩ := s.slc.form; exact ⟨a, _, c, z, e, rfl⟩
theorem LStk.base_ {m : Nat} {h : Heap} {v : AV} {xs : List α} (s : LStk m h v xs) {b : Nat} (e : v.base = some b) : m ≤ b ∧ b < h.nxt ∧ ∃ cs, h.get b = some (.cells cs true) := by
  obtain ⟨ls, a | a, _⟩ := s
  · exact a.base_ e
  · exact a.base_ e
theorem LStk.upd {m : Nat} {h h' : Heap} {v : AV} {xs : List α} {S : Nat → Prop} (s : LStk m h v xs) (u : Upd S h h') (hS : ∀ b, m ≤ b → v.base = some b → ¬ S b) : LStk m h' v xs := by
  obtain ⟨ls, a | a, r⟩ := s
  · refine ⟨ls, .inl (a.keep u.nxt fun b o n c z e hb => u.get b hb (hS b ?_ (by rw [e]; rfl))), r.pst u.pst⟩
    exact (a.base_ (b := b) (by rw [e]; rfl)).1
  · refine ⟨ls, .inr ?_, r.pst u.pst⟩
    obtain ⟨b, o, c, cs, rfl, hm, hc, hoc, hb⟩ := a
    exact ⟨b, o, c, cs, rfl, hm, hc, hoc, hb.keep u.nxt (u.get b hb.lt (hS b hm rfl))⟩
theorem stk_lit {h : Heap} {xs : List α} {ls : List (List AV)} {cs : List AV} {m b n z : Nat} (hb : b < h.nxt) (hm : m ≤ b) (hg : h.get b = some (.cells cs true)) (hc : cs = ls.flatten) (hr : Reps h xs ls) (hn : n = ls.length) (hz : z = Rep.sz α) : LStk m h (.slc (some (b, 0)) n (some n) z) xs := by
  subst hc; subst hn; subst hz
  refine ⟨ls, .inr ⟨b, 0, ls.length, _, rfl, hm, Nat.le_refl _, ?_, hb, hg, hr.lens, ?_, ?_⟩, hr⟩
  · rw [flat_len hr.lens]; omega
  · rw [flat_len hr.lens]; omega
  · rw [List.drop_zero, ← flat_len hr.lens, List.take_length]
theorem sappend {K : KH} {m : Nat} {h : Heap} {v x : AV} {t e : Nat} {ti te : TI} {xs ys : List α} (ht : T t = some ti) (hk : ti.kind = .slc e) (he : T e = some te) (hsz : te.size = Rep.sz α) (hb0 : te.bytes ≠ 0) (hb1 : te.bytes ≤ 1048576)
    (s : LStk m h v xs) (sx : LSlc h x ys) (hm : m ≤ h.nxt) (hr : (xs.length + ys.length) * te.bytes ≤ roomA)
    (k : ∀ v' h', LStk m h' v' (xs ++ ys) → Upd (fun b => v.base = some b) h h' → (∀ b, v'.base = some b → v.base = some b ∨ h.nxt ≤ b) → K.k v' h') :
    @OBk (appendA T t v x h) K := by
  obtain ⟨ls, s1, s2⟩ := s
  obtain ⟨ms, x1, x2⟩ := sx
  have hl1 := s2.length
  have hl2 := x2.length
  rcases s1 with s1 | s1
  · refine append_k ht hk he hsz hb0 hb1 s1.own x1 x2.lens x2.leafs hm (by rw [hl1, hl2]; exact hr) fun v' h' n1 g1 c1 => ?_
    have u : Upd (fun b => v.base = some b) h h' := ⟨n1, fun b hb hne => g1 b hb fun e => hne (blk_base e), fun b cs hb e => by
      by_cases hv : v.blk = some b
      · obtain ⟨b', o, cs', rfl, _, hb'⟩ := s1
        simp [AV.blk] at hv; subst hv; rw [hb'.get] at e; simp at e
      · rw [g1 b hb hv]; exact e⟩
    rcases c1 with ⟨rfl, rfl, rfl⟩ | ⟨hp, M, b1⟩
    · have : ys = [] := by apply List.eq_nil_of_length_eq_zero; simp at hl2; omega
      subst this
      exact k _ _ ⟨ls, .inl s1, by simpa using s2⟩ u fun b e => .inl e
    · refine k _ _ ⟨_, .inl M, (s2.app x2).pst u.pst⟩ u fun b e => .inr (b1 b ?_)
      obtain ⟨b', o, cs', rfl, _, _⟩ := M
      simpa [AV.blk, AV.base] using e
  · obtain ⟨v', h', e1, u, c⟩ := cap_append s1 x1 x2.lens x2.leafs hm ht hk he hsz hb0 hb1 (by rw [hl1, hl2]; exact hr)
    refine OBk_of e1 (k v' h' ?_ u ?_)
    · rcases c with ⟨c, _⟩ | ⟨c, _⟩
      · exact ⟨_, .inr c, (s2.app x2).pst u.pst⟩
      · exact ⟨_, .inl c, (s2.app x2).pst u.pst⟩
    · intro b e
      rcases c with ⟨_, c⟩ | ⟨_, c⟩
      · exact .inl (by rw [← c]; exact e)
      · exact .inr (c b e)
theorem stk_hi {K : KH} {m : Nat} {h : Heap} {v : AV} {t e i : Nat} {ti te : TI} {kd : IntKind} {xs : List α} (ht : T t = some ti) (hk : ti.kind = .slc e) (he : T e = some te) (hsz : te.size = Rep.sz α)
    (s : LStk m h v xs) (hi : i ≤ xs.length) (hp : 0 < xs.length) (k : ∀ v', LStk m h v' (xs.take i) → v'.base = v.base → K.k v' h) :
    @OBk (match sliceA T t v none (some (.int kd i)) none with | some r => some (r, h) | none => none) K := by
  obtain ⟨ls, s1, s2⟩ := s
  have hl1 := s2.length
  rcases s1 with s1 | s1
  · refine mine_hi (i := (i : Int)) s1 ht hk he hsz (by omega) (by omega) fun v' M b1 => k v' ⟨_, .inl M, by simpa using s2.take i⟩ ?_
    obtain ⟨b', o, cs, rfl, _, _⟩ := M
    obtain ⟨b2, o2, cs2, rfl, _, _⟩ := s1
    simpa [AV.blk, AV.base] using b1
  · obtain ⟨v', e1, c, b1⟩ := cap_hi (kd := kd) s1 ht hk he hsz (i := i) (by omega) (by omega)
    rw [e1]
    exact k v' ⟨_, .inr c, s2.take i⟩ b1
end
end Go.Am
