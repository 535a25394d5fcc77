/-
  Weakest conditions over the abstract machine: slices.
-/
import Derived.Test.YtaockkmmjinhpaaAmWd
namespace Go.Am
variable {T : TT} {F : Nat → Option Func}

/-- Elements, in a block. -/
structure BlkOf (h : Heap) (b o sz : Nat) (ls : List (List AV)) (cs : List AV) (wr : Bool) : Prop where
  lt : b < h.nxt
  get : h.get b = some (.cells cs wr)
  len : ∀ l ∈ ls, l.length = sz
  room : o + ls.length * sz ≤ cs.length
  win : (cs.drop o).take (ls.length * sz) = ls.flatten

/-- A slice, by its elements' cells. -/
def Slc (h : Heap) (v : AV) (sz : Nat) (ls : List (List AV)) : Prop :=
  (ls = [] ∧ ∃ a cap z, v = .slc a 0 cap z ∧ (a.isSome = true → z = sz)) ∨
  ∃ b o cap cs wr, v = .slc (some (b, o)) ls.length cap sz ∧ BlkOf h b o sz ls cs wr ∧ ∀ c, cap = some c → ls.length ≤ c

/-- A slice of our own, which grows by moving; blocks from m on are ours. -/
def Mine (m : Nat) (h : Heap) (v : AV) (sz : Nat) (ls : List (List AV)) : Prop :=
  ∃ b o cs, v = .slc (some (b, o)) ls.length none sz ∧ m ≤ b ∧ BlkOf h b o sz ls cs true

/-- A slice that may be appended to. -/
def Own (m : Nat) (h : Heap) (v : AV) (sz : Nat) (ls : List (List AV)) : Prop :=
  (ls = [] ∧ ∃ a z, v = .slc a 0 (some 0) z ∧ (a.isSome = true → z = sz)) ∨
  (0 < ls.length ∧ Slc h v sz ls ∧ ∃ a z, v = .slc a ls.length (some ls.length) z) ∨ Mine m h v sz ls

theorem flat_len {sz : Nat} : ∀ {ls : List (List AV)}, (∀ l ∈ ls, l.length = sz) → ls.flatten.length = ls.length * sz
  | [], _ => by simp
  | l :: ls, h => by
    rw [List.flatten_cons, List.length_append, flat_len fun x hx => h x (by simp [hx]), h l (by simp), List.length_cons, Nat.succ_mul, Nat.add_comm]

theorem flat_take {sz : Nat} : ∀ {ls : List (List AV)} (i : Nat), (∀ l ∈ ls, l.length = sz) → ls.flatten.take (i * sz) = (ls.take i).flatten ∧ ls.flatten.drop (i * sz) = (ls.drop i).flatten
  | [], i, _ => by simp
  | l :: ls, 0, h => by simp
  | l :: ls, i + 1, h => by
    have ih := flat_take (ls := ls) i fun x hx => h x (by simp [hx])
    have hl := h l (by simp)
    rw [List.flatten_cons, Nat.succ_mul, Nat.add_comm, ← hl, List.take_length_add_append, List.drop_length_add_append, hl, ih.1, ih.2]
    simp

theorem BlkOf.keep {h h' : Heap} {b o sz : Nat} {ls : List (List AV)} {cs : List AV} {wr : Bool} (s : BlkOf h b o sz ls cs wr) (hn : h.nxt ≤ h'.nxt) (hk : h'.get b = h.get b) : BlkOf h' b o sz ls cs wr :=
  ⟨Nat.lt_of_lt_of_le s.lt hn, hk.trans s.get, s.len, s.room, s.win⟩

theorem Slc.form {h : Heap} {v : AV} {sz : Nat} {ls : List (List AV)} (s : Slc h v sz ls) : ∃ a cap z, v = .slc a ls.length cap z := by
  rcases s with ⟨rfl, a, cap, z, rfl, _⟩ | ⟨b, o, cap, cs, wr, rfl, _⟩
  · exact ⟨_, _, _, rfl⟩
  · exact ⟨_, _, _, rfl⟩

theorem Slc.len {h : Heap} {a n cap z} {sz : Nat} {ls : List (List AV)} (s : Slc h (.slc a n cap z) sz ls) : n = ls.length := by
  obtain ⟨a', cap', z', e⟩ := s.form
  simp only [AV.slc.injEq] at e; exact e.2.1

theorem Slc.nil {h : Heap} {sz : Nat} : Slc h (.slc none 0 (some 0) 0) sz [] := .inl ⟨rfl, none, some 0, 0, rfl, by simp⟩
theorem Own.nil {m : Nat} {h : Heap} {sz : Nat} : Own m h (.slc none 0 (some 0) 0) sz [] := .inl ⟨rfl, none, 0, rfl, by simp⟩

theorem Slc.keep {h h' : Heap} {v : AV} {sz : Nat} {ls : List (List AV)} (s : Slc h v sz ls) (hn : h.nxt ≤ h'.nxt) (hk : ∀ b o n c z, v = .slc (some (b, o)) n c z → b < h.nxt → h'.get b = h.get b) : Slc h' v sz ls := by
  rcases s with ⟨rfl, a, cap, z, rfl, hz⟩ | ⟨b, o, cap, cs, wr, rfl, hb, hc⟩
  · exact .inl ⟨rfl, a, cap, z, rfl, hz⟩
  · exact .inr ⟨b, o, cap, cs, wr, rfl, hb.keep hn (hk _ _ _ _ _ rfl hb.lt), hc⟩

theorem Slc.ext {h h' : Heap} {v : AV} {sz : Nat} {ls : List (List AV)} (s : Slc h v sz ls) (e : Ext h h') : Slc h' v sz ls := s.keep e.nxt fun b _ _ _ _ _ hb => e.get b hb

theorem Mine.keep {m : Nat} {h h' : Heap} {v : AV} {sz : Nat} {ls : List (List AV)} (s : Mine m h v sz ls) (hn : h.nxt ≤ h'.nxt) (hk : ∀ b o n c z, v = .slc (some (b, o)) n c z → b < h.nxt → h'.get b = h.get b) : Mine m h' v sz ls := by
  obtain ⟨b, o, cs, rfl, hm, hb⟩ := s
  exact ⟨b, o, cs, rfl, hm, hb.keep hn (hk _ _ _ _ _ rfl hb.lt)⟩
theorem Mine.slc {m : Nat} {h : Heap} {v : AV} {sz : Nat} {ls : List (List AV)} (s : Mine m h v sz ls) : Slc h v sz ls := by
  obtain ⟨b, o, cs, rfl, hm, hb⟩ := s
  exact .inr ⟨b, o, none, cs, true, rfl, hb, by simp⟩
theorem Mine.own {m : Nat} {h : Heap} {v : AV} {sz : Nat} {ls : List (List AV)} (s : Mine m h v sz ls) : Own m h v sz ls := .inr (.inr s)
theorem Mine.le {m m' : Nat} {h : Heap} {v : AV} {sz : Nat} {ls : List (List AV)} (s : Mine m h v sz ls) (hm : m' ≤ m) : Mine m' h v sz ls := by
  obtain ⟨b, o, cs, rfl, h1, hb⟩ := s
  exact ⟨b, o, cs, rfl, Nat.le_trans hm h1, hb⟩

theorem Own.slc {m : Nat} {h : Heap} {v : AV} {sz : Nat} {ls : List (List AV)} (s : Own m h v sz ls) : Slc h v sz ls := by
  rcases s with ⟨rfl, a, z, rfl, hz⟩ | ⟨hp, s, _⟩ | s
  · exact .inl ⟨rfl, a, some 0, z, rfl, hz⟩
  · exact s
  · exact s.slc
theorem Own.le {m m' : Nat} {h : Heap} {v : AV} {sz : Nat} {ls : List (List AV)} (s : Own m h v sz ls) (hm : m' ≤ m) : Own m' h v sz ls := by
  rcases s with s | s | s
  · exact .inl s
  · exact .inr (.inl s)
  · exact .inr (.inr (s.le hm))
theorem Own.keep {m : Nat} {h h' : Heap} {v : AV} {sz : Nat} {ls : List (List AV)} (s : Own m h v sz ls) (hn : h.nxt ≤ h'.nxt) (hk : ∀ b o n c z, v = .slc (some (b, o)) n c z → b < h.nxt → h'.get b = h.get b) : Own m h' v sz ls := by
  rcases s with s | ⟨hp, s, hv⟩ | s
  · exact .inl s
  · exact .inr (.inl ⟨hp, s.keep hn hk, hv⟩)
  · exact .inr (.inr (s.keep hn hk))
theorem Own.ext {m : Nat} {h h' : Heap} {v : AV} {sz : Nat} {ls : List (List AV)} (s : Own m h v sz ls) (e : Ext h h') : Own m h' v sz ls := s.keep e.nxt fun b _ _ _ _ _ hb => e.get b hb

/-- Elements of several cells. -/
theorem Slc.atN {h : Heap} {a n cap z} {sz : Nat} {ls : List (List AV)} (s : Slc h (.slc a n cap z) sz ls) (hp : 0 < ls.length) :
    ∃ b o cs wr, a = some (b, o) ∧ z = sz ∧ b < h.nxt ∧ h.get b = some (.cells cs wr) ∧ ∀ i l, ls[i]? = some l → o + i * sz + sz ≤ cs.length ∧ (cs.drop (o + i * sz)).take sz = l := by
  rcases s with ⟨rfl, _⟩ | ⟨b, o, cap, cs, wr, e, hb, hc⟩
  · simp at hp
  · simp only [AV.slc.injEq] at e
    obtain ⟨rfl, rfl, rfl, rfl⟩ := e
    refine ⟨b, o, cs, wr, rfl, rfl, hb.lt, hb.get, fun i l hx => ?_⟩
    have hi : i < ls.length := (List.getElem?_eq_some_iff.1 hx).1
    have hm : i * z + z ≤ ls.length * z := by
      rw [← Nat.succ_mul]; exact Nat.mul_le_mul_right _ hi
    have hr := hb.room
    refine ⟨by omega, ?_⟩
    have h1 := (flat_take (i := i) hb.len).2
    rw [← hb.win] at h1
    have hll : l.length = z := hb.len l (List.mem_of_getElem? hx)
    have h2 : (ls.drop i).flatten.take z = l := by
      rw [List.drop_eq_getElem_cons hi, List.flatten_cons]
      have : ls[i] = l := by simpa [List.getElem?_eq_getElem hi] using hx
      rw [this, ← hll, List.take_left]
    rw [← h1, List.drop_take, List.drop_drop, List.take_take] at h2
    rw [← h2]; congr 1; omega

/-- The block that is let go where a slice is appended to. -/
def AV.blk : AV → Option Nat
  | .slc (some (b, _)) _ none _ => some b
  | _ => none

theorem comes_of {h : Heap} {x : AV} {sz : Nat} {new : List (List AV)} (s : Slc h x sz new) (hv : ∀ l ∈ new, l.all AV.leaf = true) : comes sz x h = some (new.length, new.flatten) := by
  rcases s with ⟨rfl, a, cap, z, rfl, hz⟩ | ⟨b, o, cap, cs, wr, rfl, hb, hc⟩
  · cases a with
    | none => simp [comes]
    | some p => obtain ⟨b, o⟩ := p; simp [comes, hz rfl]
  · simp only [comes, ne_eq, not_true_eq_false, if_false]
    by_cases h0 : new.length = 0
    · rw [if_pos h0, h0]
      have : new = [] := by simpa using h0
      subst this; rfl
    · rw [if_neg h0]
      simp only [loadCells, hb.get, hb.room, if_true, hb.win]
      rw [if_pos]
      simp only [List.all_eq_true, List.mem_flatten] at hv ⊢
      intro y ⟨l, h1, h2⟩
      exact hv l h1 y h2

theorem fresh_slc {sz : Nat} {ls : List (List AV)} {h : Heap} {m : Nat} (hm : m ≤ h.nxt) (hl : ∀ l ∈ ls, l.length = sz) : Mine m (h.add (.cells ls.flatten true)) (.slc (some (h.nxt, 0)) ls.length none sz) sz ls := by
  refine ⟨h.nxt, 0, ls.flatten, rfl, hm, by simp, by rw [Heap.get_add, if_pos rfl], hl, by rw [flat_len hl]; omega, ?_⟩
  rw [List.drop_zero, ← flat_len hl, List.take_length]

/-- A slice that is written out. -/
theorem Slc.lit {h : Heap} {sz : Nat} {ls : List (List AV)} {wr : Bool} (hl : ∀ l ∈ ls, l.length = sz) : Slc (h.add (.cells ls.flatten wr)) (.slc (some (h.nxt, 0)) ls.length (some ls.length) sz) sz ls := by
  refine .inr ⟨h.nxt, 0, some ls.length, ls.flatten, wr, rfl, ⟨by simp, by rw [Heap.get_add, if_pos rfl], hl, by rw [flat_len hl]; omega, ?_⟩, fun c hc => by simp at hc; omega⟩
  rw [List.drop_zero, ← flat_len hl, List.take_length]

theorem Slc.lit' {h : Heap} {b sz : Nat} {ls : List (List AV)} {wr : Bool} (hb : b < h.nxt) (hg : h.get b = some (.cells ls.flatten wr)) (hl : ∀ l ∈ ls, l.length = sz) : Slc h (.slc (some (b, 0)) ls.length (some ls.length) sz) sz ls := by
  refine .inr ⟨b, 0, some ls.length, ls.flatten, wr, rfl, ⟨hb, hg, hl, by rw [flat_len hl]; omega, ?_⟩, fun c hc => by simp at hc; omega⟩
  rw [List.drop_zero, ← flat_len hl, List.take_length]

/-- What is written once is found. -/
theorem Mine.upd {m : Nat} {h : Heap} {v : AV} {sz : Nat} {ls : List (List AV)} (s : Mine m h v sz ls) : v.blk.isSome = true := by
  obtain ⟨b, o, cs, rfl, _⟩ := s; rfl

theorem append_own {m : Nat} {h : Heap} {v x : AV} {sz t e : Nat} {ti te : TI} {ls new : List (List AV)} (s : Own m h v sz ls) (sx : Slc h x sz new) (hln : ∀ l ∈ new, l.length = sz) (hv : ∀ l ∈ new, l.all AV.leaf = true) (hm : m ≤ h.nxt)
    (ht : T t = some ti) (hk : ti.kind = .slc e) (he : T e = some te) (hsz : te.size = sz) (hb0 : te.bytes ≠ 0) (hb1 : te.bytes ≤ 1048576) (hr : (ls.length + new.length) * te.bytes ≤ roomA) :
    ∃ v' h', appendA T t v x h = some (v', h') ∧ h.nxt ≤ h'.nxt ∧ (∀ b, b < h.nxt → v.blk ≠ some b → h'.get b = h.get b) ∧
      ((new = [] ∧ v' = v ∧ h' = h) ∨ (0 < new.length ∧ Mine m h' v' sz (ls ++ new) ∧ ∀ b, v'.blk = some b → h.nxt ≤ b)) := by
  have hr2 : ls.length + new.length ≤ roomA := Nat.le_trans (Nat.le_mul_of_pos_right _ (Nat.pos_of_ne_zero hb0)) hr
  have hco := comes_of sx hv
  have hcond : ¬ (ls.length + new.length > roomA ∨ te.bytes = 0 ∨ te.bytes > 1048576 ∨ (ls.length + new.length) * te.bytes > roomA) := by omega
  have hl3 : ∀ {l1 : List (List AV)}, (∀ l ∈ l1, l.length = sz) → ∀ l ∈ l1 ++ new, l.length = sz := fun h1 l hl => (List.mem_append.1 hl).elim (h1 l) (hln l)
  rcases s with ⟨rfl, a, z, rfl, hz⟩ | ⟨hp, s, a, z, rfl⟩ | ⟨b, o, cs, rfl, hmb, hb⟩
  · have hg : ¬ ((a.isSome && z != te.size) = true) := by
      simp only [Bool.and_eq_true, bne_iff_ne, ne_eq, not_and, Decidable.not_not]
      intro ha; rw [hz ha, hsz]
    simp only [List.length_nil] at hcond
    simp only [appendA, ht, hk, he, if_neg hg]
    rw [hsz, hco]
    simp only [if_neg hcond]
    by_cases hn : new.length = 0
    · have : new = [] := by simpa using hn
      subst this
      refine ⟨.slc a 0 (some 0) z, h, ?_, Nat.le_refl _, fun _ _ _ => rfl, .inl ⟨rfl, rfl, rfl⟩⟩
      cases a with
      | none => simp
      | some p => simp
    · have hle : ¬ (0 + new.length ≤ 0) := by omega
      rw [if_neg hle]
      refine ⟨.slc (some (h.nxt, 0)) new.length none sz, h.add (.cells new.flatten true), ?_, by simp, fun b hb _ => by rw [Heap.get_add, if_neg (by omega)], .inr ⟨by omega, fresh_slc hm hln, fun b hb => by simp [AV.blk] at hb; omega⟩⟩
      cases a with
      | none => simp
      | some p => simp
  · rcases s with ⟨rfl, _⟩ | ⟨b, o, cap, cs, wr, e, hb, hc⟩
    · simp at hp
    · simp only [AV.slc.injEq] at e
      obtain ⟨rfl, _, rfl, rfl⟩ := e
      have hg' : ¬ (((some (b, o)).isSome && z != te.size) = true) := by simp [hsz]
      simp only [appendA, ht, hk, he, if_neg hg']
      rw [hsz, hco]
      simp only [if_neg hcond]
      by_cases h0 : new.length = 0
      · have : new = [] := by simpa using h0
        subst this
        refine ⟨.slc (some (b, o)) ls.length (some ls.length) z, h, ?_, Nat.le_refl _, fun _ _ _ => rfl, .inl ⟨rfl, rfl, rfl⟩⟩
        simp
      · have hle : ¬ (ls.length + new.length ≤ ls.length) := by omega
        rw [if_neg hle]
        simp only [if_neg (by omega : ¬ ls.length = 0), loadCells, hb.get, hb.room, if_true, hb.win]
        refine ⟨.slc (some (h.nxt, 0)) (ls.length + new.length) none z, h.add (.cells (ls.flatten ++ new.flatten) true), rfl, by simp, fun b hb _ => by rw [Heap.get_add, if_neg (by omega)], .inr ⟨by omega, ?_, fun b hb => by simp [AV.blk] at hb; omega⟩⟩
        have := fresh_slc (ls := ls ++ new) (sz := z) hm (hl3 hb.len)
        rw [List.flatten_append, List.length_append] at this
        exact this
  · have hg' : ¬ (((some (b, o)).isSome && sz != te.size) = true) := by simp [hsz]
    simp only [appendA, ht, hk, he, if_neg hg']
    rw [hsz, hco]
    simp only [if_neg hcond]
    by_cases h0 : new.length = 0
    · have : new = [] := by simpa using h0
      subst this
      refine ⟨.slc (some (b, o)) ls.length none sz, h, by simp, Nat.le_refl _, fun _ _ _ => rfl, .inl ⟨rfl, rfl, rfl⟩⟩
    · rw [if_neg h0]
      simp only [hb.get, hb.room, if_true, hb.win]
      refine ⟨.slc (some (h.nxt, 0)) (ls.length + new.length) none sz, (h.del b).add (.cells (ls.flatten ++ new.flatten) true), rfl, by simp, fun c hc hcb => ?_, .inr ⟨by omega, ?_, fun b hb => by simp [AV.blk] at hb; omega⟩⟩
      · rw [Heap.get_add, if_neg (by simp; omega), Heap.get_del, if_neg]
        rintro rfl
        exact hcb rfl
      · have := fresh_slc (ls := ls ++ new) (sz := sz) (h := h.del b) (m := m) (by simpa using hm) (hl3 hb.len)
        rw [List.flatten_append, List.length_append] at this
        exact this

theorem BlkOf.sub {h : Heap} {b o sz l hh : Nat} {ls : List (List AV)} {cs : List AV} {wr : Bool} (s : BlkOf h b o sz ls cs wr) (h1 : l ≤ hh) (h2 : hh ≤ ls.length) :
    ((ls.take hh).drop l).length = hh - l ∧ BlkOf h b (o + l * sz) sz ((ls.take hh).drop l) cs wr := by
  have hlen : ((ls.take hh).drop l).length = hh - l := by simp; omega
  have e1 : l * sz + (hh - l) * sz = hh * sz := by rw [← Nat.add_mul]; congr 1; omega
  have e2 : hh * sz ≤ ls.length * sz := Nat.mul_le_mul_right _ h2
  have hr := s.room
  refine ⟨hlen, s.lt, s.get, fun x hx => s.len x (List.mem_of_mem_take (List.mem_of_mem_drop hx)), by rw [hlen]; omega, ?_⟩
  have f1 := (flat_take (i := hh) s.len).1
  have f2 := (flat_take (ls := ls.take hh) (i := l) fun x hx => s.len x (List.mem_of_mem_take hx)).2
  rw [hlen, ← f2, ← f1, ← s.win, List.take_take, Nat.min_eq_left e2, List.drop_take, List.drop_drop]
  congr 1; omega

/-- Slicing. -/
theorem slice_slc {h : Heap} {v : AV} {sz t e l hh : Nat} {ti te : TI} {ls : List (List AV)} {lo hi : Option AV} (s : Slc h v sz ls) (ht : T t = some ti) (hk : ti.kind = .slc e) (he : T e = some te) (hsz : te.size = sz)
    (hbd : ∀ n, ls.length ≤ n → (hi = none → n = ls.length) → sbounds n lo hi = some (l, hh)) (h1 : l ≤ hh) (h2 : hh ≤ ls.length) :
    ∃ v', sliceA T t v lo hi none = some v' ∧ Slc h v' sz ((ls.take hh).drop l) ∧ (∀ b, v'.blk = some b → v.blk = some b) := by
  rcases s with ⟨rfl, a, cap, z, rfl, hz⟩ | ⟨b, o, cap, cs, wr, rfl, hb, hc⟩
  · have hg : ¬ ((a.isSome && z != te.size) = true) := by
      simp only [Bool.and_eq_true, bne_iff_ne, ne_eq, not_and, Decidable.not_not]
      intro ha; rw [hz ha, hsz]
    have hh0 : hh = 0 := by simpa using h2
    subst hh0
    have hl0 : l = 0 := by omega
    subst hl0
    simp only [sliceA, ht, hk, he, if_neg hg]
    cases cap with
    | none =>
      simp only
      rw [hbd 0 (by simp) (fun _ => by simp)]
      refine ⟨_, rfl, .inl ⟨by simp, _, _, _, rfl, by simpa using hz⟩, fun b hb => ?_⟩
      cases a with
      | none => simp [AV.blk] at hb
      | some p => obtain ⟨b', o⟩ := p; simpa [AV.blk] using hb
    | some c =>
      simp only
      rw [hbd _ (by simp) (fun e => by simp [e])]
      simp only [Nat.zero_le, and_self, if_true]
      refine ⟨_, rfl, .inl ⟨by simp, _, _, _, rfl, by intro ha; split at ha <;> simp_all⟩, fun b hb => ?_⟩
      split at hb <;> cases a <;> simp [AV.blk] at hb
  · have hg' : ¬ (((some (b, o)).isSome && sz != te.size) = true) := by simp [hsz]
    obtain ⟨q1, q2⟩ := hb.sub h1 h2
    simp only [sliceA, ht, hk, he, if_neg hg']
    cases cap with
    | none =>
      simp only
      rw [hbd _ (Nat.le_refl _) (fun _ => rfl)]
      refine ⟨_, rfl, .inr ⟨b, o + l * sz, none, cs, wr, ?_, q2, by simp⟩, fun b' hb' => by simpa [AV.blk] using hb'⟩
      simp only [Option.map_some, q1, hsz]
    | some c =>
      have hcl := hc c rfl
      simp only
      have hbn : sbounds (if hi.isSome = true then c else ls.length) lo hi = some (l, hh) := by
        split
        · rename_i hs; exact hbd c hcl (fun e => by rw [e] at hs; simp at hs)
        · exact hbd _ (Nat.le_refl _) (fun _ => rfl)
      rw [hbn]
      simp only [if_pos (show l ≤ c ∧ hh ≤ c by omega)]
      refine ⟨_, rfl, ?_, fun b' hb' => by split at hb' <;> simp [AV.blk] at hb'⟩
      by_cases hcl2 : c = l
      · have h3 : hh - l = 0 := by omega
        have : (ls.take hh).drop l = [] := by apply List.eq_nil_of_length_eq_zero; omega
        rw [if_pos hcl2, h3, this]
        exact .inl ⟨rfl, _, _, _, rfl, fun _ => rfl⟩
      · rw [if_neg hcl2]
        refine .inr ⟨b, o + l * sz, some (c - l), cs, wr, ?_, q2, fun c' hc' => by simp at hc'; omega⟩
        simp only [Option.map_some, q1, hsz]

theorem sbounds_lo {n : Nat} {k : IntKind} {i : Int} (h0 : 0 ≤ i) (h1 : i ≤ n) : sbounds n (some (.int k i)) none = some (i.toNat, n) := by
  simp [sbounds, sbound, h0, h1]
theorem sbounds_hi {n : Nat} {k : IntKind} {i : Int} (h0 : 0 ≤ i) (h1 : i ≤ n) : sbounds n none (some (.int k i)) = some (0, i.toNat) := by
  simp [sbounds, sbound, h0, h1]
theorem append_k {K : KH} {m : Nat} {h : Heap} {v x : AV} {sz t e : Nat} {ti te : TI} {ls new : List (List AV)} (ht : T t = some ti) (hk : ti.kind = .slc e) (he : T e = some te) (hsz : te.size = sz) (hb0 : te.bytes ≠ 0) (hb1 : te.bytes ≤ 1048576)
    (s : Own m h v sz ls) (sx : Slc h x sz new) (hln : ∀ l ∈ new, l.length = sz) (hv : ∀ l ∈ new, l.all AV.leaf = true) (hm : m ≤ h.nxt) (hr : (ls.length + new.length) * te.bytes ≤ roomA)
    (k : ∀ v' h', h.nxt ≤ h'.nxt → (∀ b, b < h.nxt → v.blk ≠ some b → h'.get b = h.get b) → ((new = [] ∧ v' = v ∧ h' = h) ∨ (0 < new.length ∧ Mine m h' v' sz (ls ++ new) ∧ ∀ b, v'.blk = some b → h.nxt ≤ b)) → K.k v' h') :
    @OBk (appendA T t v x h) K := by
  obtain ⟨v', h', e1, e2, e3, e4⟩ := append_own s sx hln hv hm ht hk he hsz hb0 hb1 hr
  exact OBk_of e1 (k v' h' e2 e3 e4)

section
variable {K : KH} {m : Nat} {h : Heap} {v : AV} {sz t e : Nat} {ti te : TI} {ls : List (List AV)} {kd kd' : IntKind} {i j : Int}
end

theorem Ext.at2 {h h' : Heap} {a b : Blk} (e : Ext ((h.add a).add b) h') : h'.get h.nxt = some a ∧ h'.get (h.nxt + 1) = some b ∧ h.nxt + 2 ≤ h'.nxt ∧ Ext h h' :=
  ⟨(e.get _ (by simp; omega)).trans (by simp [Heap.get_add]), (e.get _ (by simp)).trans (by simp [Heap.get_add]), by simpa using e.nxt, ((Ext.add h a).trans (Ext.add _ b)).trans e⟩
theorem Ext.put {h h' : Heap} {b : Nat} {x : Blk} (e : Ext h h') (hb : h.nxt ≤ b) : Ext h (h'.put b x) :=
  ⟨e.nxt, fun c hc => by rw [Heap.get_put, if_neg (by omega)]; exact e.get c hc⟩

/-- A slice that was made anew. -/
def Fresh (m : Nat) (h : Heap) (v : AV) (sz : Nat) (ls : List (List AV)) : Prop := (ls = [] ∧ ∃ a z, v = .slc a 0 (some 0) z ∧ (a.isSome = true → z = sz)) ∨ Mine m h v sz ls
theorem Fresh.own {m : Nat} {h : Heap} {v : AV} {sz : Nat} {ls : List (List AV)} (s : Fresh m h v sz ls) : Own m h v sz ls := s.imp id .inr
theorem Fresh.slc {m : Nat} {h : Heap} {v : AV} {sz : Nat} {ls : List (List AV)} (s : Fresh m h v sz ls) : Slc h v sz ls := s.own.slc
theorem Fresh.nil {m : Nat} {h : Heap} {sz : Nat} : Fresh m h (.slc none 0 (some 0) 0) sz [] := .inl ⟨rfl, none, 0, rfl, by simp⟩
theorem Fresh.keep {m : Nat} {h h' : Heap} {v : AV} {sz : Nat} {ls : List (List AV)} (s : Fresh m h v sz ls) (hn : h.nxt ≤ h'.nxt) (hk : ∀ b, m ≤ b → b < h.nxt → v.blk = some b → h'.get b = h.get b) : Fresh m h' v sz ls := by
  rcases s with s | ⟨b, o, cs, rfl, hm, hb⟩
  · exact .inl s
  · exact .inr ⟨b, o, cs, rfl, hm, hb.keep hn (hk b hm hb.lt rfl)⟩
theorem Mine.fresh {m : Nat} {h : Heap} {v : AV} {sz : Nat} {ls : List (List AV)} (s : Mine m h v sz ls) : Fresh m h v sz ls := .inr s
theorem Fresh.le {m m' : Nat} {h : Heap} {v : AV} {sz : Nat} {ls : List (List AV)} (s : Fresh m h v sz ls) (hm : m' ≤ m) : Fresh m' h v sz ls := s.imp id fun s => s.le hm
theorem Fresh.ext {m : Nat} {h h' : Heap} {v : AV} {sz : Nat} {ls : List (List AV)} (s : Fresh m h v sz ls) (e : Ext h h') : Fresh m h' v sz ls := s.keep e.nxt fun b _ hb _ => e.get b hb
theorem Fresh.put {m : Nat} {h : Heap} {v : AV} {sz : Nat} {ls : List (List AV)} (s : Fresh m h v sz ls) {b : Nat} (hb : b < m) (x : Blk) : Fresh m (h.put b x) v sz ls :=
  s.keep (Nat.le_refl _) fun c hc _ _ => by rw [Heap.get_put, if_neg (by omega)]
theorem Fresh.mine {m : Nat} {h : Heap} {v : AV} {sz : Nat} {ls : List (List AV)} (s : Fresh m h v sz ls) (hp : 0 < ls.length) : Mine m h v sz ls := by
  rcases s with ⟨rfl, _⟩ | s
  · simp at hp
  · exact s
theorem Fresh.blk {m : Nat} {h : Heap} {v : AV} {sz : Nat} {ls : List (List AV)} (s : Fresh m h v sz ls) {b : Nat} (e : v.blk = some b) : m ≤ b := by
  rcases s with ⟨_, a, z, rfl, _⟩ | ⟨b', o, cs, rfl, hm, _⟩
  · cases a <;> simp [AV.blk] at e
  · simp [AV.blk] at e; omega

class KI where
  m : Nat
  I : Nat → List AV → Heap → Prop
/-- Once more. -/
def AgainK (f : Frm) [K : KI] : Prop := f.ms = [] ∧ ∃ m', m' < K.m ∧ K.I m' f.s f.h
theorem AgainK.mk {K : KI} {s : List AV} {h : Heap} (m' : Nat) (hm : m' < K.m) (hi : K.I m' s h) : @AgainK ⟨s, [], h⟩ K := ⟨rfl, m', hm, hi⟩
/-- Slots that are kept. -/
def Keep (s : List AV) (n : Nat) (l : List (Nat × AV)) : Prop := s.length = n ∧ Has s l
theorem Keep.eq {s : List AV} {n : Nat} {l : List (Nat × AV)} (k : Keep s n l) : s = slotsFrom s 0 n := slots_eq k.1

/-! guards -/
def gslot (all : List Oper) (j : Nat) : Option Nat := match all[j]? with | some g => g.dst | none => none
@[go_sem ↓] theorem gslot_zero {d op ty pos after g} {l : List Oper} : gslot (⟨d, op, ty, pos, after, g⟩ :: l) 0 = d := rfl
@[go_sem ↓] theorem gslot_succ {o : Oper} {l : List Oper} {n : Nat} : gslot (o :: l) (n + 1) = gslot l n := rfl
def gbool (v : AV) (w : Bool) : Bool := match v with | .bool b => b == w | _ => false
@[go_sem] theorem gbool_bool {b w : Bool} : gbool (.bool b) w = (b == w) := rfl
def gval (d : Option Nat) (s : List AV) (w : Bool) : Option AV := match d with | some d => some (.bool (gbool (s.getD d undefA) w)) | none => some (.bool false)
@[go_sem] theorem gval_some {d : Nat} {s : List AV} {w : Bool} : gval (some d) s w = some (.bool (gbool (s.getD d undefA) w)) := rfl
attribute [go_sem] beq_true beq_false
theorem wanted_g {d op ty pos after j w} {all : List Oper} {s : List AV} : some (AV.bool (wantedA ⟨d, op, ty, pos, after, some (j, w)⟩ all s)) = gval (gslot all j) s w := by
  simp only [wantedA, gslot, gval]
  cases all[j]? with
  | none => rfl
  | some g =>
    simp only
    cases g.dst with
    | none => rfl
    | some d =>
      simp only [List.getD_eq_getElem?_getD]
      cases hd : s[d]? with
      | none => rfl
      | some v => cases v <;> rfl
@[go_sem ↓] theorem WL_g {all l d op ty pos after j w} {s : List AV} {h : Heap} {Q : List AV → Heap → Prop} : WL T F all (⟨d, op, ty, pos, after, some (j, w)⟩ :: l) s h Q =
    @condK (gval (gslot all j) s w) ⟨WK T F op s h fun v h' => @SetK (putA s d v) h' ⟨fun s h => WL T F all l s h Q⟩, @SetK (putA s d undefA) h ⟨fun s h => WL T F all l s h Q⟩⟩ := by
  rw [← wanted_g (op := op) (d := d) (ty := ty) (pos := pos) (after := after)]
  simp [WL, condK, SetK]

theorem WF.gen {f : Nat} {args : List AV} {h : Heap} {P : AV → Heap → Prop} (w : ∀ Q : AV → Heap → Prop, (∀ v h', P v h' → Q v h') → WF T F f args h Q) : WF T F f args h P := w P fun _ _ p => p

attribute [go_sem] List.size_toArray buildSliceA fillA zeroRow buildA List.range_zero List.range_succ List.map_cons List.map_nil List.map_append List.length_append List.nil_append List.cons_append Nat.zero_mod Nat.mod_one Nat.zero_mul Nat.le_refl
@[go_sem] theorem binOpA_eql_slc {t a n c z y} : binOpA T .eql t (.slc a n c z) y = (match eqv T eqDepth t (.slc a n c z) y with | some b => some (.bool b) | none => none) := rfl
@[go_sem] theorem binOpA_neq_slc {t a n c z y} : binOpA T .neq t (.slc a n c z) y = (match eqv T eqDepth t (.slc a n c z) y with | some b => some (.bool !b) | none => none) := rfl
@[go_sem] theorem eqv_bool {t a b} : eqv T eqDepth t (.bool a) (.bool b) = (match T t with | some ti => (match ti.kind with | .bool => some (a == b) | _ => none) | none => none) := by
  cases hT : T t with
  | none => simp [eqDepth, eqv, hT]
  | some ti =>
    obtain ⟨k, _, _, _, _⟩ := ti
    cases k <;> simp [eqDepth, eqv, hT]
@[go_sem] theorem binOpA_eql_bool {t a b} : binOpA T .eql t (.bool a) (.bool b) = (match eqv T eqDepth t (.bool a) (.bool b) with | some b => some (.bool b) | none => none) := rfl
@[go_sem] theorem binOpA_neq_bool {t a b} : binOpA T .neq t (.bool a) (.bool b) = (match eqv T eqDepth t (.bool a) (.bool b) with | some b => some (.bool !b) | none => none) := rfl
@[go_sem] theorem convA_int {a b k n} {h : Heap} : convA T a b (.int k n) h = (match T a with | some _ => (match T b with | some d => (match d.kind with | .int k' => some (.int k' (k'.wrap n), h) | _ => none) | none => none) | none => none) := by
  cases ha : T a with
  | none => simp [convA, ha]
  | some s =>
    cases hb : T b with
    | none => simp [convA, ha, hb]
    | some d =>
      obtain ⟨kd, _, _, _, _⟩ := d
      cases kd <;> simp [convA, ha, hb]
@[go_sem] theorem eqv_slc_nil {t a n c z} : eqv T eqDepth t (.slc a n c z) (.slc none 0 (some 0) 0) = (match T t with | some ti => (match ti.kind with | .slc _ => some a.isNone | _ => none) | none => none) := by
  cases hT : T t with
  | none => simp [eqDepth, eqv, hT]
  | some ti =>
    obtain ⟨k, _, _, _, _⟩ := ti
    cases k <;> cases a <;> simp [eqDepth, eqv, hT]

end Go.Am
