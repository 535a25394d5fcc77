/-
  Layer rex: what its functions come to.
-/
import Derived.Test.YtenpjkinpecnfaaAmUr
import Derived.Test.YtenpjkinpecnfaaAmTl
import Derived.KernelRfl
namespace Go.Proofs.Ytenpjkinpecnfaa
open Go Go.Am
set_option maxRecDepth 100000
set_option maxHeartbeats 4000000
set_option linter.unusedSimpArgs false
set_option linter.unusedVariables false

/-- A range of bytes. -/
structure Rng where
  lo : UInt8
  hi : UInt8
  deriving DecidableEq
instance : Rep Rng := ⟨2, fun _ x cs => cs = [.int .u8 x.lo.toNat, .int .u8 x.hi.toNat], fun e => by rw [e]; rfl, fun e => by rw [e]; rfl, fun e _ => e⟩
/-- A piece of a pattern. -/
structure Item where
  op : Int
  l : List Rng
  deriving DecidableEq
instance : Rep Item := ⟨2, fun h x cs => ∃ v, cs = [.int .i64 x.op, v] ∧ Lst h v x.l, fun ⟨v, e, _⟩ => by rw [e]; rfl, fun ⟨v, e, s⟩ => by
  obtain ⟨a, n, c, z, rfl, _⟩ := s.form; rw [e]; rfl, fun ⟨v, e, s⟩ p => ⟨v, e, s.pst p⟩⟩

/-- The byte that stands next. -/
def nx (r : List UInt8) : UInt8 := r.headD 0
/-- A reader of a pattern: what is left of it; what there is yet. -/
structure Rd (h : Heap) (k : Nat) (s r : List UInt8) (v : AV) : Prop where
  lt : k < h.nxt
  at_ : ∃ i : Nat, h.get k = some (.cells [.str s, .int .i64 i, v] true) ∧ i ≤ s.length ∧ s.drop i = r

theorem u8_eq {a b : UInt8} : ((a.toNat : Int) = b.toNat) = (a = b) := by
  apply propext
  constructor
  · intro h; exact UInt8.toNat_inj.1 (by omega)
  · rintro rfl; rfl
@[go_sem] theorem u8_dec {a b : UInt8} : decide ((a.toNat : Int) = b.toNat) = decide (a = b) := decide_eq_decide.2 (by rw [u8_eq])
theorem callV_ext {T : TT} {F : Nat → Option Func} {f : Nat} {l : List AV} {h : Heap} {K : KH} {v : AV} (hx : externO F f l = some v) (k : K.k v h) : @callVU T F f (some l) h K := by
  simp only [callVU, hx]; exact k

theorem next_uf {h : Heap} {k : Nat} {s r : List UInt8} {v : AV} (R : Rd h k s r v) (hs : s.length ≤ 1000) : UF T F 82 [.ptr (some (k, 0))] h fun v' h' => v' = .int .u8 (nx r).toNat ∧ Ext h h' := by
  obtain ⟨hk, i, g, hi, rfl⟩ := R
  refine UF.gen fun Q hQ => UF.of (F_82) (c := _) rfl ?_
  unfold Try.f82
  simp only [List.length, Nat.reduceSub, Nat.reduceAdd, List.replicate, List.cons_append, List.nil_append]
  simp (disch := omega) only [go_sem, seval]
  refine DrawU_quiet (by rfl) ?_
  simp (disch := omega) only [go_sem, seval, g]
  refine condK_dec (fun hge => ?_) (fun hlt => ?_)
  · simp (disch := omega) only [go_sem, seval]
    refine hQ _ _ ⟨?_, Ext.bump _ _⟩
    have : s.drop i = [] := List.drop_eq_nil_of_le (by omega)
    rw [this]; rfl
  · simp (disch := omega) only [go_sem, seval]
    refine DrawU_quiet (by rfl) ?_
    simp (disch := omega) only [go_sem, seval, g]
    have hi2 : i < s.length := by omega
    have hi3 : (0 : Int) ≤ (i : Int) := by omega
    simp (disch := omega) only [go_sem, seval, hi3, Int.toNat_natCast, List.getElem?_eq_getElem hi2]
    refine hQ _ _ ⟨?_, (Ext.bump _ _).trans (Ext.bump _ _)⟩
    rw [nx, List.drop_eq_getElem_cons hi2]; rfl

/-- What changes of a reader: its box. -/
theorem Rd.ext {h h' : Heap} {k : Nat} {s r : List UInt8} {v : AV} (R : Rd h k s r v) (e : Ext h h') : Rd h' k s r v := by
  obtain ⟨hk, i, g, hi⟩ := R
  exact ⟨Nat.lt_of_lt_of_le hk e.nxt, i, (e.get _ hk).trans g, hi⟩
theorem Rd.put {h : Heap} {k : Nat} {s r r' : List UInt8} {v v' : AV} (R : Rd h k s r v) {i : Nat} (hi : i ≤ s.length) (hr : s.drop i = r') : Rd (h.put k (.cells [.str s, .int .i64 i, v'] true)) k s r' v' ∧ Upd (· = k) h (h.put k (.cells [.str s, .int .i64 i, v'] true)) := by
  obtain ⟨hk, j, g, hj⟩ := R
  exact ⟨⟨hk, i, by rw [Heap.get_put, if_pos rfl], hi, hr⟩, Upd.put _ rfl fun cs e => by rw [g] at e; simp at e⟩

theorem takes_uf {h : Heap} {k : Nat} {s r : List UInt8} {v : AV} {c : UInt8} (R : Rd h k s r v) (hs : s.length ≤ 1000) (hc : c ≠ 0) :
    UF T F 70 [.ptr (some (k, 0)), .int .u8 c.toNat] h fun v' h' => v' = .bool (decide (nx r = c)) ∧ Rd h' k s (if nx r = c then r.tail else r) v ∧ Upd (· = k) h h' := by
  refine UF.gen fun Q hQ => UF.of (F_70) (c := _) rfl ?_
  unfold Try.f70
  simp only [List.length, Nat.reduceSub, Nat.reduceAdd, List.replicate, List.cons_append, List.nil_append]
  simp (disch := omega) only [go_sem, seval]
  refine callV_ofU F_82 rfl ((next_uf R hs).mono ?_)
  rintro v1 h1 ⟨rfl, e1⟩
  simp (disch := omega) only [go_sem, seval]
  have R1 := R.ext e1
  refine condK_not (fun hne => ?_) (fun heq => ?_)
  · simp (disch := omega) only [go_sem, seval]
    exact hQ _ _ ⟨by rw [decide_eq_false hne], by rw [if_neg hne]; exact R1, e1.upd _⟩
  · have R2 := R1
    obtain ⟨hk, i, g, hi, rfl⟩ := R1
    simp (disch := omega) only [go_sem, seval, g]
    have hlt : i < s.length := by
      rcases Nat.lt_or_ge i s.length with h | h
      · exact h
      · rw [List.drop_eq_nil_of_le h] at heq; exact absurd heq.symm hc
    obtain ⟨p1, p2⟩ := R2.put (r' := s.drop (i + 1)) (v' := v) (i := i + 1) hlt rfl
    refine hQ _ _ ⟨by rw [decide_eq_true heq], ?_, (e1.upd _).trans p2⟩
    rw [if_pos heq, List.tail_drop]
    exact p1

theorem byteIn_go (s : List UInt8) (c : UInt8) (x : Int) (hx : (match (List.range s.length).find? fun i => s.getD i 0 == c with | some i => (i : Int) | none => -1) = x) : (0 ≤ x) ↔ c ∈ s := by
  subst hx
  cases hf : (List.range s.length).find? fun i => s.getD i 0 == c with
  | none =>
    simp only [List.find?_eq_none, List.mem_range, beq_iff_eq] at hf
    constructor
    · intro h; simp at h
    · intro hm
      obtain ⟨i, hi, e⟩ := List.mem_iff_getElem.1 hm
      exact absurd (by rw [List.getD_eq_getElem?_getD, List.getElem?_eq_getElem hi]; exact e) (hf i hi)
  | some i =>
    have h1 := List.find?_some hf
    have h2 := List.mem_range.1 (List.mem_of_find?_eq_some hf)
    simp only [beq_iff_eq] at h1
    constructor
    · intro _
      rw [List.getD_eq_getElem?_getD, List.getElem?_eq_getElem h2] at h1
      rw [← h1]; exact List.getElem_mem h2
    · intro _; exact Int.natCast_nonneg i

theorem byteIn_uf {h : Heap} {s : List UInt8} {c : UInt8} : UF T F 96 [.str s, .int .u8 c.toNat] h fun v' h' => Ext h h' ∧ ∃ x : Int, v' = .int .i64 x ∧ (0 ≤ x ↔ c ∈ s) := by
  refine UF.gen fun Q hQ => UF.of (F_96) (c := _) rfl ?_
  unfold Try.f96
  simp only [List.length, Nat.reduceSub, Nat.reduceAdd, List.replicate, List.cons_append, List.nil_append]
  simp (disch := omega) only [go_sem, seval]
  refine callV_ofU F_99 rfl (UF.mono (Q := fun v' h' => Ext h h' ∧ ∃ x : Int, v' = .int .i64 x ∧ (0 ≤ x ↔ c ∈ s)) ?_ ?_)
  · skip
    refine UF.gen fun Q hQ => UF.of (F_99) (c := _) rfl ?_
    unfold Try.f99
    simp only [List.length, Nat.reduceSub, Nat.reduceAdd, List.replicate, List.cons_append, List.nil_append]
    simp (disch := omega) only [go_sem, seval]
    have hx : externO F 100 [.str s, .int .u8 c.toNat] = some (.int .i64 (match (List.range s.length).find? fun i => s.getD i 0 == c with | some i => (i : Int) | none => -1)) := by
      have : ((c.toNat : Int).toNat.toUInt8) = c := by simp
      show some _ = _
      rw [this]
      rfl
    refine callV_ext hx ?_
    simp (disch := omega) only [go_sem, seval]
    exact hQ _ _ ⟨Ext.refl h, _, rfl, byteIn_go s c _ rfl⟩
  · rintro v1 h1 ⟨e1, x, rfl, hx⟩
    simp (disch := omega) only [go_sem, seval]
    exact hQ _ _ ⟨e1, x, rfl, hx⟩

/-- A byte that is meant, but those that are special. -/
def sign (but r : List UInt8) : Option (UInt8 × List UInt8) :=
  let r1 := if nx r = 92 then r.tail else r
  if (nx r1).toNat < 32 ∨ 126 < (nx r1).toNat ∨ decide (nx r1 ∈ but) ≠ decide (nx r = 92) then none else some (nx r1, r1.tail)
theorem nx_pos {r : List UInt8} (h : nx r ≠ 0) : r ≠ [] := by rintro rfl; exact h rfl

theorem Rd.step {h : Heap} {k : Nat} {s r : List UInt8} {v : AV} (R : Rd h k s r v) (hr : r ≠ []) : ∃ i : Nat, h.get k = some (.cells [.str s, .int .i64 i, v] true) ∧ i < s.length ∧
    Rd (h.put k (.cells [.str s, .int .i64 (i + 1 : Nat), v] true)) k s r.tail v ∧ Upd (· = k) h (h.put k (.cells [.str s, .int .i64 (i + 1 : Nat), v] true)) := by
  have R2 := R
  obtain ⟨hk, i, g, hi, rfl⟩ := R
  have hlt : i < s.length := by
    rcases Nat.lt_or_ge i s.length with h | h
    · exact h
    · exact absurd (List.drop_eq_nil_of_le h) hr
  obtain ⟨p1, p2⟩ := R2.put (r' := s.drop (i + 1)) (v' := v) (i := i + 1) hlt rfl
  exact ⟨i, g, hlt, by rw [List.tail_drop]; exact p1, p2⟩

theorem sign_uf {h : Heap} {k : Nat} {s r but : List UInt8} {v : AV} (R : Rd h k s r v) (hs : s.length ≤ 1000) :
    UF T F 91 [.ptr (some (k, 0)), .str but] h fun v' h' => Upd (· = k) h h' ∧
      match sign but r with
      | some (c, r') => v' = .tup [.int .u8 c.toNat, .bool true] ∧ Rd h' k s r' v
      | none => v' = .tup [.int .u8 0, .bool false] ∧ ∃ r', Rd h' k s r' v := by
  refine UF.gen fun Q hQ => UF.of (F_91) (c := _) rfl ?_
  unfold Try.f91
  simp only [List.length, Nat.reduceSub, Nat.reduceAdd, List.replicate, List.cons_append, List.nil_append]
  simp (disch := omega) only [go_sem, seval]
  refine callV_ofU F_70 rfl ((takes_uf (c := 92) R hs (by decide)).mono ?_)
  rintro v1 h1 ⟨rfl, R1, u1⟩
  simp (disch := omega) only [go_sem, seval]
  refine callV_ofU F_82 rfl ((next_uf R1 hs).mono ?_)
  rintro v2 h2 ⟨rfl, e2⟩
  simp (disch := omega) only [go_sem, seval]
  have R2 := R1.ext e2
  generalize hr1 : (if nx r = 92 then r.tail else r) = r1 at R1 R2
  have u2 : Upd (· = k) h h2 := u1.trans (e2.upd _)
  have hno : ((nx r1).toNat < 32 ∨ 126 < (nx r1).toNat ∨ decide (nx r1 ∈ but) ≠ decide (nx r = 92)) → ∀ h3, Ext h2 h3 → Q (.tup [.int .u8 0, .bool false]) h3 := by
    intro hc h3 e3
    have : sign but r = none := by simp only [sign, hr1, if_pos hc]
    exact hQ _ _ ⟨u2.trans (e3.upd _), by rw [this]; exact ⟨rfl, _, R2.ext e3⟩⟩
  by_cases h32 : ((nx r1).toNat : Int) < 32
  · simp (disch := omega) only [go_sem, seval, h32]
    exact hno (.inl (by omega)) _ (Ext.refl _)
  by_cases h126 : ((nx r1).toNat : Int) > 126
  · simp (disch := omega) only [go_sem, seval, h32, h126]
    exact hno (.inr (.inl (by omega))) _ (Ext.refl _)
  simp (disch := omega) only [go_sem, seval, h32, h126]
  refine callV_ofU F_96 rfl ((byteIn_uf).mono ?_)
  rintro v3 h3 ⟨e3, x, rfl, hx⟩
  simp (disch := omega) only [go_sem, seval]
  rw [show decide (x ≥ 0) = decide (nx r1 ∈ but) from decide_eq_decide.2 hx]
  refine condK_bool (fun hne => ?_) (fun heq => ?_)
  · simp (disch := omega) only [go_sem, seval]
    exact hno (.inr (.inr (by simpa using hne))) _ e3
  · obtain ⟨i, g, hi, R4, u4⟩ := (R2.ext e3).step (nx_pos (by intro h0; rw [h0] at h32; exact h32 (by decide)))
    simp (disch := omega) only [go_sem, seval, g]
    have heq : decide (nx r1 ∈ but) = decide (nx r = 92) := by simpa using heq
    have : sign but r = some (nx r1, r1.tail) := by
      simp only [sign, hr1]
      rw [if_neg]
      rintro (h | h | h)
      · omega
      · omega
      · exact h heq
    exact hQ _ _ ⟨(u2.trans (e3.upd _)).trans u4, by rw [this]; exact ⟨rfl, R4⟩⟩

/-- A reader, and what it has made. -/
def RdO (h : Heap) (k : Nat) (s r : List UInt8) (xs : List Item) : Prop := ∃ v, Rd h k s r v ∧ LFresh (k + 1) h v xs
theorem RdO.ext {h h' : Heap} {k : Nat} {s r : List UInt8} {xs : List Item} (R : RdO h k s r xs) (e : Ext h h') : RdO h' k s r xs := by
  obtain ⟨v, a, b⟩ := R; exact ⟨v, a.ext e, b.ext e⟩
/-- Its box changes. -/
theorem RdO.upd {h h' : Heap} {k : Nat} {s r' : List UInt8} {v : AV} {xs : List Item} (R : Rd h' k s r' v) (L : LFresh (k + 1) h v xs) (u : Upd (· = k) h h') : RdO h' k s r' xs :=
  ⟨v, R, L.upd u fun b hb _ e => by omega⟩

theorem puts_uf {h : Heap} {k : Nat} {s r : List UInt8} {v : AV} {xs : List Item} {op : Int} {lv : AV} {l : List Rng} (R : Rd h k s r v) (L : LFresh (k + 1) h v xs) (hl : Lst h lv l) (hx : xs.length ≤ 1000000) :
    UF T F 71 [.ptr (some (k, 0)), .int .i64 op, lv] h fun v' h' => v' = .tup [] ∧ Upd (fun b => b = k ∨ v.blk = some b) h h' ∧ ∃ v2, Rd h' k s r v2 ∧ LFresh (k + 1) h' v2 (xs ++ [⟨op, l⟩]) ∧ ∀ b, v2.blk = some b → h.nxt ≤ b := by
  obtain ⟨hk, i, g, hi⟩ := R
  obtain ⟨a, n, c, z, rfl, hn⟩ := hl.form
  refine UF.gen fun Q hQ => UF.of (F_71) (c := _) rfl ?_
  unfold Try.f71
  simp only [List.length, Nat.reduceSub, Nat.reduceAdd, List.replicate, List.cons_append, List.nil_append]
  simp (disch := omega) only [go_sem, seval]
  simp (disch := omega) only [go_sem, seval, g]
  refine lappend (m := k + 1) (xs := xs) (ys := [⟨op, l⟩]) T_28 rfl T_35 rfl (by decide) (by decide) (L.ext (Ext.add _ _)).own (LSlc.lit (b := h.nxt) (by simp) get_add_self rfl (Reps.one ⟨_, rfl, hl.pst (Ext.add _ _).pst⟩) rfl rfl) (by simp; omega) (by simp [roomA]; omega) ?_
  intro v2 h2 n2 r2 o2 c2 p2
  rcases c2 with ⟨c2, _⟩ | ⟨L2, b2⟩
  · simp at c2
  have n2' : h.nxt < h2.nxt := by simp at n2; omega
  have g2 : h2.get k = some (Blk.cells [AV.str s, AV.int IntKind.i64 ↑i, v] true) := by
    rw [r2 k (by simp; omega) (fun e => by have := L.blk e; omega), Heap.get_add, if_neg (by omega)]; exact g
  obtain ⟨va, vn, vc, vz, rfl, hv2⟩ := L2.form
  simp (disch := omega) only [go_sem, seval, g2]
  have u2 : Upd (fun b => b = k ∨ v.blk = some b) h h2 := by
    refine ⟨by omega, fun b hb hs => ?_, ((Ext.add _ _).pst.trans p2).frz⟩
    rw [r2 b (by simp; omega) (fun e => hs (.inr e)), Heap.get_add, if_neg (by omega)]
  refine hQ _ _ ⟨rfl, u2.trans (Upd.put _ (.inl rfl) fun cs e => by rw [g2] at e; simp at e), _, ⟨by simp; omega, i, by rw [Heap.get_put, if_pos rfl], hi⟩, ?_, fun b e => by have := b2 b e; simp at this; omega⟩
  exact L2.upd (Upd.put (S := (· = k)) _ rfl fun cs e => by rw [g2] at e; simp at e) fun b hb _ e => by omega

def inside : List UInt8 := [93, 45, 92]
/-- A range in square brackets. -/
def rng (r : List UInt8) : Option (Rng × List UInt8) := match sign inside r with
  | none => none
  | some (lo, r1) => if nx r1 = 45 then (match sign inside r1.tail with
    | none => none
    | some (hi, r2) => if lo.toNat ≤ hi.toNat then some (⟨lo, hi⟩, r2) else none) else some (⟨lo, lo⟩, r1)
/-- Ranges, up to the bracket's end. -/
def rngs : Nat → List UInt8 → Option (List Rng × List UInt8)
  | 0, _ => none
  | n + 1, r => if nx r = 93 then some ([], r) else match rng r with
    | none => none
    | some (x, r1) => match rngs n r1 with
      | none => none
      | some (l, r2) => some (x :: l, r2)

theorem sign_len {but r r' : List UInt8} {c : UInt8} (e : sign but r = some (c, r')) : r'.length + 1 ≤ r.length := by
  unfold sign at e
  have h2 : (if nx r = 92 then r.tail else r).length ≤ r.length := by split <;> simp
  generalize (if nx r = 92 then r.tail else r) = r1 at e h2
  simp only at e
  split at e
  · cases e
  · rename_i h
    simp only [Option.some.injEq, Prod.mk.injEq] at e
    obtain ⟨rfl, rfl⟩ := e
    cases r1 with
    | nil => exact absurd (.inl (by decide)) h
    | cons a l => simp at h2 ⊢; omega
theorem rng_len {r r' : List UInt8} {x : Rng} (e : rng r = some (x, r')) : r'.length + 1 ≤ r.length := by
  unfold rng at e
  split at e
  · cases e
  · rename_i lo r1 h1
    have l1 := sign_len h1
    split at e
    · split at e
      · cases e
      · rename_i hi r2 h2
        have l2 := sign_len h2
        split at e
        · simp only [Option.some.injEq, Prod.mk.injEq] at e
          obtain ⟨_, rfl⟩ := e
          simp at l2; omega
        · cases e
    · simp only [Option.some.injEq, Prod.mk.injEq] at e
      obtain ⟨_, rfl⟩ := e
      omega

/-- What stands in the box that a closure holds. -/
theorem rangesOf_uf {h : Heap} {k : Nat} : UF T F 95 [.ptr (some (k, 0))] h fun v' h' => Ext h h' ∧ h'.nxt = h.nxt + 1 ∧ v' = .func (.func 98) [.ptr (some (h.nxt, 0))] ∧ h'.get h.nxt = some (.cells [.ptr (some (k, 0))] true) := by
  refine UF.gen fun Q hQ => UF.of (F_95) (c := _) rfl ?_
  unfold Try.f95
  simp only [List.length, Nat.reduceSub, Nat.reduceAdd, List.replicate, List.cons_append, List.nil_append]
  simp (disch := omega) only [go_sem, seval]
  exact hQ _ _ ⟨Ext.add _ _, by simp, rfl, get_add_self⟩

section
variable {k bx l : Nat} {s : List UInt8} {v : AV}
/-- The ranges are told one by one. -/
theorem ranges_uf (I : List UInt8 → List Rng → Heap → Prop) (D : Heap → Prop) (hs : s.length ≤ 1000)
    (hbx : ∀ {r xs h}, I r xs h → h.get bx = some (.cells [.ptr (some (k, 0))] true)) (hrd : ∀ {r xs h}, I r xs h → Rd h k s r v)
    (hup : ∀ {r r' xs h h'}, I r xs h → Upd (· = k) h h' → Rd h' k s r' v → I r' xs h')
    {N : Nat} (yes : ∀ {r xs h} (x : Rng), I r xs h → xs.length < N → UR T F l [.agg [.int .u8 x.lo.toNat, .int .u8 x.hi.toNat], .bool true] h fun v' h' => v' = .bool true ∧ I r (xs ++ [x]) h')
    (no : ∀ {r xs h} (a b : Int), I r xs h → UR T F l [.agg [.int .u8 a, .int .u8 b], .bool false] h fun v' h' => v' = .bool false ∧ D h')
    {n : Nat} {r : List UInt8} {xs : List Rng} {h : Heap} (i0 : I r xs h) (hn : r.length < n) (hN : xs.length + n ≤ N) :
    UF T F 98 [.func (.yield l) [], .ptr (some (bx, 0))] h fun _ h' => match rngs n r with | some (ys, r') => I r' (xs ++ ys) h' | none => D h' := by
  refine UF.gen fun Q hQ => UF.of (F_98) (c := _) rfl ?_
  unfold Try.f98
  simp only [List.length, Nat.reduceSub, Nat.reduceAdd, List.replicate, List.cons_append, List.nil_append]
  simp (disch := omega) only [go_sem, seval]
  refine LoopU_while (fun m st h1 => ∃ r1 xs1, I r1 xs1 h1 ∧ (r1.length < m ∧ xs1.length + m ≤ N) ∧ (rngs n r).map (fun p => (xs ++ p.1, p.2)) = (rngs m r1).map (fun p => (xs1 ++ p.1, p.2)) ∧ Keep st 42 [(0, .func (.yield l) []), (1, .ptr (some (bx, 0)))]) n ⟨r, xs, i0, ⟨hn, hN⟩, rfl, rfl, by simp [Has]⟩ ?_
  rintro m st h1 ⟨r1, xs1, i1, ⟨hm, hmN⟩, he, hk⟩
  obtain ⟨m, rfl⟩ : ∃ m', m = m' + 1 := ⟨m - 1, by omega⟩
  rw [hk.eq]
  obtain ⟨k0, k1, -⟩ := hk.2
  simp only [slotsFrom, Nat.reduceAdd] at k0 k1 ⊢
  simp only [k0, k1]
  simp (disch := omega) only [go_sem, seval, hbx i1]
  refine callV_ofU F_82 rfl ((next_uf (hrd i1) hs).mono ?_)
  rintro v2 h2 ⟨rfl, e2⟩
  simp (disch := omega) only [go_sem, seval]
  have i2 := hup i1 (e2.upd _) ((hrd i1).ext e2)
  have c93 : ((nx r1).toNat : Int) = 93 ↔ nx r1 = 93 := iff_of_eq (u8_eq (a := nx r1) (b := 93))
  by_cases h93 : nx r1 = 93
  · simp (disch := omega) only [go_sem, seval, c93.2 h93]
    refine hQ _ _ ?_
    have : rngs (m + 1) r1 = some ([], r1) := by rw [rngs, if_pos h93]
    rw [this] at he
    simp only [Option.map_some, List.append_nil] at he
    cases hr : rngs n r with
    | none => rw [hr] at he; simp at he
    | some p =>
      obtain ⟨ys, r'⟩ := p
      rw [hr] at he
      simp only [Option.map_some, Option.some.injEq, Prod.mk.injEq] at he
      obtain ⟨rfl, rfl⟩ := he
      exact i2
  have hrng : rngs (m + 1) r1 = match rng r1 with | none => none | some (x, r1) => match rngs m r1 with | none => none | some (l, r2) => some (x :: l, r2) := by rw [rngs, if_neg h93]
  have bad : rng r1 = none → rngs n r = none := by
    intro h
    rw [hrng, h] at he
    simpa using he
  have hn93 : ¬ ((nx r1).toNat : Int) = 93 := fun h => h93 (c93.1 h)
  simp (disch := omega) only [go_sem, seval, hn93, hbx i2]
  refine callV_ofU F_91 rfl ((sign_uf (but := inside) (hrd i2) hs).mono ?_)
  rintro v3 h3 ⟨u3, m3⟩
  simp (disch := omega) only [go_sem, seval]
  cases hs1 : sign inside r1 with
  | none =>
    rw [hs1] at m3
    obtain ⟨rfl, r3, R3⟩ := m3
    have i3 := hup i2 u3 R3
    have hr1 : rng r1 = none := by simp only [rng, hs1]
    simp (disch := omega) only [go_sem, seval]
    refine yieldU_of ((no _ _ i3).mono ?_)
    rintro v4 h4 ⟨rfl, d4⟩
    simp (disch := omega) only [go_sem, seval]
    exact hQ _ _ (by rw [bad hr1]; exact d4)
  | some p =>
    obtain ⟨lo, r2⟩ := p
    rw [hs1] at m3
    obtain ⟨rfl, R3⟩ := m3
    have i3 := hup i2 u3 R3
    simp (disch := omega) only [go_sem, seval, hbx i3]
    refine callV_ofU F_70 rfl ((takes_uf (c := 45) R3 hs (by decide)).mono ?_)
    rintro v4 h4 ⟨rfl, R4, u4⟩
    simp (disch := omega) only [go_sem, seval]
    have i4 := hup i3 u4 R4
    have l2 := sign_len hs1
    by_cases h45 : nx r2 = 45
    · have hr2 : (if nx r2 = 45 then r2.tail else r2) = r2.tail := if_pos h45
      rw [hr2] at R4 i4
      simp (disch := omega) only [go_sem, seval, h45, hbx i4]
      refine callV_ofU F_91 rfl ((sign_uf (but := inside) R4 hs).mono ?_)
      rintro v5 h5 ⟨u5, m5⟩
      simp (disch := omega) only [go_sem, seval]
      cases hs2 : sign inside r2.tail with
      | none =>
        rw [hs2] at m5
        obtain ⟨rfl, r5, R5⟩ := m5
        have i5 := hup i4 u5 R5
        have hr1 : rng r1 = none := by simp only [rng, hs1, h45, if_true, hs2]
        simp (disch := omega) only [go_sem, seval]
        refine yieldU_of ((no _ _ i5).mono ?_)
        rintro v6 h6 ⟨rfl, d6⟩
        simp (disch := omega) only [go_sem, seval]
        exact hQ _ _ (by rw [bad hr1]; exact d6)
      | some p =>
        obtain ⟨hi, r3⟩ := p
        rw [hs2] at m5
        obtain ⟨rfl, R5⟩ := m5
        have i5 := hup i4 u5 R5
        have l5 := sign_len hs2
        by_cases hle : (lo.toNat : Int) ≤ hi.toNat
        · have hr1 : rng r1 = some (⟨lo, hi⟩, r3) := by simp only [rng, hs1, h45, if_true, hs2]; rw [if_pos (by omega)]
          simp (disch := omega) only [go_sem, seval, hle]
          refine yieldU_of ((yes ⟨lo, hi⟩ i5 (by omega)).mono ?_)
          rintro v6 h6 ⟨rfl, i6⟩
          simp (disch := omega) only [go_sem, seval]
          refine AgainK.mk m (by simp) ⟨r3, _, i6, ⟨by simp at l5; omega, by simp; omega⟩, ?_, rfl, by simp [Has]⟩
          rw [he, hrng, hr1]
          simp only
          cases rngs m r3 <;> simp
        · have hr1 : rng r1 = none := by simp only [rng, hs1, h45, if_true, hs2]; rw [if_neg (by omega)]
          simp (disch := omega) only [go_sem, seval, hle]
          refine yieldU_of ((no _ _ i5).mono ?_)
          rintro v6 h6 ⟨rfl, d6⟩
          simp (disch := omega) only [go_sem, seval]
          exact hQ _ _ (by rw [bad hr1]; exact d6)
    · have hr2 : (if nx r2 = 45 then r2.tail else r2) = r2 := if_neg h45
      rw [hr2] at R4 i4
      have hr1 : rng r1 = some (⟨lo, lo⟩, r2) := by simp only [rng, hs1, if_neg h45]
      simp (disch := omega) only [go_sem, seval, h45, Int.le_refl]
      refine yieldU_of ((yes ⟨lo, lo⟩ i4 (by omega)).mono ?_)
      rintro v6 h6 ⟨rfl, i6⟩
      simp (disch := omega) only [go_sem, seval]
      refine AgainK.mk m (by simp) ⟨r2, _, i6, ⟨by omega, by simp; omega⟩, ?_, rfl, by simp [Has]⟩
      rw [he, hrng, hr1]
      simp only
      cases rngs m r2 <;> simp
end

/-- What square brackets mean. -/
def cls (r : List UInt8) : Option (List Item × List UInt8) := match rngs (r.length + 1) r with
  | none => none
  | some (l, r1) => if l ≠ [] then some ([⟨1, l⟩], r1.tail) else none

theorem rngs_end : ∀ {n : Nat} {r r1 : List UInt8} {l : List Rng}, rngs n r = some (l, r1) → nx r1 = 93 ∧ r1.length + l.length ≤ r.length
  | 0, _, _, _, e => by simp [rngs] at e
  | n + 1, r, r1, l, e => by
    rw [rngs] at e
    split at e
    · rename_i h
      simp only [Option.some.injEq, Prod.mk.injEq] at e
      obtain ⟨rfl, rfl⟩ := e
      exact ⟨h, by simp⟩
    · split at e
      · cases e
      · rename_i x r2 h2
        have := rng_len h2
        split at e
        · cases e
        · rename_i l3 r3 h3
          simp only [Option.some.injEq, Prod.mk.injEq] at e
          obtain ⟨rfl, rfl⟩ := e
          have := rngs_end h3
          simp; exact ⟨this.1, by omega⟩

/-- What class keeps: at m the box of what is told, at m + 1 that of the ranges, at m + 2 the reader's, at m + 3 the marks, at m + 4 the loop. -/
structure Cls (h0 h : Heap) (k m : Nat) (s r : List UInt8) (v : AV) (xs : List Rng) (q : LoopR) : Prop where
  rd : Rd h k s r v
  n : m + 4 < h.nxt
  old : ∀ b, b < m → b ≠ k → h.get b = h0.get b
  b2 : h.get m = some (.cells [.bool false] true)
  b3 : ∃ w, h.get (m + 1) = some (.cells [w] true) ∧ LFresh (m + 5) h w xs
  bb : h.get (m + 2) = some (.cells [.ptr (some (k, 0))] true)
  bd : h.get (m + 3) = some (.defers false)
  bl : h.get (m + 4) = some (.loop q)
theorem Cls.upd {h0 h h' : Heap} {k m : Nat} {s r r' : List UInt8} {v : AV} {xs : List Rng} {q : LoopR} (C : Cls h0 h k m s r v xs q) (hk : k < m) (u : Upd (· = k) h h') (R : Rd h' k s r' v) : Cls h0 h' k m s r' v xs q := by
  have n := C.n
  have g : ∀ b, b < m + 5 → b ≠ k → h'.get b = h.get b := fun b hb hne => u.get b (by omega) hne
  obtain ⟨w, b3, b4⟩ := C.b3
  refine ⟨R, Nat.lt_of_lt_of_le n u.nxt, fun b hb hne => (g b (by omega) hne).trans (C.old b hb hne), ?_, ⟨w, ?_, b4.upd u fun b hb _ e => by omega⟩, ?_, ?_, ?_⟩
  · rw [g m (by omega) (by omega)]; exact C.b2
  · rw [g (m + 1) (by omega) (by omega)]; exact b3
  · rw [g (m + 2) (by omega) (by omega)]; exact C.bb
  · rw [g (m + 3) (by omega) (by omega)]; exact C.bd
  · rw [g (m + 4) (by omega) (by omega)]; exact C.bl

theorem class_uf {h : Heap} {k : Nat} {s r : List UInt8} {xs : List Item} (R : RdO h k s r xs) (hs : s.length ≤ 1000) (hx : xs.length ≤ 1000000) :
    UF T F 90 [.ptr (some (k, 0))] h fun v' h' => Upd (k ≤ ·) h h' ∧ match cls r with
      | some (l, r') => v' = .bool true ∧ RdO h' k s r' (xs ++ l)
      | none => v' = .bool false := by
  obtain ⟨v, R, L⟩ := R
  have hk := R.lt
  refine UF.gen fun Q hQ => UF.of (F_90) (c := _) rfl ?_
  unfold Try.f90
  simp only [List.length, Nat.reduceSub, Nat.reduceAdd, List.replicate, List.cons_append, List.nil_append]
  simp (disch := omega) only [go_sem, seval]
  refine callV_ofU F_95 rfl ((rangesOf_uf).mono ?_)
  rintro v1 h1 ⟨e1, n1, rfl, g1⟩
  simp (disch := omega) only [go_sem, seval]
  simp only [Heap.add_nxt] at n1 g1
  have hv1 : h1.nxt = h.nxt + 3 := by omega
  refine LoopU_range rfl ?_
  generalize hq : LoopR.mk _ _ _ _ _ _ _ _ = q
  rw [hv1]
  have hm : h.nxt + 1 + 1 = h.nxt + 2 := rfl
  have C0 : Cls h ((h1.add (.defers false)).add (.loop q)) k h.nxt s r v [] q := by
    have ge : ∀ b, b < h.nxt + 3 → ((h1.add (.defers false)).add (.loop q)).get b = h1.get b := fun b hb => by rw [get_add_lt (by simp; omega), get_add_lt (by omega)]
    refine ⟨(R.ext ((((Ext.add _ _).trans (Ext.add _ _)).trans e1).trans ((Ext.add _ _).trans (Ext.add _ _)))), by simp; omega, fun b hb hne => ?_, ?_, ⟨_, ?_, LFresh.nil⟩, ?_, ?_, ?_⟩
    · rw [ge b (by omega), e1.get b (by simp; omega), get_add_lt (by simp; omega), get_add_lt (by omega)]
    · rw [ge _ (by omega), e1.get _ (by simp; omega), get_add_lt (by simp)]; exact get_add_self
    · rw [ge _ (by omega), e1.get _ (by simp)]; exact get_add_self
    · rw [ge _ (by omega)]; exact g1
    · rw [get_add_lt (by simp; omega), ← hv1]; exact get_add_self
    · have : h.nxt + 4 = (h1.add (.defers false)).nxt := by simp; omega
      rw [this]; exact get_add_self
  have yes : ∀ {r : List UInt8} {xs : List Rng} {hh : Heap} (x : Rng), Cls h hh k h.nxt s r v xs q → xs.length < 2000 → UR T F (h.nxt + 4) [.agg [.int .u8 x.lo.toNat, .int .u8 x.hi.toNat], .bool true] hh fun v' h' => v' = .bool true ∧ Cls h h' k h.nxt s r v (xs ++ [x]) q := by
    intro r xs hh x C hxs
    subst hq
    refine UR.of C.bl rfl ?_
    simp only [setAll]
    simp (disch := omega) only [go_sem, seval]
    have n := C.n
    obtain ⟨w, b3, b4⟩ := C.b3
    obtain ⟨wa, wn, wc, wz, rfl, hwn⟩ := b4.form
    refine ⟨rfl, rfl, _, (get_put_ne (by omega)).trans ((get_add_lt (by omega)).trans C.bl), rfl, ?_⟩
    simp (disch := omega) only [go_sem, seval, b3]
    generalize hX : Heap.put _ (h.nxt + 4) _ = X
    have gX := (congrArg (fun g => g.get (h.nxt + 4)) hX).symm.trans get_put_self
    have uX : Upd (· = h.nxt + 4) hh X := by
      subst hX
      refine (((Ext.add _ _).put (Nat.le_refl _)).upd _).trans (Upd.put _ rfl fun cs e => ?_)
      rw [get_put_ne (by omega), get_add_lt (by omega), C.bl] at e
      simp at e
    have LX : LFresh (h.nxt + 5) (X.add (.cells [.int .u8 x.lo.toNat, .int .u8 x.hi.toNat] true)) (.slc wa wn wc wz) xs := (b4.upd uX fun b hb _ e => by omega).ext (Ext.add _ _)
    have nX := uX.nxt
    have nXe : X.nxt = hh.nxt + 1 := by rw [← hX]; simp
    rw [← nXe]
    refine lappend (m := h.nxt + 5) (xs := xs) (ys := [x]) T_33 rfl T_37 rfl (by decide) (by decide) LX.own (LSlc.lit (b := X.nxt) (ls := [[.int .u8 x.lo.toNat, .int .u8 x.hi.toNat]]) (by simp) get_add_self rfl (Reps.one (x := x) rfl) rfl rfl) (by simp; omega) (by simp [roomA]; omega) ?_
    intro v2 h2 n2 r2 o2 c2 p2
    rcases c2 with ⟨c2, _⟩ | ⟨L2, _⟩
    · simp at c2
    obtain ⟨va, vn, vc, vz, rfl, hv2⟩ := L2.form
    have g2 : ∀ b, b < h.nxt + 5 → h2.get b = X.get b := fun b hb => by
      rw [r2 b (by simp; omega) (fun e => by have := LX.blk e; omega), get_add_lt (by omega)]
    have g3 : ∀ b, b < h.nxt + 4 → h2.get b = hh.get b := fun b hb => (g2 b (by omega)).trans (uX.get b (by omega) (by omega))
    have n2' : X.nxt < h2.nxt := by simp at n2; omega
    simp (disch := omega) only [go_sem, seval, (g3 (h.nxt + 1) (by omega)).trans b3]
    refine ⟨rfl, _, (get_put_ne (by omega)).trans ((g2 _ (by omega)).trans gX), rfl, ?_⟩
    generalize hY : Heap.put (Heap.put h2 (h.nxt + 1) _) (h.nxt + 4) _ = Y
    have gY : ∀ b, b < h.nxt + 4 → b ≠ h.nxt + 1 → Y.get b = hh.get b := fun b hb hne => by
      rw [← hY, get_put_ne (by omega), get_put_ne (by omega), g3 b hb]
    have u2 : Upd (fun b => h.nxt + 1 ≤ b) h2 Y := by
      subst hY
      refine (Upd.put _ (Nat.le_refl _) fun cs e => ?_).trans (Upd.put _ (by omega) fun cs e => ?_)
      · rw [(g3 (h.nxt + 1) (by omega)).trans b3] at e; simp at e
      · rw [get_put_ne (by omega), (g2 _ (by omega)).trans gX] at e; simp at e
    have hkn := C.rd.lt
    have hkm : k < h.nxt := hk
    refine ⟨⟨by rw [← hY]; simp; omega, ?_⟩, ?_, fun b hb hne => ?_, ?_, ⟨.slc va vn vc vz, ?_, ?_⟩, ?_, ?_, ?_⟩
    · obtain ⟨i, gi, hi⟩ := C.rd.at_
      exact ⟨i, (gY k (by omega) (by omega)).trans gi, hi⟩
    · rw [← hY]; simp; omega
    · rw [gY b (by omega) (by omega)]; exact C.old b hb hne
    · rw [gY _ (by omega) (by omega)]; exact C.b2
    · rw [← hY, get_put_ne (by omega)]; exact get_put_self
    · rw [← hY]
      refine L2.upd (S := fun b => h.nxt + 1 ≤ b ∧ b < h.nxt + 5) ?_ fun b hb _ e => by omega
      refine (Upd.put _ (by omega) fun cs e => ?_).trans (Upd.put _ (by omega) fun cs e => ?_)
      · rw [(g3 (h.nxt + 1) (by omega)).trans b3] at e; simp at e
      · rw [get_put_ne (by omega), (g2 _ (by omega)).trans gX] at e; simp at e
    · rw [gY _ (by omega) (by omega)]; exact C.bb
    · rw [gY _ (by omega) (by omega)]; exact C.bd
    · rw [← hY]; exact get_put_self
  have no : ∀ {r : List UInt8} {xs : List Rng} {hh : Heap} (a b : Int), Cls h hh k h.nxt s r v xs q → UR T F (h.nxt + 4) [.agg [.int .u8 a, .int .u8 b], .bool false] hh fun v' h' => v' = .bool false ∧ h.nxt + 4 < h'.nxt ∧
      (∀ b, b < h.nxt → b ≠ k → h'.get b = h.get b) ∧ h'.get h.nxt = some (.cells [.bool false] true) ∧ h'.get (h.nxt + 3) = some (.defers false) ∧ h'.get (h.nxt + 4) = some (.loop { q with state := .done, pending := some .ret }) := by
    intro r xs hh a b C
    subst hq
    refine UR.of C.bl rfl ?_
    simp only [setAll]
    simp (disch := omega) only [go_sem, seval]
    have n := C.n
    refine ⟨rfl, rfl, _, (get_put_ne (by omega)).trans ((get_add_lt (by omega)).trans C.bl), rfl, ?_⟩
    simp (disch := omega) only [go_sem, seval, C.b2]
    refine ⟨rfl, _, (get_put_ne (by omega)).trans get_put_self, rfl, by simp; omega, fun b hb hne => ?_, ?_, ?_, get_put_self⟩
    · rw [get_put_ne (by omega), get_put_ne (by omega), get_put_ne (by omega), get_put_ne (by omega), get_add_lt (by omega)]; exact C.old b hb hne
    · rw [get_put_ne (by omega)]; exact get_put_self
    · rw [get_put_ne (by omega), get_put_ne (by omega), get_put_ne (by omega), get_put_ne (by omega), get_add_lt (by omega)]; exact C.bd
  have hr : r.length ≤ 1000 := by
    obtain ⟨i, _, _, e⟩ := R.at_
    rw [← e, List.length_drop]; omega
  refine (ranges_uf (fun r xs hh => Cls h hh k h.nxt s r v xs q) (fun h' => h.nxt + 4 < h'.nxt ∧
      (∀ b, b < h.nxt → b ≠ k → h'.get b = h.get b) ∧ h'.get h.nxt = some (.cells [.bool false] true) ∧ h'.get (h.nxt + 3) = some (.defers false) ∧ h'.get (h.nxt + 4) = some (.loop { q with state := .done, pending := some .ret })) hs (fun C => C.bb) (fun C => C.rd) (fun C u R => C.upd hk u R) (N := 2000) yes no (n := r.length + 1) C0 (by omega) (by simp; omega)).mono ?_
  rintro _ h2 m2
  have hpend : q.pending = none := by rw [← hq]
  have hst : q.state = .ready := by rw [← hq]
  clear yes no C0
  cases hr2 : rngs (r.length + 1) r with
  | none =>
    rw [hr2] at m2
    obtain ⟨d1, d2, d3, d4, d5⟩ := m2
    refine ⟨_, d5, by simp, ?_⟩
    simp (disch := omega) only [go_sem, seval]
    rw [callK_ret1 ((get_put_ne (by omega)).trans d4)]
    simp (disch := omega) only [go_sem, seval, d3]
    refine hQ _ _ ⟨⟨by simp; omega, fun b hb hne => ?_, fun b cs hb hg => ?_⟩, by simp only [cls, hr2]⟩
    · have hne : b ≠ k := fun e => hne (by omega)
      rw [get_put_ne (by omega), get_put_ne (by omega)]; exact d2 b hb hne
    · have hne : b ≠ k := by
        obtain ⟨i, g, _⟩ := R.at_
        rintro rfl; rw [g] at hg; simp at hg
      rw [get_put_ne (by omega), get_put_ne (by omega), d2 b hb hne]; exact hg
  | some p =>
    obtain ⟨l, r'⟩ := p
    rw [hr2] at m2
    have C : Cls h h2 k h.nxt s r' v l q := by simpa using m2
    refine ⟨_, C.bl, by rw [hst]; simp, ?_⟩
    rw [hpend]
    have hlr := rngs_end hr2
    have n := C.n
    obtain ⟨w, b3, b4⟩ := C.b3
    generalize hX : Heap.put h2 _ _ = X
    have uX : Upd (· = h.nxt + 4) h2 X := by
      subst hX
      exact Upd.put _ rfl fun cs e => by rw [C.bl] at e; simp at e
    have nX : X.nxt = h2.nxt := by rw [← hX]; simp
    have gX : ∀ b, b < h.nxt + 4 → X.get b = h2.get b := fun b hb => uX.get b (by omega) (by omega)
    obtain ⟨Y, leY, nY, lY, uY⟩ := (b4.upd uX fun b hb _ e => by omega).frz
    have gY : ∀ b, b < h.nxt + 5 → Y.get b = X.get b := fun b hb => uY.get b (by omega) (by omega)
    have g2 : ∀ b, b < h.nxt + 4 → Y.get b = h2.get b := fun b hb => (gY b (by omega)).trans (gX b hb)
    have hkm : k < h.nxt := hk
    have RY : Rd Y k s r' v := by
      obtain ⟨i, gi, hi⟩ := C.rd.at_
      exact ⟨by omega, i, (g2 k (by omega)).trans gi, hi⟩
    have LY : LFresh (k + 1) Y v xs := by
      have hlt := fun b e => L.lt (b := b) e
      have hge := fun b e => L.blk (b := b) e
      refine L.upd (h' := Y) (S := fun b => b = k) ⟨by omega, fun b hb hne => ?_, fun b cs hb hg => ?_⟩ fun b hb _ e => by omega
      · rw [g2 b (by omega)]; exact C.old b hb hne
      · have hne : b ≠ k := by
          obtain ⟨i, g, _⟩ := R.at_
          rintro rfl; rw [g] at hg; simp at hg
        rw [g2 b (by omega), C.old b hb hne]; exact hg
    obtain ⟨wa, wn, wc, wz, rfl, hwn⟩ := b4.form
    simp (disch := omega) only [go_sem, seval, (gX (h.nxt + 1) (by omega)).trans b3]
    refine callV_ofU F_71 rfl (UF.less leY ((puts_uf RY LY lY hx).mono ?_))
    rintro v3 h3 ⟨rfl, u3, v4, R3, L3, w4⟩
    have hlt := fun b e => L.lt (b := b) e
    have n3 := u3.nxt
    have g3 : ∀ b, h.nxt ≤ b → b < h.nxt + 4 → h3.get b = h2.get b := fun b h1 h2 => by
      rw [u3.get b (by omega) (by rintro (e | e); omega; have := hlt b e; omega), g2 b h2]
    have g30 : ∀ b, b < h.nxt → b ≠ k → v.blk ≠ some b → h3.get b = h.get b := fun b h1 h2 h3 => by
      rw [u3.get b (by omega) (by rintro (e | e); exact h2 e; exact h3 e), g2 b (by omega), C.old b h1 h2]
    have hvk := fun b e => L.blk (b := b) e
    have fz : ∀ b cs, b < h.nxt → h.get b = some (.cells cs false) → b ≠ k ∧ v.blk ≠ some b := fun b cs hb hg => by
      refine ⟨?_, ?_⟩
      · obtain ⟨i, g, _⟩ := R.at_
        rintro rfl; rw [g] at hg; simp at hg
      · intro e
        obtain ⟨ls, a, _⟩ := L
        rcases a with ⟨_, a, z, rfl, _⟩ | ⟨b', o, cs', rfl, _, hb'⟩
        · cases a <;> simp [AV.blk] at e
        · simp [AV.blk] at e; subst e; rw [hb'.get] at hg; simp at hg
    simp (disch := omega) only [go_sem, seval, (g3 (h.nxt + 1) (by omega) (by omega)).trans b3]
    by_cases hl : l = []
    · have hn0 : ¬ ((wn : Int) > 0) := by rw [hwn, hl]; simp
      simp (disch := omega) only [go_sem, seval, hn0, (g3 h.nxt (by omega) (by omega)).trans C.b2]
      rw [callK_ret1 ((get_put_ne (by omega)).trans ((g3 _ (by omega) (by omega)).trans C.bd))]
      simp (disch := omega) only [go_sem, seval]
      refine hQ _ _ ⟨⟨by simp; omega, fun b hb hne => ?_, fun b cs hb hg => ?_⟩, ?_⟩
      · have h1 : b ≠ k := fun e => hne (by omega)
        have h2 : v.blk ≠ some b := fun e => hne (by have := hvk b e; omega)
        rw [get_put_ne (by omega), get_put_ne (by omega)]; exact g30 b hb h1 h2
      · obtain ⟨h1, h2⟩ := fz b cs hb hg
        rw [get_put_ne (by omega), get_put_ne (by omega), g30 b hb h1 h2]; exact hg
      · have : cls r = none := by simp only [cls, hr2, hl, ne_eq, not_true_eq_false, if_false]
        rw [this]
    · have hn0 : (wn : Int) > 0 := by
        have := List.length_pos_iff.2 hl
        rw [hwn]; omega
      simp (disch := omega) only [go_sem, seval, hn0]
      refine callV_ofU F_70 rfl ((takes_uf (c := 93) R3 hs (by decide)).mono ?_)
      rintro v5 h5 ⟨rfl, R5, u5⟩
      simp (disch := omega) only [go_sem, seval]
      have n5 := u5.nxt
      rw [decide_eq_true hlr.1]
      rw [if_pos hlr.1] at R5
      have g5 : ∀ b, b < h3.nxt → b ≠ k → h5.get b = h3.get b := fun b h1 h2 => u5.get b h1 h2
      simp (disch := omega) only [go_sem, seval, (g5 h.nxt (by omega) (by omega)).trans ((g3 h.nxt (by omega) (by omega)).trans C.b2)]
      rw [callK_ret1 ((get_put_ne (by omega)).trans ((g5 _ (by omega) (by omega)).trans ((g3 _ (by omega) (by omega)).trans C.bd)))]
      simp (disch := omega) only [go_sem, seval]
      generalize hZ : Heap.put (Heap.put h5 _ _) _ _ = Z
      have uZ : Upd (fun b => b = h.nxt ∨ b = h.nxt + 3) h5 Z := by
        subst hZ
        refine (Upd.put _ (.inl rfl) fun cs e => ?_).trans (Upd.put _ (.inr rfl) fun cs e => ?_)
        · rw [(g5 h.nxt (by omega) (by omega)).trans ((g3 h.nxt (by omega) (by omega)).trans C.b2)] at e; simp at e
        · rw [get_put_ne (by omega), (g5 _ (by omega) (by omega)).trans ((g3 _ (by omega) (by omega)).trans C.bd)] at e; simp at e
      have nZ := uZ.nxt
      have gZ : ∀ b, b < h.nxt → b ≠ k → v.blk ≠ some b → Z.get b = h.get b := fun b h1 h2 h3 => by
        rw [uZ.get b (by omega) (by omega), g5 b (by omega) h2, g30 b h1 h2 h3]
      refine hQ _ _ ⟨⟨by omega, fun b hb hne => gZ b hb (fun e => hne (by omega)) fun e => hne (by have := hvk b e; omega), fun b cs hb hg => ?_⟩, ?_⟩
      · obtain ⟨h1, h2⟩ := fz b cs hb hg
        rw [gZ b hb h1 h2]; exact hg
      · have : cls r = some ([⟨1, l⟩], r'.tail) := by simp only [cls, hr2, if_pos hl]
        rw [this]
        refine ⟨rfl, v4, ?_, ?_⟩
        · obtain ⟨i, gi, hi⟩ := R5.at_
          exact ⟨by omega, i, (uZ.get k (by omega) (by omega)).trans gi, hi⟩
        · exact (L3.upd u5 fun b hb _ e => by omega).upd uZ fun b hb e1 e => by have := w4 b e1; omega

theorem class_uf' {h : Heap} {k : Nat} {s r : List UInt8} {xs : List Item} (R : RdO h k s r xs) (hs : s.length ≤ 1000) (hx : xs.length ≤ 1000000) :
    UF T F 90 [.ptr (some (k, 0))] h fun v' h' => Upd (k ≤ ·) h h' ∧ match cls r with
      | some (l, r') => v' = .bool true ∧ RdO h' k s r' (xs ++ l)
      | none => v' = .bool false := class_uf R hs hx

end Go.Proofs.Ytenpjkinpecnfaa
