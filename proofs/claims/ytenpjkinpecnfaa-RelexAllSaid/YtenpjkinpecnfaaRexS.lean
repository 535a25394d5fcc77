import Derived.Test.YtenpjkinpecnfaaRexP
/-
  The document's answer to rex: what its functions come to.
-/
namespace Go.Proofs.Ytenpjkinpecnfaa
open Go Go.Am
set_option maxRecDepth 100000
set_option maxHeartbeats 4000000
set_option linter.unusedSimpArgs false
set_option linter.unusedVariables false

/-- A reader of the document's answer. -/
structure Rf (h : Heap) (k : Nat) (s : List UInt8) (i : Nat) (bad : Bool) : Prop where
  lt : k < h.nxt
  g : h.get k = some (.cells [.str s, .int .i64 i, .bool bad] true)
theorem Rf.ext {h h' : Heap} {k : Nat} {s : List UInt8} {i : Nat} {bad : Bool} (R : Rf h k s i bad) (e : Ext h h') : Rf h' k s i bad := ⟨Nat.lt_of_lt_of_le R.lt e.nxt, (e.get _ R.lt).trans R.g⟩
theorem Rf.put {h : Heap} {k : Nat} {s : List UInt8} {i : Nat} {bad : Bool} (R : Rf h k s i bad) (j : Nat) (b : Bool) :
    Rf (h.put k (.cells [.str s, .int .i64 j, .bool b] true)) k s j b ∧ Upd (· = k) h (h.put k (.cells [.str s, .int .i64 j, .bool b] true)) :=
  ⟨⟨R.lt, get_put_self⟩, Upd.put _ rfl fun cs e => by rw [R.g] at e; simp at e⟩
theorem Rf.upd {h h' : Heap} {k : Nat} {s : List UInt8} {i : Nat} {bad : Bool} {S : Nat → Prop} (R : Rf h k s i bad) (u : Upd S h h') (hS : ¬ S k) : Rf h' k s i bad := ⟨Nat.lt_of_lt_of_le R.lt u.nxt, (u.get _ R.lt hS).trans R.g⟩

theorem peek_uf {h : Heap} {k : Nat} {s : List UInt8} {i : Nat} {bad : Bool} (R : Rf h k s i bad) : UF T F 73 [.ptr (some (k, 0))] h fun v' h' => v' = .int .u8 (nx (s.drop i)).toNat ∧ Ext h h' := by
  have g := R.g
  refine UF.gen fun Q hQ => UF.of (F_73) (c := _) rfl ?_
  unfold Try.f73
  simp only [List.length, Nat.reduceSub, Nat.reduceAdd, List.replicate, List.cons_append, List.nil_append]
  simp (disch := omega) only [go_sem, seval]
  refine DrawU_quiet (by rfl) ?_
  simp (disch := omega) only [go_sem, seval, g]
  refine condK_dec (fun hge => ?_) (fun hlt => ?_)
  · simp (disch := omega) only [go_sem, seval]
    refine hQ _ _ ⟨?_, Ext.bump _ _⟩
    have : s.drop i = [] := List.drop_eq_nil_of_le (by omega)
    rw [this]; rfl
  · simp (disch := omega) only [go_sem, seval]
    refine DrawU_quiet (by rfl) ?_
    simp (disch := omega) only [go_sem, seval, g]
    have hi2 : i < s.length := by omega
    have hi3 : (0 : Int) ≤ (i : Int) := by omega
    simp (disch := omega) only [go_sem, seval, hi3, Int.toNat_natCast, List.getElem?_eq_getElem hi2]
    refine hQ _ _ ⟨?_, (Ext.bump _ _).trans (Ext.bump _ _)⟩
    rw [nx, List.drop_eq_getElem_cons hi2]; rfl

theorem special_uf {h : Heap} {c : UInt8} {all : List UInt8} (ha : all.length ≤ 1000) : UF T F 97 [.int .u8 c.toNat, .str all] h fun v' h' => v' = .bool (decide (c ∈ all)) ∧ Ext h h' := by
  refine UF.gen fun Q hQ => UF.of (F_97) (c := _) rfl ?_
  unfold Try.f97
  simp only [List.length, Nat.reduceSub, Nat.reduceAdd, List.replicate, List.cons_append, List.nil_append]
  simp (disch := omega) only [go_sem, seval]
  refine LoopU_while (fun m st h1 => ∃ i, Ext h h1 ∧ i ≤ all.length ∧ m = all.length - i ∧ c ∉ all.take i ∧ Keep st 17 [(0, .int .u8 c.toNat), (1, .str all), (5, .int .i64 (i : Nat))]) all.length ⟨0, Ext.refl h, by omega, rfl, by simp, rfl, by simp [Has]⟩ ?_
  rintro m st h1 ⟨i, e1, hi, rfl, hn, hk⟩
  rw [hk.eq]
  obtain ⟨k0, k1, k5, -⟩ := hk.2
  simp only [slotsFrom, Nat.reduceAdd] at k0 k1 k5 ⊢
  simp only [k0, k1, k5]
  simp (disch := omega) only [go_sem, seval]
  by_cases hlt : (i : Int) < all.length
  · have hi2 : i < all.length := by omega
    have hi3 : (0 : Int) ≤ (i : Int) := by omega
    simp (disch := omega) only [go_sem, seval, hlt, hi3, Int.toNat_natCast, List.getElem?_eq_getElem hi2]
    refine condK_dec (fun he => ?_) (fun hne => ?_)
    · simp (disch := omega) only [go_sem, seval]
      exact hQ _ _ ⟨by rw [decide_eq_true]; rw [← he]; exact List.getElem_mem hi2, e1⟩
    · simp (disch := omega) only [go_sem, seval]
      refine AgainK.mk (all.length - (i + 1)) (by simp; omega) ⟨i + 1, e1, by omega, rfl, ?_, rfl, by simp [Has]⟩
      intro hm
      rw [List.take_add_one, List.mem_append] at hm
      rcases hm with hm | hm
      · exact hn hm
      · rw [List.getElem?_eq_getElem hi2] at hm
        simp at hm; exact hne hm.symm
  · simp (disch := omega) only [go_sem, seval, hlt]
    have : i = all.length := by omega
    subst this
    rw [List.take_length] at hn
    exact hQ _ _ ⟨by rw [decide_eq_false hn], e1⟩

/-- Only such bytes are special. -/
def Seen (all : List UInt8) : Prop := ∀ c ∈ all, 32 ≤ c.toNat ∧ c.toNat ≤ 126
theorem seen_meta : Seen meta1 := by unfold Seen meta1; decide
theorem seen_inside : Seen inside := by unfold Seen inside; decide

theorem one_uf {h : Heap} {k : Nat} {s all : List UInt8} {i : Nat} (R : Rf h k s i false) (hs : s.length ≤ 1000) (hi : i ≤ s.length) (ha : all.length ≤ 1000) (hall : Seen all) :
    UF T F 93 [.ptr (some (k, 0)), .str all] h fun v' h' => Upd (· = k) h h' ∧ ∃ c : UInt8, v' = .int .u8 c.toNat ∧ match sign all (s.drop i) with
      | some (c', r') => c = c' ∧ ∃ i', Rf h' k s i' false ∧ i' ≤ s.length ∧ s.drop i' = r'
      | none => ∃ i', Rf h' k s i' true ∧ i' ≤ s.length + 2 := by
  have hdrop : ∀ j, (s.drop j).tail = s.drop (j + 1) := fun j => by rw [List.tail_drop]
  have hpos : ∀ j, nx (s.drop j) ≠ 0 → j < s.length := fun j hj => by
    rcases Nat.lt_or_ge j s.length with h | h
    · exact h
    · exact absurd (by rw [List.drop_eq_nil_of_le h]; rfl) hj
  refine UF.gen fun Q hQ => UF.of (F_93) (c := _) rfl ?_
  unfold Try.f93
  simp only [List.length, Nat.reduceSub, Nat.reduceAdd, List.replicate, List.cons_append, List.nil_append]
  simp (disch := omega) only [go_sem, seval]
  refine callV_ofU F_73 rfl ((peek_uf R).mono ?_)
  rintro v1 h1 ⟨rfl, e1⟩
  simp (disch := omega) only [go_sem, seval]
  have R1 := R.ext e1
  have c92 : ((nx (s.drop i)).toNat : Int) = 92 ↔ nx (s.drop i) = 92 := iff_of_eq (u8_eq (a := nx (s.drop i)) (b := 92))
  by_cases h92 : nx (s.drop i) = 92
  · have hlt := hpos i (by rw [h92]; decide)
    simp (disch := omega) only [go_sem, seval, c92.2 h92, R1.g]
    obtain ⟨R2, u2⟩ := R1.put (i + 1) false
    have R2' : Rf (h1.put k (.cells [.str s, .int .i64 ((i : Int) + 1), .bool false] true)) k s (i + 1) false := R2
    refine callV_ofU F_73 rfl ((peek_uf R2').mono ?_)
    rintro v3 h3 ⟨rfl, e3⟩
    simp (disch := omega) only [go_sem, seval]
    have R3 := R2.ext e3
    refine callV_ofU F_97 rfl ((special_uf ha).mono ?_)
    rintro v4 h4 ⟨rfl, e4⟩
    simp (disch := omega) only [go_sem, seval]
    have R4 := R3.ext e4
    have u4 : Upd (· = k) h h4 := (((e1.upd _).trans u2).trans (e3.upd _)).trans (e4.upd _)
    by_cases hm : nx (s.drop (i + 1)) ∈ all
    · obtain ⟨h32, h126⟩ := hall _ hm
      have hlt2 := hpos (i + 1) (by intro h0; rw [h0] at h32; exact absurd h32 (by decide))
      simp (disch := omega) only [go_sem, seval, hm, R4.g]
      obtain ⟨R5, u5⟩ := R4.put (i + 1 + 1) false
      refine hQ _ _ ⟨u4.trans u5, _, rfl, ?_⟩
      have : sign all (s.drop i) = some (nx (s.drop (i + 1)), s.drop (i + 2)) := by
        simp only [sign, if_pos h92, hdrop]
        rw [if_neg]
        rintro (h | h | h)
        · omega
        · omega
        · simp [hm, h92] at h
      rw [this]
      exact ⟨rfl, i + 2, R5, by omega, rfl⟩
    · simp (disch := omega) only [go_sem, seval, hm, R4.g]
      obtain ⟨R5, u5⟩ := R4.put (i + 1 + 1) true
      refine hQ _ _ ⟨(u4.trans (R4.put (i + 1) true).2).trans ((R4.put (i + 1) true).1.put (i + 1 + 1) true).2, _, rfl, ?_⟩
      have : sign all (s.drop i) = none := by
        simp only [sign, if_pos h92, hdrop]
        rw [if_pos]
        exact .inr (.inr (by simp [hm, h92]))
      rw [this]
      exact ⟨i + 2, ((R4.put (i + 1) true).1.put (i + 1 + 1) true).1, by omega⟩
  · have n92 : ¬ ((nx (s.drop i)).toNat : Int) = 92 := fun h => h92 (c92.1 h)
    have hsg : sign all (s.drop i) = if (nx (s.drop i)).toNat < 32 ∨ 126 < (nx (s.drop i)).toNat ∨ nx (s.drop i) ∈ all then none else some (nx (s.drop i), s.drop (i + 1)) := by
      simp only [sign, if_neg h92, hdrop]
      simp [h92]
    have bad : ((nx (s.drop i)).toNat < 32 ∨ 126 < (nx (s.drop i)).toNat ∨ nx (s.drop i) ∈ all) → ∀ h3, Ext h1 h3 → Q (.int .u8 (nx (s.drop i)).toNat) ((h3.put k (.cells [.str s, .int .i64 i, .bool true] true)).put k (.cells [.str s, .int .i64 ((i : Int) + 1), .bool true] true)) := by
      intro hc h3 e3
      have R3 := R1.ext e3
      obtain ⟨R4, u4⟩ := R3.put i true
      obtain ⟨R5, u5⟩ := R4.put (i + 1) true
      refine hQ _ _ ⟨(((e1.trans e3).upd _).trans u4).trans u5, _, rfl, ?_⟩
      rw [hsg, if_pos hc]
      exact ⟨i + 1, R5, by omega⟩
    by_cases h32 : ((nx (s.drop i)).toNat : Int) < 32
    · simp (disch := omega) only [go_sem, seval, n92, h32, R1.g]
      exact bad (.inl (by omega)) _ (Ext.refl _)
    by_cases h126 : ((nx (s.drop i)).toNat : Int) > 126
    · simp (disch := omega) only [go_sem, seval, n92, h32, h126, R1.g]
      exact bad (.inr (.inl (by omega))) _ (Ext.refl _)
    simp (disch := omega) only [go_sem, seval, n92, h32, h126]
    refine callV_ofU F_97 rfl ((special_uf ha).mono ?_)
    rintro v4 h4 ⟨rfl, e4⟩
    simp (disch := omega) only [go_sem, seval]
    have R4 := R1.ext e4
    by_cases hm : nx (s.drop i) ∈ all
    · simp (disch := omega) only [go_sem, seval, hm, R4.g]
      exact bad (.inr (.inr hm)) _ e4
    · simp (disch := omega) only [go_sem, seval, hm, R4.g]
      obtain ⟨R5, u5⟩ := R4.put (i + 1) false
      refine hQ _ _ ⟨((e1.trans e4).upd _).trans u5, _, rfl, ?_⟩
      rw [hsg, if_neg (by rintro (h | h | h); omega; omega; exact hm h)]
      exact ⟨rfl, i + 1, R5, hpos i (by intro h0; rw [h0] at h32; exact h32 (by decide)), rfl⟩

/-- A function of this reader does what a parser does, or finds fault; c: how far beyond it may have read. -/
def DoesR (f : Nat) (ex : List AV) (p : List UInt8 → Res) (c : Nat) : Prop := ∀ {h : Heap} {k : Nat} {s : List UInt8} {i : Nat}, Rf h k s i false → s.length ≤ 1000 → i ≤ s.length →
  UF T F f (.ptr (some (k, 0)) :: ex) h fun v' h' => Upd (· = k) h h' ∧ ∃ l : List Item, LGrow h.nxt h' v' l ∧ match p (s.drop i) with
    | some (l', r') => l = l' ∧ ∃ i', Rf h' k s i' false ∧ i' ≤ s.length ∧ s.drop i' = r'
    | none => l.length ≤ 2 * (s.length - i) + 2 ∧ ∃ i', Rf h' k s i' true ∧ i' ≤ s.length + c

/-- A range that is none. -/
theorem clsBad {r r2 : List UInt8} {ys : List Rng} {m : Nat} (h1 : r2.length < m) (h2 : ys = [] → r2 = r) (h3 : rngs (r.length + 1) r = (rngs m r2).map fun p => (ys ++ p.1, p.2)) (h4 : rng r2 = none) (h5 : ys = [] ∨ nx r2 ≠ 93) : cls r = none := by
  obtain ⟨m, rfl⟩ : ∃ m', m = m' + 1 := ⟨m - 1, by omega⟩
  unfold cls
  rw [h3, rngs]
  by_cases h93 : nx r2 = 93
  · rw [if_pos h93]
    simp only [Option.map_some, List.append_nil]
    rcases h5 with h5 | h5
    · simp [h5]
    · exact absurd h93 h5
  · rw [if_neg h93, h4]; rfl
/-- A range that is one. -/
theorem clsGood {r r2 r3 : List UInt8} {ys : List Rng} {x : Rng} {m : Nat} (h1 : r2.length < m) (h3 : rngs (r.length + 1) r = (rngs m r2).map fun p => (ys ++ p.1, p.2)) (h4 : rng r2 = some (x, r3)) (h5 : nx r2 ≠ 93) :
    rngs (r.length + 1) r = (rngs (m - 1) r3).map fun p => ((ys ++ [x]) ++ p.1, p.2) := by
  obtain ⟨m, rfl⟩ : ∃ m', m = m' + 1 := ⟨m - 1, by omega⟩
  rw [h3, rngs, if_neg h5, h4]
  simp only [Nat.add_sub_cancel]
  cases rngs m r3 <;> simp
theorem sign_93 {r : List UInt8} {p} (e : sign inside r = some p) : nx r ≠ 93 := by
  intro h
  have h92 : nx r ≠ 92 := by rw [h]; decide
  simp only [sign, if_neg h92] at e
  rw [if_pos] at e
  · cases e
  · refine .inr (.inr ?_)
    rw [h]; simp [inside]

/-- A list, in a list of one, which is written out; all that is frozen. -/
theorem item_fin {h0 hz : Heap} {v : AV} {op : Int} {ys : List Rng} (L : LGrow h0.nxt hz v ys) : ∃ Y, Le Y (hz.add (.cells [.int .i64 op, v] true)) ∧ Upd (fun b => h0.nxt ≤ b) hz Y ∧ Y.nxt = hz.nxt + 1 ∧ Lst Y (.slc (some (hz.nxt, 0)) 1 (some 1) 2) [(⟨op, ys⟩ : Item)] := by
  obtain ⟨Y1, le1, n1, l1, u1⟩ := L.frz
  obtain ⟨a, n, c, z, rfl, hn⟩ := L.form
  obtain ⟨Y2, le2, e2, n2, l2⟩ := litF (h := Y1) (cs := [.int .i64 op, .slc a n c z]) (xs := [(⟨op, ys⟩ : Item)]) (ls := [[.int .i64 op, .slc a n c z]]) (n := 1) (z := 2) rfl (Reps.one (show Rep.rep Y1 (⟨op, ys⟩ : Item) _ from ⟨_, rfl, l1⟩)) rfl rfl
  rw [n1] at l2
  exact ⟨Y2, le2.trans (le1.add _), (u1.weak fun b _ e => e.1).trans (e2.upd _), by omega, l2⟩

theorem classR_does : DoesR 92 [] cls 3 := by
  intro h k s i R hs hi
  have hlen : (s.drop i).length = s.length - i := by simp
  refine UF.genq fun Q hQ => UF.of (F_92) (c := _) rfl ?_
  unfold Try.f92
  simp only [List.length, Nat.reduceSub, Nat.reduceAdd, List.replicate, List.cons_append, List.nil_append]
  simp (disch := omega) only [go_sem, seval]
  refine LoopU_while (fun m st hh => ∃ (j : Nat) (bad : Bool) (v : AV) (ys : List Rng), Rf hh k s j bad ∧ Upd (· = k) h hh ∧ LGrow h.nxt hh v ys ∧ ys.length + m ≤ 1001 ∧
      (bad = false → j ≤ s.length ∧ s.length - j < m ∧ (ys = [] → j = i) ∧ (rngs ((s.drop i).length + 1) (s.drop i) = (rngs m (s.drop j)).map fun p => (ys ++ p.1, p.2))) ∧
      (bad = true → j ≤ s.length + 2 ∧ cls (s.drop i) = none) ∧ Keep st 69 [(0, .ptr (some (k, 0))), (3, v)]) (s.length - i + 1)
    ⟨i, false, _, [], R, Upd.refl _ _, LGrow.nil, by simp; omega, fun _ => ⟨hi, by omega, fun _ => rfl, by rw [hlen]; cases rngs (s.length - i + 1) (s.drop i) <;> rfl⟩, by simp, rfl, by simp [Has]⟩ ?_
  rintro m st hh ⟨j, bad, v, ys, R1, u1, L1, hy, hgood, hbad, hk⟩
  obtain ⟨va, vn, vc, vz, rfl, hvn⟩ := L1.form
  rw [hk.eq]
  obtain ⟨k0, k3, -⟩ := hk.2
  simp only [slotsFrom, Nat.reduceAdd] at k0 k3 ⊢
  simp only [k0, k3]
  simp (disch := omega) only [go_sem, seval, R1.g]
  cases bad with
  | true =>
    obtain ⟨hb1, hb2⟩ := hbad rfl
    have hw : IntKind.i64.wrap ((j : Int) + 1) = (j : Int) + 1 := wrap_i64 (by omega) (by omega)
    simp (disch := omega) only [go_sem, seval, R1.g, hw]
    obtain ⟨R2, u2⟩ := R1.put (j + 1) true
    have L2 := L1.upd u2 fun b hb _ e => by have := R.lt; omega
    obtain ⟨Y, leY, uY, nY, lY⟩ := item_fin (op := 1) L2
    have k0x := R.lt
    refine hQ _ _ Y leY ⟨(u1.trans u2).trans' uY fun b e hb => by have := u1.nxt; omega, [⟨1, ys⟩], .inr ⟨by simp, lY, _, _, rfl⟩, ?_⟩
    rw [hb2]
    exact ⟨by simp, j + 1, R2.upd uY (by omega), by omega⟩
  | false =>
    obtain ⟨hg1, hg2, hg3, hg4⟩ := hgood rfl
    by_cases hys : ys = []
    · have hv0 : (vn : Int) = 0 := by rw [hvn, hys]; rfl
      simp (disch := omega) only [go_sem, seval, hv0]
      obtain ⟨hA, eA⟩ : ∃ hA, hA = (hh.add (.cells [.int .u8 0, .int .u8 0] true)).put hh.nxt (.cells [.int .u8 0, .int .u8 0] true) := ⟨_, rfl⟩
      rw [← eA]
      have uA : Upd (· = k) hh hA := by subst eA; exact ((Ext.add _ _).put (Nat.le_refl _)).upd _
      have gA : hA.get hh.nxt = some (.cells [.int .u8 0, .int .u8 0] true) := by subst eA; exact get_put_self
      have nA : hA.nxt = hh.nxt + 1 := by subst eA; simp
      have kx := R1.lt
      have k0x := R.lt
      have n0x := u1.nxt
      have RA : Rf hA k s j false := by subst eA; exact R1.ext ((Ext.add _ _).put (Nat.le_refl _))
      refine callV_ofU F_93 rfl ((one_uf (all := inside) RA hs hg1 (by decide) seen_inside).mono ?_)
      rintro v5 h5 ⟨u5, c, rfl, m5⟩
      simp (disch := omega) only [go_sem, seval]
      have g5 : h5.get hh.nxt = _ := (u5.get _ (by omega) (by omega)).trans gA
      have n5 := u5.nxt
      simp (disch := omega) only [go_sem, seval, g5]
      obtain ⟨hB, eB⟩ : ∃ hB, hB = (h5.put hh.nxt (Blk.cells [AV.int IntKind.u8 ↑c.toNat, AV.int IntKind.u8 0] true)).put hh.nxt (Blk.cells [AV.int IntKind.u8 ↑c.toNat, AV.int IntKind.u8 ↑c.toNat] true) := ⟨_, rfl⟩
      have uB5 : Upd (· = hh.nxt) h5 hB := by
        subst eB
        refine (Upd.put (S := (· = hh.nxt)) _ rfl fun cs e => ?_).trans (Upd.put _ rfl fun cs e => ?_)
        · rw [g5] at e; simp at e
        · rw [get_put_self] at e; simp at e
      have gB : hB.get hh.nxt = some (.cells [.int .u8 c.toNat, .int .u8 c.toNat] true) := by subst eB; exact get_put_self
      have nB : hB.nxt = h5.nxt := by subst eB; simp
      have uB : Upd (· = k) h hB := (u1.trans (uA.trans u5)).trans' uB5 fun b e hb => by omega
      have LB : LGrow h.nxt hB (.slc va vn vc vz) ys := by
        have l1 := fun b e => L1.lt (b := b) e
        have l2 := fun b e => L1.blk (b := b) e
        exact ((L1.upd uA fun b _ _ e => by omega).upd u5 fun b hb _ e => by omega).upd uB5 fun b _ e1 e => by have := l1 b e1; omega
      have hm1 : m ≥ 1 := by omega
      cases hsg : sign inside (s.drop j) with
      | none =>
        rw [hsg] at m5
        obtain ⟨i5, R5, hi5⟩ := m5
        have hrn : rng (s.drop j) = none := by simp only [rng, hsg]
        have hcls := clsBad (by simp; omega) (fun e => by rw [hg3 e]) hg4 hrn (.inl hys)
        have RB : Rf hB k s i5 true := R5.upd uB5 (by omega)
        rw [← eB, show h5.get k = hB.get k from (uB5.get k (by omega) (by omega)).symm]
        simp (disch := omega) only [go_sem, seval, RB.g, gB, Int.lt_irrefl]
        refine gappend (m := h.nxt) (xs := ys) (ys := [(⟨c, c⟩ : Rng)]) T_33 rfl T_37 rfl (by decide) (by decide) (LB.ext (Ext.add _ _)) (LSlc.lit (b := hB.nxt) (ls := [[.int .u8 (Rng.lo (⟨c, c⟩ : Rng)).toNat, .int .u8 (Rng.hi (⟨c, c⟩ : Rng)).toNat]]) (by simp) get_add_self rfl (Reps.one (x := (⟨c, c⟩ : Rng)) rfl) rfl rfl) (by have := (LB : LGrow h.nxt _ _ _); simp; omega) (by simp [roomA]; omega) ?_
        intro v9 h9 L9 u9 b9
        simp (disch := omega) only [go_sem, seval]
        have n9 := u9.nxt
        have uF : Upd (· = k) h h9 := uB.trans' ((Ext.add _ _).upd _ |>.trans u9) fun b e hb => by have := LB.blk e; omega
        exact AgainK.mk (m - 1) (by simp only; omega) ⟨i5, true, v9, ys ++ [⟨c, c⟩], (RB.ext (Ext.add _ _)).upd u9 (fun e => by have := LB.blk e; omega), uF, L9, by simp; omega, by simp, fun _ => ⟨hi5, hcls⟩, rfl, by simp [Has]⟩
      | some p =>
        obtain ⟨c', r5⟩ := p
        rw [hsg] at m5
        obtain ⟨rfl, i5, R5, hi5, hd5⟩ := m5
        have RB : Rf hB k s i5 false := R5.upd uB5 (by omega)
        rw [← eB, show h5.get k = hB.get k from (uB5.get k (by omega) (by omega)).symm]
        simp (disch := omega) only [go_sem, seval, RB.g]
        refine callV_ofU F_73 rfl ((peek_uf RB).mono ?_)
        rintro v6 h6 ⟨rfl, e6⟩
        simp (disch := omega) only [go_sem, seval]
        have R6 := RB.ext e6
        have g6 : h6.get hh.nxt = _ := (e6.get _ (by omega)).trans gB
        have L6 := LB.ext e6
        have u6 := uB.trans (e6.upd _)
        have n6 := e6.nxt
        have h93s := sign_93 hsg
        have c45 : ((nx (s.drop i5)).toNat : Int) = 45 ↔ nx (s.drop i5) = 45 := iff_of_eq (u8_eq (a := nx (s.drop i5)) (b := 45))
        have l5 := sign_len hsg
        by_cases h45 : nx (s.drop i5) = 45
        · simp (disch := omega) only [go_sem, seval, c45.2 h45, R6.g]
          have hlt5 : i5 < s.length := by
            rcases Nat.lt_or_ge i5 s.length with h | h
            · exact h
            · rw [List.drop_eq_nil_of_le h] at h45; exact absurd h45 (by decide)
          obtain ⟨R7, u7⟩ := R6.put (i5 + 1) false
          have R7' : Rf (h6.put k (.cells [.str s, .int .i64 ((i5 : Int) + 1), .bool false] true)) k s (i5 + 1) false := R7
          have n7 := u7.nxt
          refine callV_ofU F_93 rfl ((one_uf (all := inside) R7' hs (by omega) (by decide) seen_inside).mono ?_)
          rintro v8 h8 ⟨u8, c2, rfl, m8⟩
          simp (disch := omega) only [go_sem, seval]
          have u78 : Upd (· = k) h6 h8 := u7.trans u8
          have n8 := u78.nxt
          have g8 : h8.get hh.nxt = _ := (u78.get _ (by omega) (by omega)).trans g6
          have L8 : LGrow h.nxt h8 (.slc va vn vc vz) ys := L6.upd u78 fun b hb _ e => by omega
          have u08 := u6.trans u78
          have rt : (s.drop i5).tail = s.drop (i5 + 1) := by rw [List.tail_drop]
          simp (disch := omega) only [go_sem, seval, g8]
          obtain ⟨hC, eC⟩ : ∃ hC, hC = h8.put hh.nxt (Blk.cells [AV.int IntKind.u8 ↑c.toNat, AV.int IntKind.u8 ↑c2.toNat] true) := ⟨_, rfl⟩
          have uC : Upd (· = hh.nxt) h8 hC := by
            subst eC
            exact Upd.put _ rfl fun cs e => by rw [g8] at e; simp at e
          have gC : hC.get hh.nxt = some (.cells [.int .u8 c.toNat, .int .u8 c2.toNat] true) := by subst eC; exact get_put_self
          have nC : hC.nxt = h8.nxt := by subst eC; simp
          have u0C : Upd (· = k) h hC := u08.trans' uC fun b e hb => by omega
          have LC : LGrow h.nxt hC (.slc va vn vc vz) ys := L8.upd uC fun b _ e1 e => by have := L1.lt e1; omega
          cases hs2 : sign inside (s.drop (i5 + 1)) with
          | none =>
            rw [hs2] at m8
            obtain ⟨i8, R8, hi8⟩ := m8
            have hrn : rng (s.drop j) = none := by simp only [rng, hsg]; rw [← hd5, if_pos h45, rt, hs2]
            have hcls := clsBad (by simp; omega) (fun e => by rw [hg3 e]) hg4 hrn (.inl hys)
            have RC : Rf hC k s i8 true := R8.upd uC (by omega)
            rw [← eC]
            by_cases hlt : (c2.toNat : Int) < c.toNat
            · simp (disch := omega) only [go_sem, seval, hlt, RC.g]
              obtain ⟨RD, uD⟩ := RC.put i8 true
              have LD : LGrow h.nxt (hC.put k (.cells [.str s, .int .i64 i8, .bool true] true)) (.slc va vn vc vz) ys := LC.upd uD fun b hb _ e => by omega
              simp (disch := omega) only [go_sem, seval, gC]
              refine gappend (m := h.nxt) (xs := ys) (ys := [(⟨c, c2⟩ : Rng)]) T_33 rfl T_37 rfl (by decide) (by decide) (LD.ext (Ext.add _ _)) (LSlc.lit (b := hC.nxt) (ls := [[.int .u8 (Rng.lo (⟨c, c2⟩ : Rng)).toNat, .int .u8 (Rng.hi (⟨c, c2⟩ : Rng)).toNat]]) (by simp) get_add_self rfl (Reps.one (x := (⟨c, c2⟩ : Rng)) rfl) rfl rfl) (by have := (LD : LGrow h.nxt _ _ _); simp; omega) (by simp [roomA]; omega) ?_
              intro v9 h9 L9 u9 b9
              simp (disch := omega) only [go_sem, seval]
              have n9 := u9.nxt
              have uF : Upd (· = k) h h9 := (u0C.trans uD).trans' ((Ext.add _ _).upd _ |>.trans u9) fun b e hb => by have := LD.blk e; omega
              exact AgainK.mk (m - 1) (by simp only; omega) ⟨i8, true, v9, ys ++ [⟨c, c2⟩], (RD.ext (Ext.add _ _)).upd u9 (fun e => by have := LD.blk e; omega), uF, L9, by simp; omega, by simp, fun _ => ⟨by omega, hcls⟩, rfl, by simp [Has]⟩
            · simp (disch := omega) only [go_sem, seval, hlt, gC]
              refine gappend (m := h.nxt) (xs := ys) (ys := [(⟨c, c2⟩ : Rng)]) T_33 rfl T_37 rfl (by decide) (by decide) (LC.ext (Ext.add _ _)) (LSlc.lit (b := hC.nxt) (ls := [[.int .u8 (Rng.lo (⟨c, c2⟩ : Rng)).toNat, .int .u8 (Rng.hi (⟨c, c2⟩ : Rng)).toNat]]) (by simp) get_add_self rfl (Reps.one (x := (⟨c, c2⟩ : Rng)) rfl) rfl rfl) (by have := (LC : LGrow h.nxt _ _ _); simp; omega) (by simp [roomA]; omega) ?_
              intro v9 h9 L9 u9 b9
              simp (disch := omega) only [go_sem, seval]
              have n9 := u9.nxt
              have uF : Upd (· = k) h h9 := u0C.trans' ((Ext.add _ _).upd _ |>.trans u9) fun b e hb => by have := LC.blk e; omega
              exact AgainK.mk (m - 1) (by simp only; omega) ⟨i8, true, v9, ys ++ [⟨c, c2⟩], (RC.ext (Ext.add _ _)).upd u9 (fun e => by have := LC.blk e; omega), uF, L9, by simp; omega, by simp, fun _ => ⟨by omega, hcls⟩, rfl, by simp [Has]⟩
          | some p =>
            obtain ⟨c2', r8⟩ := p
            rw [hs2] at m8
            obtain ⟨rfl, i8, R8, hi8, hd8⟩ := m8
            have l8 := sign_len hs2
            have RC : Rf hC k s i8 false := R8.upd uC (by omega)
            rw [← eC]
            by_cases hlt : (c2.toNat : Int) < c.toNat
            · have hrn : rng (s.drop j) = none := by
                simp only [rng, hsg]; rw [← hd5, if_pos h45, rt, hs2]
                simp only
                rw [if_neg (by omega)]
              have hcls := clsBad (by simp; omega) (fun e => by rw [hg3 e]) hg4 hrn (.inl hys)
              simp (disch := omega) only [go_sem, seval, hlt, RC.g]
              obtain ⟨RD, uD⟩ := RC.put i8 true
              have LD : LGrow h.nxt (hC.put k (.cells [.str s, .int .i64 i8, .bool true] true)) (.slc va vn vc vz) ys := LC.upd uD fun b hb _ e => by omega
              simp (disch := omega) only [go_sem, seval, gC]
              refine gappend (m := h.nxt) (xs := ys) (ys := [(⟨c, c2⟩ : Rng)]) T_33 rfl T_37 rfl (by decide) (by decide) (LD.ext (Ext.add _ _)) (LSlc.lit (b := hC.nxt) (ls := [[.int .u8 (Rng.lo (⟨c, c2⟩ : Rng)).toNat, .int .u8 (Rng.hi (⟨c, c2⟩ : Rng)).toNat]]) (by simp) get_add_self rfl (Reps.one (x := (⟨c, c2⟩ : Rng)) rfl) rfl rfl) (by have := (LD : LGrow h.nxt _ _ _); simp; omega) (by simp [roomA]; omega) ?_
              intro v9 h9 L9 u9 b9
              simp (disch := omega) only [go_sem, seval]
              have n9 := u9.nxt
              have uF : Upd (· = k) h h9 := (u0C.trans uD).trans' ((Ext.add _ _).upd _ |>.trans u9) fun b e hb => by have := LD.blk e; omega
              exact AgainK.mk (m - 1) (by simp only; omega) ⟨i8, true, v9, ys ++ [⟨c, c2⟩], (RD.ext (Ext.add _ _)).upd u9 (fun e => by have := LD.blk e; omega), uF, L9, by simp; omega, by simp, fun _ => ⟨by omega, hcls⟩, rfl, by simp [Has]⟩
            · have hr1 : rng (s.drop j) = some (⟨c, c2⟩, s.drop i8) := by
                simp only [rng, hsg]; rw [← hd5, if_pos h45, rt, hs2]
                simp only
                rw [if_pos (by omega), hd8]
              simp (disch := omega) only [go_sem, seval, hlt, gC]
              refine gappend (m := h.nxt) (xs := ys) (ys := [(⟨c, c2⟩ : Rng)]) T_33 rfl T_37 rfl (by decide) (by decide) (LC.ext (Ext.add _ _)) (LSlc.lit (b := hC.nxt) (ls := [[.int .u8 (Rng.lo (⟨c, c2⟩ : Rng)).toNat, .int .u8 (Rng.hi (⟨c, c2⟩ : Rng)).toNat]]) (by simp) get_add_self rfl (Reps.one (x := (⟨c, c2⟩ : Rng)) rfl) rfl rfl) (by have := (LC : LGrow h.nxt _ _ _); simp; omega) (by simp [roomA]; omega) ?_
              intro v9 h9 L9 u9 b9
              simp (disch := omega) only [go_sem, seval]
              have n9 := u9.nxt
              have uF : Upd (· = k) h h9 := u0C.trans' ((Ext.add _ _).upd _ |>.trans u9) fun b e hb => by have := LC.blk e; omega
              refine AgainK.mk (m - 1) (by simp only; omega) ⟨i8, false, v9, ys ++ [⟨c, c2⟩], (RC.ext (Ext.add _ _)).upd u9 (fun e => by have := LC.blk e; omega), uF, L9, by simp; omega, fun _ => ⟨hi8, ?_, by simp, clsGood (by simp; omega) hg4 hr1 h93s⟩, by simp, rfl, by simp [Has]⟩
              rw [← hd5] at l5; rw [← hd8] at l8; simp at l5 l8; omega
        · have n45 : ¬ ((nx (s.drop i5)).toNat : Int) = 45 := fun h => h45 (c45.1 h)
          have hr1 : rng (s.drop j) = some (⟨c, c⟩, s.drop i5) := by rw [hd5]; simp only [rng, hsg]; rw [hd5] at h45; rw [if_neg h45]
          simp (disch := omega) only [go_sem, seval, n45, g6, Int.lt_irrefl]
          refine gappend (m := h.nxt) (xs := ys) (ys := [(⟨c, c⟩ : Rng)]) T_33 rfl T_37 rfl (by decide) (by decide) (L6.ext (Ext.add _ _)) (LSlc.lit (b := h6.nxt) (ls := [[.int .u8 (Rng.lo (⟨c, c⟩ : Rng)).toNat, .int .u8 (Rng.hi (⟨c, c⟩ : Rng)).toNat]]) (by simp) get_add_self rfl (Reps.one (x := (⟨c, c⟩ : Rng)) rfl) rfl rfl) (by have := (L6 : LGrow h.nxt _ _ _); simp; omega) (by simp [roomA]; omega) ?_
          intro v9 h9 L9 u9 b9
          simp (disch := omega) only [go_sem, seval]
          have n9 := u9.nxt
          have uF : Upd (· = k) h h9 := u6.trans' ((Ext.add _ _).upd _ |>.trans u9) fun b e hb => by have := L6.blk e; omega
          refine AgainK.mk (m - 1) (by simp only; omega) ⟨i5, false, v9, ys ++ [⟨c, c⟩], (R6.ext (Ext.add _ _)).upd u9 (fun e => by have := L6.blk e; omega), uF, L9, by simp; omega, fun _ => ⟨hi5, ?_, by simp, clsGood (by simp; omega) hg4 hr1 h93s⟩, by simp, rfl, by simp [Has]⟩
          rw [← hd5] at l5; simp at l5; omega
    · have hv0 : ¬ (vn : Int) = 0 := by
        have := List.length_pos_iff.2 hys
        omega
      simp (disch := omega) only [go_sem, seval, hv0]
      refine callV_ofU F_73 rfl ((peek_uf R1).mono ?_)
      rintro v2 h2 ⟨rfl, e2⟩
      simp (disch := omega) only [go_sem, seval]
      have R2 := R1.ext e2
      have L2 := L1.ext e2
      have u2 := u1.trans (e2.upd _)
      have c93 : ((nx (s.drop j)).toNat : Int) = 93 ↔ nx (s.drop j) = 93 := iff_of_eq (u8_eq (a := nx (s.drop j)) (b := 93))
      by_cases h93 : nx (s.drop j) = 93
      · have hlt : j < s.length := by
          rcases Nat.lt_or_ge j s.length with h | h
          · exact h
          · rw [List.drop_eq_nil_of_le h] at h93; exact absurd h93 (by decide)
        simp (disch := omega) only [go_sem, seval, c93.2 h93, R2.g]
        obtain ⟨R3, u3⟩ := R2.put (j + 1) false
        have k0x := R.lt
        have L3 := L2.upd u3 fun b hb _ e => by omega
        obtain ⟨Y, leY, uY, nY, lY⟩ := item_fin (op := 1) L3
        refine hQ _ _ Y leY ⟨(u2.trans u3).trans' uY fun b e hb => by have := u2.nxt; omega, [⟨1, ys⟩], .inr ⟨by simp, lY, _, _, rfl⟩, ?_⟩
        have : cls (s.drop i) = some ([⟨1, ys⟩], s.drop (j + 1)) := by
          obtain ⟨m, rfl⟩ : ∃ m', m = m' + 1 := ⟨m - 1, by omega⟩
          unfold cls
          rw [hg4, rngs, if_pos h93]
          simp only [Option.map_some, List.append_nil]
          rw [if_pos hys, List.tail_drop]
        rw [this]
        exact ⟨rfl, j + 1, R3.upd uY (by omega), by omega, rfl⟩
      · have n93 : ¬ ((nx (s.drop j)).toNat : Int) = 93 := fun h => h93 (c93.1 h)
        simp (disch := omega) only [go_sem, seval, n93]
        obtain ⟨hA, eA⟩ : ∃ hA, hA = (h2.add (.cells [.int .u8 0, .int .u8 0] true)).put h2.nxt (.cells [.int .u8 0, .int .u8 0] true) := ⟨_, rfl⟩
        rw [← eA]
        have uA : Upd (· = k) h2 hA := by subst eA; exact ((Ext.add _ _).put (Nat.le_refl _)).upd _
        have gA : hA.get h2.nxt = some (.cells [.int .u8 0, .int .u8 0] true) := by subst eA; exact get_put_self
        have nA : hA.nxt = h2.nxt + 1 := by subst eA; simp
        have kx := R2.lt
        have k0x := R.lt
        have n0x := u2.nxt
        have RA : Rf hA k s j false := by subst eA; exact R2.ext ((Ext.add _ _).put (Nat.le_refl _))
        refine callV_ofU F_93 rfl ((one_uf (all := inside) RA hs hg1 (by decide) seen_inside).mono ?_)
        rintro v5 h5 ⟨u5, c, rfl, m5⟩
        simp (disch := omega) only [go_sem, seval]
        have g5 : h5.get h2.nxt = _ := (u5.get _ (by omega) (by omega)).trans gA
        have n5 := u5.nxt
        simp (disch := omega) only [go_sem, seval, g5]
        obtain ⟨hB, eB⟩ : ∃ hB, hB = (h5.put h2.nxt (Blk.cells [AV.int IntKind.u8 ↑c.toNat, AV.int IntKind.u8 0] true)).put h2.nxt (Blk.cells [AV.int IntKind.u8 ↑c.toNat, AV.int IntKind.u8 ↑c.toNat] true) := ⟨_, rfl⟩
        have uB5 : Upd (· = h2.nxt) h5 hB := by
          subst eB
          refine (Upd.put (S := (· = h2.nxt)) _ rfl fun cs e => ?_).trans (Upd.put _ rfl fun cs e => ?_)
          · rw [g5] at e; simp at e
          · rw [get_put_self] at e; simp at e
        have gB : hB.get h2.nxt = some (.cells [.int .u8 c.toNat, .int .u8 c.toNat] true) := by subst eB; exact get_put_self
        have nB : hB.nxt = h5.nxt := by subst eB; simp
        have uB : Upd (· = k) h hB := (u2.trans (uA.trans u5)).trans' uB5 fun b e hb => by omega
        have LB : LGrow h.nxt hB (.slc va vn vc vz) ys := by
          have l1 := fun b e => L2.lt (b := b) e
          have l2 := fun b e => L2.blk (b := b) e
          exact ((L2.upd uA fun b _ _ e => by omega).upd u5 fun b hb _ e => by omega).upd uB5 fun b _ e1 e => by have := l1 b e1; omega
        have hm1 : m ≥ 1 := by omega
        cases hsg : sign inside (s.drop j) with
        | none =>
          rw [hsg] at m5
          obtain ⟨i5, R5, hi5⟩ := m5
          have hrn : rng (s.drop j) = none := by simp only [rng, hsg]
          have hcls := clsBad (by simp; omega) (fun e => by rw [hg3 e]) hg4 hrn (.inr h93)
          have RB : Rf hB k s i5 true := R5.upd uB5 (by omega)
          rw [← eB, show h5.get k = hB.get k from (uB5.get k (by omega) (by omega)).symm]
          simp (disch := omega) only [go_sem, seval, RB.g, gB, Int.lt_irrefl]
          refine gappend (m := h.nxt) (xs := ys) (ys := [(⟨c, c⟩ : Rng)]) T_33 rfl T_37 rfl (by decide) (by decide) (LB.ext (Ext.add _ _)) (LSlc.lit (b := hB.nxt) (ls := [[.int .u8 (Rng.lo (⟨c, c⟩ : Rng)).toNat, .int .u8 (Rng.hi (⟨c, c⟩ : Rng)).toNat]]) (by simp) get_add_self rfl (Reps.one (x := (⟨c, c⟩ : Rng)) rfl) rfl rfl) (by have := (LB : LGrow h.nxt _ _ _); simp; omega) (by simp [roomA]; omega) ?_
          intro v9 h9 L9 u9 b9
          simp (disch := omega) only [go_sem, seval]
          have n9 := u9.nxt
          have uF : Upd (· = k) h h9 := uB.trans' ((Ext.add _ _).upd _ |>.trans u9) fun b e hb => by have := LB.blk e; omega
          exact AgainK.mk (m - 1) (by simp only; omega) ⟨i5, true, v9, ys ++ [⟨c, c⟩], (RB.ext (Ext.add _ _)).upd u9 (fun e => by have := LB.blk e; omega), uF, L9, by simp; omega, by simp, fun _ => ⟨hi5, hcls⟩, rfl, by simp [Has]⟩
        | some p =>
          obtain ⟨c', r5⟩ := p
          rw [hsg] at m5
          obtain ⟨rfl, i5, R5, hi5, hd5⟩ := m5
          have RB : Rf hB k s i5 false := R5.upd uB5 (by omega)
          rw [← eB, show h5.get k = hB.get k from (uB5.get k (by omega) (by omega)).symm]
          simp (disch := omega) only [go_sem, seval, RB.g]
          refine callV_ofU F_73 rfl ((peek_uf RB).mono ?_)
          rintro v6 h6 ⟨rfl, e6⟩
          simp (disch := omega) only [go_sem, seval]
          have R6 := RB.ext e6
          have g6 : h6.get h2.nxt = _ := (e6.get _ (by omega)).trans gB
          have L6 := LB.ext e6
          have u6 := uB.trans (e6.upd _)
          have n6 := e6.nxt
          have h93s := sign_93 hsg
          have c45 : ((nx (s.drop i5)).toNat : Int) = 45 ↔ nx (s.drop i5) = 45 := iff_of_eq (u8_eq (a := nx (s.drop i5)) (b := 45))
          have l5 := sign_len hsg
          by_cases h45 : nx (s.drop i5) = 45
          · simp (disch := omega) only [go_sem, seval, c45.2 h45, R6.g]
            have hlt5 : i5 < s.length := by
              rcases Nat.lt_or_ge i5 s.length with h | h
              · exact h
              · rw [List.drop_eq_nil_of_le h] at h45; exact absurd h45 (by decide)
            obtain ⟨R7, u7⟩ := R6.put (i5 + 1) false
            have R7' : Rf (h6.put k (.cells [.str s, .int .i64 ((i5 : Int) + 1), .bool false] true)) k s (i5 + 1) false := R7
            have n7 := u7.nxt
            refine callV_ofU F_93 rfl ((one_uf (all := inside) R7' hs (by omega) (by decide) seen_inside).mono ?_)
            rintro v8 h8 ⟨u8, c2, rfl, m8⟩
            simp (disch := omega) only [go_sem, seval]
            have u78 : Upd (· = k) h6 h8 := u7.trans u8
            have n8 := u78.nxt
            have g8 : h8.get h2.nxt = _ := (u78.get _ (by omega) (by omega)).trans g6
            have L8 : LGrow h.nxt h8 (.slc va vn vc vz) ys := L6.upd u78 fun b hb _ e => by omega
            have u08 := u6.trans u78
            have rt : (s.drop i5).tail = s.drop (i5 + 1) := by rw [List.tail_drop]
            simp (disch := omega) only [go_sem, seval, g8]
            obtain ⟨hC, eC⟩ : ∃ hC, hC = h8.put h2.nxt (Blk.cells [AV.int IntKind.u8 ↑c.toNat, AV.int IntKind.u8 ↑c2.toNat] true) := ⟨_, rfl⟩
            have uC : Upd (· = h2.nxt) h8 hC := by
              subst eC
              exact Upd.put _ rfl fun cs e => by rw [g8] at e; simp at e
            have gC : hC.get h2.nxt = some (.cells [.int .u8 c.toNat, .int .u8 c2.toNat] true) := by subst eC; exact get_put_self
            have nC : hC.nxt = h8.nxt := by subst eC; simp
            have u0C : Upd (· = k) h hC := u08.trans' uC fun b e hb => by omega
            have LC : LGrow h.nxt hC (.slc va vn vc vz) ys := L8.upd uC fun b _ e1 e => by have := L2.lt e1; omega
            cases hs2 : sign inside (s.drop (i5 + 1)) with
            | none =>
              rw [hs2] at m8
              obtain ⟨i8, R8, hi8⟩ := m8
              have hrn : rng (s.drop j) = none := by simp only [rng, hsg]; rw [← hd5, if_pos h45, rt, hs2]
              have hcls := clsBad (by simp; omega) (fun e => by rw [hg3 e]) hg4 hrn (.inr h93)
              have RC : Rf hC k s i8 true := R8.upd uC (by omega)
              rw [← eC]
              by_cases hlt : (c2.toNat : Int) < c.toNat
              · simp (disch := omega) only [go_sem, seval, hlt, RC.g]
                obtain ⟨RD, uD⟩ := RC.put i8 true
                have LD : LGrow h.nxt (hC.put k (.cells [.str s, .int .i64 i8, .bool true] true)) (.slc va vn vc vz) ys := LC.upd uD fun b hb _ e => by omega
                simp (disch := omega) only [go_sem, seval, gC]
                refine gappend (m := h.nxt) (xs := ys) (ys := [(⟨c, c2⟩ : Rng)]) T_33 rfl T_37 rfl (by decide) (by decide) (LD.ext (Ext.add _ _)) (LSlc.lit (b := hC.nxt) (ls := [[.int .u8 (Rng.lo (⟨c, c2⟩ : Rng)).toNat, .int .u8 (Rng.hi (⟨c, c2⟩ : Rng)).toNat]]) (by simp) get_add_self rfl (Reps.one (x := (⟨c, c2⟩ : Rng)) rfl) rfl rfl) (by have := (LD : LGrow h.nxt _ _ _); simp; omega) (by simp [roomA]; omega) ?_
                intro v9 h9 L9 u9 b9
                simp (disch := omega) only [go_sem, seval]
                have n9 := u9.nxt
                have uF : Upd (· = k) h h9 := (u0C.trans uD).trans' ((Ext.add _ _).upd _ |>.trans u9) fun b e hb => by have := LD.blk e; omega
                exact AgainK.mk (m - 1) (by simp only; omega) ⟨i8, true, v9, ys ++ [⟨c, c2⟩], (RD.ext (Ext.add _ _)).upd u9 (fun e => by have := LD.blk e; omega), uF, L9, by simp; omega, by simp, fun _ => ⟨by omega, hcls⟩, rfl, by simp [Has]⟩
              · simp (disch := omega) only [go_sem, seval, hlt, gC]
                refine gappend (m := h.nxt) (xs := ys) (ys := [(⟨c, c2⟩ : Rng)]) T_33 rfl T_37 rfl (by decide) (by decide) (LC.ext (Ext.add _ _)) (LSlc.lit (b := hC.nxt) (ls := [[.int .u8 (Rng.lo (⟨c, c2⟩ : Rng)).toNat, .int .u8 (Rng.hi (⟨c, c2⟩ : Rng)).toNat]]) (by simp) get_add_self rfl (Reps.one (x := (⟨c, c2⟩ : Rng)) rfl) rfl rfl) (by have := (LC : LGrow h.nxt _ _ _); simp; omega) (by simp [roomA]; omega) ?_
                intro v9 h9 L9 u9 b9
                simp (disch := omega) only [go_sem, seval]
                have n9 := u9.nxt
                have uF : Upd (· = k) h h9 := u0C.trans' ((Ext.add _ _).upd _ |>.trans u9) fun b e hb => by have := LC.blk e; omega
                exact AgainK.mk (m - 1) (by simp only; omega) ⟨i8, true, v9, ys ++ [⟨c, c2⟩], (RC.ext (Ext.add _ _)).upd u9 (fun e => by have := LC.blk e; omega), uF, L9, by simp; omega, by simp, fun _ => ⟨by omega, hcls⟩, rfl, by simp [Has]⟩
            | some p =>
              obtain ⟨c2', r8⟩ := p
              rw [hs2] at m8
              obtain ⟨rfl, i8, R8, hi8, hd8⟩ := m8
              have l8 := sign_len hs2
              have RC : Rf hC k s i8 false := R8.upd uC (by omega)
              rw [← eC]
              by_cases hlt : (c2.toNat : Int) < c.toNat
              · have hrn : rng (s.drop j) = none := by
                  simp only [rng, hsg]; rw [← hd5, if_pos h45, rt, hs2]
                  simp only
                  rw [if_neg (by omega)]
                have hcls := clsBad (by simp; omega) (fun e => by rw [hg3 e]) hg4 hrn (.inr h93)
                simp (disch := omega) only [go_sem, seval, hlt, RC.g]
                obtain ⟨RD, uD⟩ := RC.put i8 true
                have LD : LGrow h.nxt (hC.put k (.cells [.str s, .int .i64 i8, .bool true] true)) (.slc va vn vc vz) ys := LC.upd uD fun b hb _ e => by omega
                simp (disch := omega) only [go_sem, seval, gC]
                refine gappend (m := h.nxt) (xs := ys) (ys := [(⟨c, c2⟩ : Rng)]) T_33 rfl T_37 rfl (by decide) (by decide) (LD.ext (Ext.add _ _)) (LSlc.lit (b := hC.nxt) (ls := [[.int .u8 (Rng.lo (⟨c, c2⟩ : Rng)).toNat, .int .u8 (Rng.hi (⟨c, c2⟩ : Rng)).toNat]]) (by simp) get_add_self rfl (Reps.one (x := (⟨c, c2⟩ : Rng)) rfl) rfl rfl) (by have := (LD : LGrow h.nxt _ _ _); simp; omega) (by simp [roomA]; omega) ?_
                intro v9 h9 L9 u9 b9
                simp (disch := omega) only [go_sem, seval]
                have n9 := u9.nxt
                have uF : Upd (· = k) h h9 := (u0C.trans uD).trans' ((Ext.add _ _).upd _ |>.trans u9) fun b e hb => by have := LD.blk e; omega
                exact AgainK.mk (m - 1) (by simp only; omega) ⟨i8, true, v9, ys ++ [⟨c, c2⟩], (RD.ext (Ext.add _ _)).upd u9 (fun e => by have := LD.blk e; omega), uF, L9, by simp; omega, by simp, fun _ => ⟨by omega, hcls⟩, rfl, by simp [Has]⟩
              · have hr1 : rng (s.drop j) = some (⟨c, c2⟩, s.drop i8) := by
                  simp only [rng, hsg]; rw [← hd5, if_pos h45, rt, hs2]
                  simp only
                  rw [if_pos (by omega), hd8]
                simp (disch := omega) only [go_sem, seval, hlt, gC]
                refine gappend (m := h.nxt) (xs := ys) (ys := [(⟨c, c2⟩ : Rng)]) T_33 rfl T_37 rfl (by decide) (by decide) (LC.ext (Ext.add _ _)) (LSlc.lit (b := hC.nxt) (ls := [[.int .u8 (Rng.lo (⟨c, c2⟩ : Rng)).toNat, .int .u8 (Rng.hi (⟨c, c2⟩ : Rng)).toNat]]) (by simp) get_add_self rfl (Reps.one (x := (⟨c, c2⟩ : Rng)) rfl) rfl rfl) (by have := (LC : LGrow h.nxt _ _ _); simp; omega) (by simp [roomA]; omega) ?_
                intro v9 h9 L9 u9 b9
                simp (disch := omega) only [go_sem, seval]
                have n9 := u9.nxt
                have uF : Upd (· = k) h h9 := u0C.trans' ((Ext.add _ _).upd _ |>.trans u9) fun b e hb => by have := LC.blk e; omega
                refine AgainK.mk (m - 1) (by simp only; omega) ⟨i8, false, v9, ys ++ [⟨c, c2⟩], (RC.ext (Ext.add _ _)).upd u9 (fun e => by have := LC.blk e; omega), uF, L9, by simp; omega, fun _ => ⟨hi8, ?_, by simp, clsGood (by simp; omega) hg4 hr1 h93s⟩, by simp, rfl, by simp [Has]⟩
                rw [← hd5] at l5; rw [← hd8] at l8; simp at l5 l8; omega
          · have n45 : ¬ ((nx (s.drop i5)).toNat : Int) = 45 := fun h => h45 (c45.1 h)
            have hr1 : rng (s.drop j) = some (⟨c, c⟩, s.drop i5) := by rw [hd5]; simp only [rng, hsg]; rw [hd5] at h45; rw [if_neg h45]
            simp (disch := omega) only [go_sem, seval, n45, g6, Int.lt_irrefl]
            refine gappend (m := h.nxt) (xs := ys) (ys := [(⟨c, c⟩ : Rng)]) T_33 rfl T_37 rfl (by decide) (by decide) (L6.ext (Ext.add _ _)) (LSlc.lit (b := h6.nxt) (ls := [[.int .u8 (Rng.lo (⟨c, c⟩ : Rng)).toNat, .int .u8 (Rng.hi (⟨c, c⟩ : Rng)).toNat]]) (by simp) get_add_self rfl (Reps.one (x := (⟨c, c⟩ : Rng)) rfl) rfl rfl) (by have := (L6 : LGrow h.nxt _ _ _); simp; omega) (by simp [roomA]; omega) ?_
            intro v9 h9 L9 u9 b9
            simp (disch := omega) only [go_sem, seval]
            have n9 := u9.nxt
            have uF : Upd (· = k) h h9 := u6.trans' ((Ext.add _ _).upd _ |>.trans u9) fun b e hb => by have := L6.blk e; omega
            refine AgainK.mk (m - 1) (by simp only; omega) ⟨i5, false, v9, ys ++ [⟨c, c⟩], (R6.ext (Ext.add _ _)).upd u9 (fun e => by have := L6.blk e; omega), uF, L9, by simp; omega, fun _ => ⟨hi5, ?_, by simp, clsGood (by simp; omega) hg4 hr1 h93s⟩, by simp, rfl, by simp [Has]⟩
            rw [← hd5] at l5; simp at l5; omega

end Go.Proofs.Ytenpjkinpecnfaa

/-
  The document's answer to rex: patterns, read.
-/
namespace Go.Proofs.Ytenpjkinpecnfaa
open Go Go.Am
set_option maxRecDepth 100000
set_option maxHeartbeats 4000000
set_option linter.unusedSimpArgs false
set_option linter.unusedVariables false

theorem drop_lt {s : List UInt8} {i : Nat} {c : UInt8} (h : nx (s.drop i) = c) (hc : c ≠ 0) : i < s.length := by
  rcases Nat.lt_or_ge i s.length with h1 | h1
  · exact h1
  · rw [List.drop_eq_nil_of_le h1] at h; exact absurd h.symm hc

theorem atomR_does {sub : Option (List UInt8 → Res)} {D : Int} {c : Nat} (hD : 0 ≤ D ∧ D ≤ 12) (hc : 3 ≤ c ∧ c ≤ 100) (h1 : D < 12 → ∃ p, sub = some p ∧ DoesR 51 [.int .i64 (D + 1)] p (c - 1)) (h2 : ¬ D < 12 → sub = none) : DoesR 88 [.int .i64 D] (atomP sub) c := by
  intro h k s i R hs hi
  have k0x := R.lt
  refine UF.genq fun Q hQ => UF.of (F_88) (c := _) rfl ?_
  unfold Try.f88
  simp only [List.length, Nat.reduceSub, Nat.reduceAdd, List.replicate, List.cons_append, List.nil_append]
  simp (disch := first | ((try simp only [heapN]) <;> omega) | fail) only [go_sem, seval]
  refine callV_ofU F_73 rfl ((peek_uf R).mono ?_)
  rintro v1 g1 ⟨rfl, e1⟩
  simp (disch := first | ((try simp only [heapN]) <;> omega) | fail) only [go_sem, seval]
  have R1 := R.ext e1
  have n1 := e1.nxt
  have l40 : ((nx (s.drop i)).toNat : Int) = 40 ↔ nx (s.drop i) = 40 := iff_of_eq (u8_eq (a := nx (s.drop i)) (b := 40))
  have l91 : ((nx (s.drop i)).toNat : Int) = 91 ↔ nx (s.drop i) = 91 := iff_of_eq (u8_eq (a := nx (s.drop i)) (b := 91))
  have l46 : ((nx (s.drop i)).toNat : Int) = 46 ↔ nx (s.drop i) = 46 := iff_of_eq (u8_eq (a := nx (s.drop i)) (b := 46))
  have tl : ∀ j, (s.drop j).tail = s.drop (j + 1) := fun j => by rw [List.tail_drop]
  by_cases c40 : nx (s.drop i) = 40
  · have hlt := drop_lt c40 (by decide)
    simp (disch := first | ((try simp only [heapN]) <;> omega) | fail) only [go_sem, seval, l40.2 c40, R1.g]
    obtain ⟨R2, u2⟩ := R1.put (i + 1) false
    have u02 : Upd (· = k) h _ := (e1.upd _).trans u2
    by_cases hd : D ≥ 12
    · have hs0 : sub = none := h2 (by omega)
      simp (disch := first | ((try simp only [heapN]) <;> omega) | fail) only [go_sem, seval, hd, R2.g]
      obtain ⟨R3, u3⟩ := R2.put (i + 1) true
      refine hQ _ _ _ (Le.refl _) ⟨u02.trans u3, [], LGrow.nil, ?_⟩
      have : atomP sub (s.drop i) = none := by simp only [atomP, c40, if_true, hs0]
      rw [this]
      exact ⟨by simp, i + 1, R3, by omega⟩
    · obtain ⟨p, rfl, dp⟩ := h1 (by omega)
      simp (disch := first | ((try simp only [heapN]) <;> omega) | fail) only [go_sem, seval, hd]
      have R2' : Rf (g1.put k (.cells [.str s, .int .i64 ((i : Int) + 1), .bool false] true)) k s (i + 1) false := R2
      refine callV_ofU F_51 rfl ((dp R2' hs (by omega)).mono ?_)
      rintro v3 g3 ⟨u3, l, L3, m3⟩
      simp (disch := first | ((try simp only [heapN]) <;> omega) | fail) only [go_sem, seval]
      have u03 := u02.trans u3
      have n3 := u3.nxt
      simp only [Heap.put_nxt] at n3 L3
      cases hp : p (s.drop (i + 1)) with
      | none =>
        rw [hp] at m3
        obtain ⟨hl, i3, R3, hi3⟩ := m3
        have hno : atomP (some p) (s.drop i) = none := by simp only [atomP, c40, if_true, tl, hp]
        refine callV_ofU F_73 rfl ((peek_uf R3).mono ?_)
        rintro v4 g4 ⟨rfl, e4⟩
        simp (disch := first | ((try simp only [heapN]) <;> omega) | fail) only [go_sem, seval]
        have R4 := R3.ext e4
        have l41 : ((nx (s.drop i3)).toNat : Int) = 41 ↔ nx (s.drop i3) = 41 := iff_of_eq (u8_eq (a := nx (s.drop i3)) (b := 41))
        by_cases c41 : nx (s.drop i3) = 41
        · simp (disch := first | ((try simp only [heapN]) <;> omega) | fail) only [go_sem, seval, l41.2 c41, R4.g]
          obtain ⟨R5, u5⟩ := R4.put (i3 + 1) true
          have n4 := e4.nxt
          refine hQ _ _ _ (Le.refl _) ⟨(u03.trans (e4.upd _)).trans u5, l, ((L3.ext e4).upd u5 fun b hb _ e => by omega).le (by omega), ?_⟩
          rw [hno]
          exact ⟨by omega, i3 + 1, R5, by omega⟩
        · have n41 : ¬ ((nx (s.drop i3)).toNat : Int) = 41 := fun h => c41 (l41.1 h)
          simp (disch := first | ((try simp only [heapN]) <;> omega) | fail) only [go_sem, seval, n41, R4.g]
          obtain ⟨R5, u5⟩ := R4.put i3 true
          refine hQ _ _ _ (Le.refl _) ⟨(u03.trans (e4.upd _)).trans u5, [], LGrow.nil, ?_⟩
          rw [hno]
          exact ⟨by simp, i3, R5, by omega⟩
      | some q =>
        obtain ⟨l', r'⟩ := q
        rw [hp] at m3
        obtain ⟨rfl, i3, R3, hi3, hd3⟩ := m3
        refine callV_ofU F_73 rfl ((peek_uf R3).mono ?_)
        rintro v4 g4 ⟨rfl, e4⟩
        simp (disch := first | ((try simp only [heapN]) <;> omega) | fail) only [go_sem, seval]
        have R4 := R3.ext e4
        have l41 : ((nx (s.drop i3)).toNat : Int) = 41 ↔ nx (s.drop i3) = 41 := iff_of_eq (u8_eq (a := nx (s.drop i3)) (b := 41))
        by_cases c41 : nx (s.drop i3) = 41
        · have hlt3 := drop_lt c41 (by decide)
          simp (disch := first | ((try simp only [heapN]) <;> omega) | fail) only [go_sem, seval, l41.2 c41, R4.g]
          obtain ⟨R5, u5⟩ := R4.put (i3 + 1) false
          have n4 := e4.nxt
          refine hQ _ _ _ (Le.refl _) ⟨(u03.trans (e4.upd _)).trans u5, l, ((L3.ext e4).upd u5 fun b hb _ e => by omega).le (by omega), ?_⟩
          have : atomP (some p) (s.drop i) = some (l, s.drop (i3 + 1)) := by
            simp only [atomP, c40, if_true, tl, hp]
            rw [← hd3, if_pos c41, tl]
          rw [this]
          exact ⟨rfl, i3 + 1, R5, by omega, rfl⟩
        · have n41 : ¬ ((nx (s.drop i3)).toNat : Int) = 41 := fun h => c41 (l41.1 h)
          simp (disch := first | ((try simp only [heapN]) <;> omega) | fail) only [go_sem, seval, n41, R4.g]
          obtain ⟨R5, u5⟩ := R4.put i3 true
          refine hQ _ _ _ (Le.refl _) ⟨(u03.trans (e4.upd _)).trans u5, [], LGrow.nil, ?_⟩
          have : atomP (some p) (s.drop i) = none := by
            simp only [atomP, c40, if_true, tl, hp]
            rw [← hd3, if_neg c41]
          rw [this]
          exact ⟨by simp, i3, R5, by omega⟩
  have n40 : ¬ ((nx (s.drop i)).toNat : Int) = 40 := fun h => c40 (l40.1 h)
  by_cases c91 : nx (s.drop i) = 91
  · have hlt := drop_lt c91 (by decide)
    simp (disch := first | ((try simp only [heapN]) <;> omega) | fail) only [go_sem, seval, n40, l91.2 c91, R1.g]
    obtain ⟨R2, u2⟩ := R1.put (i + 1) false
    have u02 : Upd (· = k) h _ := (e1.upd _).trans u2
    have R2' : Rf (g1.put k (.cells [.str s, .int .i64 ((i : Int) + 1), .bool false] true)) k s (i + 1) false := R2
    refine callV_ofU F_92 rfl ((classR_does R2' hs (by omega)).mono ?_)
    rintro v3 g3 ⟨u3, l, L3, m3⟩
    simp (disch := first | ((try simp only [heapN]) <;> omega) | fail) only [go_sem, seval]
    simp only [Heap.put_nxt] at L3
    refine hQ _ _ _ (Le.refl _) ⟨u02.trans u3, l, L3.le (by omega), ?_⟩
    have : atomP sub (s.drop i) = cls (s.drop (i + 1)) := by simp only [atomP, if_neg c40, if_pos c91, tl]
    rw [this]
    cases hcl : cls (s.drop (i + 1)) with
    | none =>
      rw [hcl] at m3
      obtain ⟨hl, i3, R3, hi3⟩ := m3
      exact ⟨by omega, i3, R3, by omega⟩
    | some q => obtain ⟨l', r'⟩ := q; rw [hcl] at m3; exact m3
  have n91 : ¬ ((nx (s.drop i)).toNat : Int) = 91 := fun h => c91 (l91.1 h)
  by_cases c46 : nx (s.drop i) = 46
  · have hlt := drop_lt c46 (by decide)
    simp (disch := first | ((try simp only [heapN]) <;> omega) | fail) only [go_sem, seval, n40, n91, l46.2 c46, R1.g]
    obtain ⟨R2, u2⟩ := R1.put (i + 1) false
    have u02 : Upd (· = k) h _ := (e1.upd _).trans u2
    obtain ⟨Y, leY, eY, nY, lY⟩ := litF (h := g1.put k (.cells [.str s, .int .i64 ((i : Int) + 1), .bool false] true)) (cs := [.int .u8 32, .int .u8 126]) (xs := [(⟨32, 126⟩ : Rng)]) (ls := [[.int .u8 32, .int .u8 126]]) (n := 1) (z := 2) rfl (Reps.one rfl) rfl rfl
    simp only [Heap.put_nxt] at lY
    obtain ⟨Z, leZ, eZ, nZ, lZ⟩ := litF (h := Y) (cs := [.int .i64 1, .slc (some (g1.nxt, 0)) 1 (some 1) 2]) (xs := [(⟨1, [⟨32, 126⟩]⟩ : Item)]) (ls := [[.int .i64 1, .slc (some (g1.nxt, 0)) 1 (some 1) 2]]) (n := 1) (z := 2) rfl (Reps.one (show Rep.rep Y (⟨1, [⟨32, 126⟩]⟩ : Item) _ from ⟨_, rfl, lY⟩)) rfl rfl
    rw [nY] at lZ
    refine hQ _ _ Z (leZ.trans (leY.add _)) ⟨(u02.trans (eY.upd _)).trans (eZ.upd _), [⟨1, [⟨32, 126⟩]⟩], .inr ⟨by simp, lZ, _, _, rfl⟩, ?_⟩
    have : atomP sub (s.drop i) = some ([⟨1, [⟨32, 126⟩]⟩], s.drop (i + 1)) := by simp only [atomP, if_neg c40, if_neg c91, if_pos c46, tl]
    rw [this]
    exact ⟨rfl, i + 1, (R2.ext eY).ext eZ, by omega, rfl⟩
  have n46 : ¬ ((nx (s.drop i)).toNat : Int) = 46 := fun h => c46 (l46.1 h)
  simp (disch := first | ((try simp only [heapN]) <;> omega) | fail) only [go_sem, seval, n40, n91, n46]
  refine callV_ofU F_93 rfl ((one_uf (all := meta1) R1 hs hi (by decide) seen_meta).mono ?_)
  rintro v3 g3 ⟨u3, b, rfl, m3⟩
  simp (disch := first | ((try simp only [heapN]) <;> omega) | fail) only [go_sem, seval]
  obtain ⟨Y, leY, eY, nY, lY⟩ := litF (h := g3) (cs := [.int .u8 b.toNat, .int .u8 b.toNat]) (xs := [(⟨b, b⟩ : Rng)]) (ls := [[.int .u8 b.toNat, .int .u8 b.toNat]]) (n := 1) (z := 2) rfl (Reps.one rfl) rfl rfl
  obtain ⟨Z, leZ, eZ, nZ, lZ⟩ := litF (h := Y) (cs := [.int .i64 1, .slc (some (g3.nxt, 0)) 1 (some 1) 2]) (xs := [(⟨1, [⟨b, b⟩]⟩ : Item)]) (ls := [[.int .i64 1, .slc (some (g3.nxt, 0)) 1 (some 1) 2]]) (n := 1) (z := 2) rfl (Reps.one (show Rep.rep Y (⟨1, [⟨b, b⟩]⟩ : Item) _ from ⟨_, rfl, lY⟩)) rfl rfl
  rw [nY] at lZ
  refine hQ _ _ Z (leZ.trans (leY.add _)) ⟨(((e1.upd _).trans u3).trans (eY.upd _)).trans (eZ.upd _), [⟨1, [⟨b, b⟩]⟩], .inr ⟨by simp, lZ, _, _, rfl⟩, ?_⟩
  cases hsg : sign meta1 (s.drop i) with
  | none =>
    rw [hsg] at m3
    obtain ⟨i3, R3, hi3⟩ := m3
    have : atomP sub (s.drop i) = none := by simp only [atomP, if_neg c40, if_neg c91, if_neg c46, hsg]
    rw [this]
    exact ⟨by simp, i3, (R3.ext eY).ext eZ, by omega⟩
  | some q =>
    obtain ⟨b', r'⟩ := q
    rw [hsg] at m3
    obtain ⟨rfl, i3, R3, hi3, hd3⟩ := m3
    have : atomP sub (s.drop i) = some ([⟨1, [⟨b, b⟩]⟩], r') := by simp only [atomP, if_neg c40, if_neg c91, if_neg c46, hsg]
    rw [this]
    exact ⟨rfl, i3, (R3.ext eY).ext eZ, hi3, hd3⟩

/-- The same; where fault is found there is nothing. -/
def DoesZ (f : Nat) (ex : List AV) (p : List UInt8 → Res) (c : Nat) : Prop := ∀ {h : Heap} {k : Nat} {s : List UInt8} {i : Nat}, Rf h k s i false → s.length ≤ 1000 → i ≤ s.length →
  UF T F f (.ptr (some (k, 0)) :: ex) h fun v' h' => Upd (· = k) h h' ∧ ∃ l : List Item, LGrow h.nxt h' v' l ∧ match p (s.drop i) with
    | some (l', r') => l = l' ∧ ∃ i', Rf h' k s i' false ∧ i' ≤ s.length ∧ s.drop i' = r'
    | none => l = [] ∧ ∃ i', Rf h' k s i' true ∧ i' ≤ s.length + c
theorem manyR_does {sub : Option (List UInt8 → Res)} {D : Int} {c : Nat} (hs' : ∀ p, sub = some p → Shr p) (da : DoesR 88 [.int .i64 D] (atomP sub) c) : DoesZ 83 [.int .i64 D] (manyP sub) c := by
  intro h k s i R hs hi
  have k0x := R.lt
  refine UF.genq fun Q hQ => UF.of (F_83) (c := _) rfl ?_
  unfold Try.f83
  simp only [List.length, Nat.reduceSub, Nat.reduceAdd, List.replicate, List.cons_append, List.nil_append]
  simp (disch := first | ((try simp only [heapN]) <;> omega) | fail) only [go_sem, seval]
  refine callV_ofU F_88 rfl ((da R hs hi).mono ?_)
  rintro v1 g1 ⟨u1, l, L1, m1⟩
  simp (disch := first | ((try simp only [heapN]) <;> omega) | fail) only [go_sem, seval]
  have n1 := u1.nxt
  have tl : ∀ j, (s.drop j).tail = s.drop (j + 1) := fun j => by rw [List.tail_drop]
  cases ha : atomP sub (s.drop i) with
  | none =>
    rw [ha] at m1
    obtain ⟨hl, i1, R1, hi1⟩ := m1
    refine LoopU_exit ?_
    simp (disch := first | ((try simp only [heapN]) <;> omega) | fail) only [go_sem, seval, R1.g]
    refine hQ _ _ _ (Le.refl _) ⟨u1, [], LGrow.nil, ?_⟩
    have : manyP sub (s.drop i) = none := by simp only [manyP, ha]
    rw [this]
    exact ⟨rfl, i1, R1, hi1⟩
  | some q =>
    obtain ⟨l', r'⟩ := q
    rw [ha] at m1
    obtain ⟨rfl, i1, R1, hi1, hd1⟩ := m1
    have sh := shr_atom hs' ha
    simp only [List.length_drop] at sh
    refine LoopU_while (fun m st hh => ∃ (j : Nat) (v : AV) (ys : List Item), Rf hh k s j false ∧ Upd (· = k) h hh ∧ LGrow h.nxt hh v ys ∧ j ≤ s.length ∧ m = s.length - j ∧ ys.length + 2 * (s.length - j) ≤ 3000 ∧
      ((l ++ (posts r').1, (posts r').2) = (ys ++ (posts (s.drop j)).1, (posts (s.drop j)).2)) ∧ Keep st 42 [(0, .ptr (some (k, 0))), (5, v)]) (s.length - i1)
      ⟨i1, v1, l, R1, u1, L1, hi1, rfl, by rw [← hd1] at sh; simp at sh; omega, by rw [hd1], rfl, by simp [Has]⟩ ?_
    rintro m st hh ⟨j, v, ys, R2, u2, L2, hj, rfl, hy, he, hk⟩
    obtain ⟨va, vn, vc, vz, rfl, hvn⟩ := L2.form
    have n2 := u2.nxt
    rw [hk.eq]
    obtain ⟨k0, k5, -⟩ := hk.2
    simp only [slotsFrom, Nat.reduceAdd] at k0 k5 ⊢
    simp only [k0, k5]
    simp (disch := first | ((try simp only [heapN]) <;> omega) | fail) only [go_sem, seval, R2.g]
    refine callV_ofU F_73 rfl ((peek_uf R2).mono ?_)
    rintro v3 g3 ⟨rfl, e3⟩
    simp (disch := first | ((try simp only [heapN]) <;> omega) | fail) only [go_sem, seval]
    have RT := R2.ext e3
    have uT := u2.trans (e3.upd _)
    have LT := L2.ext e3
    have n3 := e3.nxt
    rw [posts_at (r := s.drop j), tl] at he
    have l42 : ((nx (s.drop j)).toNat : Int) = 42 ↔ nx (s.drop j) = 42 := iff_of_eq (u8_eq (a := nx (s.drop j)) (b := 42))
    have l43 : ((nx (s.drop j)).toNat : Int) = 43 ↔ nx (s.drop j) = 43 := iff_of_eq (u8_eq (a := nx (s.drop j)) (b := 43))
    have l63 : ((nx (s.drop j)).toNat : Int) = 63 ↔ nx (s.drop j) = 63 := iff_of_eq (u8_eq (a := nx (s.drop j)) (b := 63))
    by_cases c42 : nx (s.drop j) = 42
    · have hlt := drop_lt c42 (by decide)
      rw [if_pos c42] at he
      simp (disch := first | ((try simp only [heapN]) <;> omega) | fail) only [go_sem, seval, l42.2 c42]
      refine gappend (m := h.nxt) (xs := ys) (ys := [(⟨4, []⟩ : Item)]) T_28 rfl T_35 rfl (by decide) (by decide) (LT.ext (Ext.add _ _)) (LSlc.lit (b := g3.nxt) (ls := [[.int .i64 4, .slc none 0 (some 0) 0]]) (by simp) get_add_self rfl (Reps.one (x := (⟨4, []⟩ : Item)) ⟨_, rfl, Lst.nil⟩) rfl rfl) (by simp; omega) (by simp [roomA]; omega) ?_
      intro v9 h9 L9 u9 b9
      have n9 := u9.nxt
      have R9 := (RT.ext (Ext.add _ _)).upd u9 (fun e => by have := LT.blk e; omega)
      have u09 : Upd (· = k) h h9 := uT.trans' ((Ext.add _ _).upd _ |>.trans u9) fun b e hb => by have := LT.blk e; omega
      simp (disch := first | ((try simp only [heapN]) <;> omega) | fail) only [go_sem, seval, R9.g]
      obtain ⟨RA, uA⟩ := R9.put (j + 1) false
      exact AgainK.mk (s.length - (j + 1)) (by simp only; omega) ⟨j + 1, v9, ys ++ [(⟨4, []⟩ : Item)], RA, u09.trans uA, L9.upd uA fun b hb _ e => by omega, by omega, rfl, by simp; omega, by rw [he]; simp, rfl, by simp [Has]⟩
    have n42 : ¬ ((nx (s.drop j)).toNat : Int) = 42 := fun h => c42 (l42.1 h)
    rw [if_neg c42] at he
    by_cases c43 : nx (s.drop j) = 43
    · have hlt := drop_lt c43 (by decide)
      rw [if_pos c43] at he
      simp (disch := first | ((try simp only [heapN]) <;> omega) | fail) only [go_sem, seval, n42, l43.2 c43]
      refine gappend (m := h.nxt) (xs := ys) (ys := [(⟨5, []⟩ : Item)]) T_28 rfl T_35 rfl (by decide) (by decide) (LT.ext (Ext.add _ _)) (LSlc.lit (b := g3.nxt) (ls := [[.int .i64 5, .slc none 0 (some 0) 0]]) (by simp) get_add_self rfl (Reps.one (x := (⟨5, []⟩ : Item)) ⟨_, rfl, Lst.nil⟩) rfl rfl) (by simp; omega) (by simp [roomA]; omega) ?_
      intro v9 h9 L9 u9 b9
      have n9 := u9.nxt
      have R9 := (RT.ext (Ext.add _ _)).upd u9 (fun e => by have := LT.blk e; omega)
      have u09 : Upd (· = k) h h9 := uT.trans' ((Ext.add _ _).upd _ |>.trans u9) fun b e hb => by have := LT.blk e; omega
      simp (disch := first | ((try simp only [heapN]) <;> omega) | fail) only [go_sem, seval, R9.g]
      obtain ⟨RA, uA⟩ := R9.put (j + 1) false
      exact AgainK.mk (s.length - (j + 1)) (by simp only; omega) ⟨j + 1, v9, ys ++ [(⟨5, []⟩ : Item)], RA, u09.trans uA, L9.upd uA fun b hb _ e => by omega, by omega, rfl, by simp; omega, by rw [he]; simp, rfl, by simp [Has]⟩
    have n43 : ¬ ((nx (s.drop j)).toNat : Int) = 43 := fun h => c43 (l43.1 h)
    rw [if_neg c43] at he
    by_cases c63 : nx (s.drop j) = 63
    · have hlt := drop_lt c63 (by decide)
      rw [if_pos c63] at he
      simp (disch := first | ((try simp only [heapN]) <;> omega) | fail) only [go_sem, seval, n42, n43, l63.2 c63]
      refine gappend (m := h.nxt) (xs := ys) (ys := [(⟨6, []⟩ : Item)]) T_28 rfl T_35 rfl (by decide) (by decide) (LT.ext (Ext.add _ _)) (LSlc.lit (b := g3.nxt) (ls := [[.int .i64 6, .slc none 0 (some 0) 0]]) (by simp) get_add_self rfl (Reps.one (x := (⟨6, []⟩ : Item)) ⟨_, rfl, Lst.nil⟩) rfl rfl) (by simp; omega) (by simp [roomA]; omega) ?_
      intro v9 h9 L9 u9 b9
      have n9 := u9.nxt
      have R9 := (RT.ext (Ext.add _ _)).upd u9 (fun e => by have := LT.blk e; omega)
      have u09 : Upd (· = k) h h9 := uT.trans' ((Ext.add _ _).upd _ |>.trans u9) fun b e hb => by have := LT.blk e; omega
      simp (disch := first | ((try simp only [heapN]) <;> omega) | fail) only [go_sem, seval, R9.g]
      obtain ⟨RA, uA⟩ := R9.put (j + 1) false
      exact AgainK.mk (s.length - (j + 1)) (by simp only; omega) ⟨j + 1, v9, ys ++ [(⟨6, []⟩ : Item)], RA, u09.trans uA, L9.upd uA fun b hb _ e => by omega, by omega, rfl, by simp; omega, by rw [he]; simp, rfl, by simp [Has]⟩
    have n63 : ¬ ((nx (s.drop j)).toNat : Int) = 63 := fun h => c63 (l63.1 h)
    rw [if_neg c63] at he
    simp (disch := first | ((try simp only [heapN]) <;> omega) | fail) only [go_sem, seval, n42, n43, n63]
    refine hQ _ _ _ (Le.refl _) ⟨uT, ys, LT, ?_⟩
    simp only [List.append_nil, Prod.mk.injEq] at he
    have : manyP sub (s.drop i) = some (ys, s.drop j) := by simp only [manyP, ha, he.1, he.2]
    rw [this]
    exact ⟨rfl, j, RT, hj, rfl⟩

theorem joinR_does {sub : Option (List UInt8 → Res)} {D : Int} {c : Nat} (hs' : ∀ p, sub = some p → Shr p) (dm : DoesZ 83 [.int .i64 D] (manyP sub) c) : DoesR 72 [.int .i64 D] (rowP sub) c := by
  intro h k s i R hs hi
  have k0x := R.lt
  refine UF.genq fun Q hQ => UF.of (F_72) (c := _) rfl ?_
  unfold Try.f72
  simp only [List.length, Nat.reduceSub, Nat.reduceAdd, List.replicate, List.cons_append, List.nil_append]
  simp (disch := first | ((try simp only [heapN]) <;> omega) | fail) only [go_sem, seval]
  refine callV_ofU F_83 rfl ((dm R hs hi).mono ?_)
  rintro v1 g1 ⟨u1, l, L1, m1⟩
  simp (disch := first | ((try simp only [heapN]) <;> omega) | fail) only [go_sem, seval]
  have n1 := u1.nxt
  cases ha : manyP sub (s.drop i) with
  | none =>
    rw [ha] at m1
    obtain ⟨rfl, i1, R1, hi1⟩ := m1
    refine LoopU_exit ?_
    simp (disch := first | ((try simp only [heapN]) <;> omega) | fail) only [go_sem, seval]
    refine DrawU_of' (fun b => b = k) [0, 1, 3, 7, 15, 31, 63, 127, 255, 511, 63, 1087, 3135, 7231, 15423, 32767, 65535, 131071, 262143, 524287, 1048575, 2097151, 4194303, 8388607, 16777215, 33554431, 67108863] (by rfl) (by rfl) (fun b hb => by subst hb; exact R1.lt) ?_
    simp (disch := first | ((try simp only [heapN]) <;> omega) | fail) only [go_sem, seval]
    refine LoadK_ofU rfl rfl ?_
    simp (disch := first | ((try simp only [heapN]) <;> omega) | fail) only [go_sem, seval, R1.g]
    refine hQ _ _ _ (Le.refl _) ⟨u1.trans ((Ext.bump _ _).upd _), [], L1.ext (Ext.bump _ _), ?_⟩
    have : rowP sub (s.drop i) = none := by simp only [rowP, ha]
    rw [this]
    exact ⟨by simp, i1, R1.ext (Ext.bump _ _), hi1⟩
  | some q =>
    obtain ⟨l', r'⟩ := q
    rw [ha] at m1
    obtain ⟨rfl, i1, R1, hi1, hd1⟩ := m1
    have sh := shr_many hs' ha
    rw [← hd1] at sh
    simp only [List.length_drop] at sh
    refine LoopU_while (fun m st hh => ∃ (j : Nat) (bad : Bool) (v : AV) (ys : List Item), Rf hh k s j bad ∧ Upd (· = k) h hh ∧ LGrow h.nxt hh v ys ∧
      (bad = false → j ≤ s.length ∧ s.length - j < m ∧ ys.length + 2 * (s.length - j) ≤ 2 * (s.length - i) ∧ (rowP sub (s.drop i) = (rowL (manyP sub) m (s.drop j)).map fun p => (ys ++ p.1, p.2))) ∧
      (bad = true → j ≤ s.length + c ∧ ys.length ≤ 2 * (s.length - i) + 2 ∧ rowP sub (s.drop i) = none) ∧ Keep st 45 [(0, .ptr (some (k, 0))), (1, .int .i64 D), (5, v)]) (s.length - i1 + 1)
      ⟨i1, false, v1, l, R1, u1, L1, fun _ => ⟨hi1, by omega, by omega, ?_⟩, by simp, rfl, by simp [Has]⟩ ?_
    · simp only [rowP, ha, ← hd1, List.length_drop]
      cases rowL (manyP sub) (s.length - i1 + 1) (s.drop i1) <;> rfl
    rintro m st hh ⟨j, bad, v, ys, R2, u2, L2, hgood, hbad, hk⟩
    obtain ⟨va, vn, vc, vz, rfl, hvn⟩ := L2.form
    have n2 := u2.nxt
    rw [hk.eq]
    obtain ⟨k0, k1, k5, -⟩ := hk.2
    simp only [slotsFrom, Nat.reduceAdd] at k0 k1 k5 ⊢
    simp only [k0, k1, k5]
    simp (disch := first | ((try simp only [heapN]) <;> omega) | fail) only [go_sem, seval]
    refine DrawU_of' (fun b => b = k) [0, 1, 3, 7, 15, 31, 63, 127, 255, 511, 63, 1087, 3135, 7231, 15423, 32767, 65535, 131071, 262143, 524287, 1048575, 2097151, 4194303, 8388607, 16777215, 33554431, 67108863] (by rfl) (by rfl) (fun b hb => by subst hb; exact R2.lt) ?_
    simp (disch := first | ((try simp only [heapN]) <;> omega) | fail) only [go_sem, seval]
    refine LoadK_ofU rfl rfl ?_
    simp (disch := first | ((try simp only [heapN]) <;> omega) | fail) only [go_sem, seval, R2.g]
    have eb : Ext hh (hh.bump 27) := Ext.bump _ _
    cases bad with
    | true =>
      obtain ⟨b1, b2, b3⟩ := hbad rfl
      simp (disch := first | ((try simp only [heapN]) <;> omega) | fail) only [go_sem, seval]
      refine hQ _ _ _ (Le.refl _) ⟨u2.trans (eb.upd _), ys, L2.ext eb, ?_⟩
      rw [b3]
      exact ⟨b2, j, R2.ext eb, b1⟩
    | false =>
      obtain ⟨g1', g2', g3', g4'⟩ := hgood rfl
      obtain ⟨m, rfl⟩ : ∃ m', m = m' + 1 := ⟨m - 1, by omega⟩
      simp (disch := first | ((try simp only [heapN]) <;> omega) | fail) only [go_sem, seval]
      refine LoadK_ofU rfl rfl ?_
      simp (disch := first | ((try simp only [heapN]) <;> omega) | fail) only [go_sem, seval, R2.g]
      refine LoadK_ofU rfl rfl ?_
      simp (disch := first | ((try simp only [heapN]) <;> omega) | fail) only [go_sem, seval, R2.g]
      have hstop : ∀ h9, Ext hh h9 → (s.drop j = [] ∨ nx (s.drop j) = 124 ∨ nx (s.drop j) = 41) → Q (.slc va vn vc vz) h9 := by
        intro h9 e9 hc
        rw [rowL, if_pos hc] at g4'
        simp only [Option.map_some, List.append_nil] at g4'
        refine hQ _ _ _ (Le.refl _) ⟨u2.trans (e9.upd _), ys, L2.ext e9, ?_⟩
        rw [g4']
        exact ⟨rfl, j, R2.ext e9, g1', rfl⟩
      by_cases hlt : (j : Int) < s.length
      · have hne : s.drop j ≠ [] := by
          intro e; have := congrArg List.length e; simp at this; omega
        simp (disch := first | ((try simp only [heapN]) <;> omega) | fail) only [go_sem, seval, hlt]
        refine callV_ofU F_73 rfl ((peek_uf (R2.ext eb)).mono ?_)
        rintro v3 h3 ⟨rfl, e3⟩
        have e3' : Ext hh h3 := eb.trans e3
        have R3 := R2.ext e3'
        refine ⟨fun b hb => by subst hb; exact e3.get _ (by have := R2.lt; simp; omega), ?_⟩
        have l124 : ((nx (s.drop j)).toNat : Int) = 124 ↔ nx (s.drop j) = 124 := iff_of_eq (u8_eq (a := nx (s.drop j)) (b := 124))
        have l41 : ((nx (s.drop j)).toNat : Int) = 41 ↔ nx (s.drop j) = 41 := iff_of_eq (u8_eq (a := nx (s.drop j)) (b := 41))
        by_cases h124 : nx (s.drop j) = 124
        · simp (disch := first | ((try simp only [heapN]) <;> omega) | fail) only [go_sem, seval, l124.2 h124]
          exact hstop _ e3' (.inr (.inl h124))
        · have n124 : ¬ ((nx (s.drop j)).toNat : Int) = 124 := fun h => h124 (l124.1 h)
          simp (disch := first | ((try simp only [heapN]) <;> omega) | fail) only [go_sem, seval, n124]
          refine callV_ofU F_73 rfl ((peek_uf R3).mono ?_)
          rintro v4 h4 ⟨rfl, e4⟩
          have e4' : Ext hh h4 := e3'.trans e4
          have R4 := R2.ext e4'
          refine ⟨fun b hb => by subst hb; exact e4.get _ R3.lt, ?_⟩
          by_cases h41 : nx (s.drop j) = 41
          · simp (disch := first | ((try simp only [heapN]) <;> omega) | fail) only [go_sem, seval, l41.2 h41]
            exact hstop _ e4' (.inr (.inr h41))
          · have n41 : ¬ ((nx (s.drop j)).toNat : Int) = 41 := fun h => h41 (l41.1 h)
            simp (disch := first | ((try simp only [heapN]) <;> omega) | fail) only [go_sem, seval, n41]
            have u4 := u2.trans (e4'.upd _)
            refine callV_ofU F_83 rfl ((dm R4 hs (by omega)).mono ?_)
            rintro v5 h5 ⟨u5, l5, L5, m5⟩
            simp (disch := first | ((try simp only [heapN]) <;> omega) | fail) only [go_sem, seval]
            have L4 := L2.ext e4'
            have n4 := e4'.nxt
            have n5 := u5.nxt
            have LV : LGrow h.nxt h5 (.slc va vn vc vz) ys := L4.upd u5 fun b hb _ e => by omega
            have hrow : rowL (manyP sub) (m + 1) (s.drop j) = match manyP sub (s.drop j) with | none => none | some (l, r1) => match rowL (manyP sub) m r1 with | none => none | some (l2, r2) => some (l ++ ⟨2, []⟩ :: l2, r2) := by
              rw [rowL, if_neg (by rintro (h | h | h); exact hne h; exact h124 h; exact h41 h)]; rfl
            obtain ⟨xa, xn, xc, xz, rfl, hxn⟩ := L5.form
            have hl5 : l5.length ≤ 2 * s.length := by
              cases hm : manyP sub (s.drop j) with
              | none => rw [hm] at m5; rw [m5.1]; simp
              | some q => obtain ⟨l', r'⟩ := q; rw [hm] at m5; have := shr_many hs' hm; rw [m5.1]; simp at this; omega
            refine gappend (m := h.nxt) (xs := ys) (ys := l5) T_28 rfl T_35 rfl (by decide) (by decide) LV L5.own.slc (by omega) (by simp [roomA]; omega) ?_
            intro v6 h6 L6 u6 b6
            obtain ⟨wa, wn, wc, wz, rfl, hwn⟩ := L6.form
            have n6 := u6.nxt
            simp (disch := first | ((try simp only [heapN]) <;> omega) | fail) only [go_sem, seval]
            refine gappend (m := h.nxt) (xs := ys ++ l5) (ys := [(⟨2, []⟩ : Item)]) T_28 rfl T_35 rfl (by decide) (by decide) (L6.ext (Ext.add _ _)) (LSlc.lit (b := h6.nxt) (ls := [[.int .i64 2, .slc none 0 (some 0) 0]]) (by simp) get_add_self rfl (Reps.one (x := (⟨2, []⟩ : Item)) ⟨_, rfl, Lst.nil⟩) rfl rfl) (by simp; omega) (by simp [roomA]; omega) ?_
            intro v7 h7 L7 u7 b7
            have u07 : Upd (· = k) h h7 := ((u4.trans u5).trans' u6 fun b e hb => by have := LV.blk e; omega).trans' ((Ext.add _ _).upd _ |>.trans u7) fun b e hb => by have := L6.blk e; omega
            have keepR : ∀ {j' : Nat} {bd : Bool}, Rf h5 k s j' bd → Rf h7 k s j' bd := fun {j' bd} R5 => ((R5.upd u6 fun e => by have := LV.blk e; omega).ext (Ext.add _ _)).upd u7 fun e => by have := L6.blk e; omega
            simp (disch := first | ((try simp only [heapN]) <;> omega) | fail) only [go_sem, seval]
            cases hm2 : manyP sub (s.drop j) with
            | none =>
              rw [hm2] at m5
              obtain ⟨rfl, i5, R5, hi5⟩ := m5
              rw [hrow, hm2] at g4'
              exact AgainK.mk m (by simp) ⟨i5, true, v7, ys ++ [] ++ [(⟨2, []⟩ : Item)], keepR R5, u07, L7, by simp, fun _ => ⟨hi5, by simp; omega, g4'⟩, rfl, by simp [Has]⟩
            | some q =>
              obtain ⟨l', r'⟩ := q
              rw [hm2] at m5
              obtain ⟨rfl, i5, R5, hi5, hd5⟩ := m5
              have sh5 := shr_many hs' hm2
              rw [← hd5] at sh5
              simp only [List.length_drop] at sh5
              refine AgainK.mk m (by simp) ⟨i5, false, v7, ys ++ l5 ++ [(⟨2, []⟩ : Item)], keepR R5, u07, L7, fun _ => ⟨hi5, by omega, by simp; omega, ?_⟩, by simp, rfl, by simp [Has]⟩
              rw [g4', hrow, hm2, ← hd5]
              simp only
              cases rowL (manyP sub) m (s.drop i5) <;> simp
      · simp (disch := first | ((try simp only [heapN]) <;> omega) | fail) only [go_sem, seval, hlt]
        exact hstop _ eb (.inl (List.drop_eq_nil_of_le (by omega)))

theorem altR_does {sub : Option (List UInt8 → Res)} {D : Int} {c : Nat} (hs' : ∀ p, sub = some p → Shr p) (dr : DoesR 72 [.int .i64 D] (rowP sub) c) : DoesR 51 [.int .i64 D] (patP sub) c := by
  intro h k s i R hs hi
  have k0x := R.lt
  refine UF.genq fun Q hQ => UF.of (F_51) (c := _) rfl ?_
  unfold Try.f51
  simp only [List.length, Nat.reduceSub, Nat.reduceAdd, List.replicate, List.cons_append, List.nil_append]
  simp (disch := first | ((try simp only [heapN]) <;> omega) | fail) only [go_sem, seval]
  refine callV_ofU F_72 rfl ((dr R hs hi).mono ?_)
  rintro v1 g1 ⟨u1, l, L1, m1⟩
  simp (disch := first | ((try simp only [heapN]) <;> omega) | fail) only [go_sem, seval]
  have n1 := u1.nxt
  have tl : ∀ j, (s.drop j).tail = s.drop (j + 1) := fun j => by rw [List.tail_drop]
  cases ha : rowP sub (s.drop i) with
  | none =>
    rw [ha] at m1
    obtain ⟨hl, i1, R1, hi1⟩ := m1
    refine LoopU_exit ?_
    simp (disch := first | ((try simp only [heapN]) <;> omega) | fail) only [go_sem, seval, R1.g]
    refine hQ _ _ _ (Le.refl _) ⟨u1, l, L1, ?_⟩
    have : patP sub (s.drop i) = none := by simp only [patP, ha]
    rw [this]
    exact ⟨hl, i1, R1, hi1⟩
  | some q =>
    obtain ⟨l', r'⟩ := q
    rw [ha] at m1
    obtain ⟨rfl, i1, R1, hi1, hd1⟩ := m1
    have sh := shr_row hs' ha
    rw [← hd1] at sh
    simp only [List.length_drop] at sh
    refine LoopU_while (fun m st hh => ∃ (j : Nat) (bad : Bool) (v : AV) (ys : List Item), Rf hh k s j bad ∧ Upd (· = k) h hh ∧ LGrow h.nxt hh v ys ∧
      (bad = false → j ≤ s.length ∧ s.length - j < m ∧ ys.length + 2 * (s.length - j) ≤ 2 * (s.length - i) ∧ (patP sub (s.drop i) = (altL (rowP sub) m (s.drop j)).map fun p => (ys ++ p.1, p.2))) ∧
      (bad = true → j ≤ s.length + c ∧ ys.length ≤ 2 * (s.length - i) + 2 ∧ patP sub (s.drop i) = none) ∧ Keep st 35 [(0, .ptr (some (k, 0))), (1, .int .i64 D), (5, v)]) (s.length - i1 + 1)
      ⟨i1, false, v1, l, R1, u1, L1, fun _ => ⟨hi1, by omega, by omega, ?_⟩, by simp, rfl, by simp [Has]⟩ ?_
    · simp only [patP, ha, ← hd1, List.length_drop]
      cases altL (rowP sub) (s.length - i1 + 1) (s.drop i1) <;> rfl
    rintro m st hh ⟨j, bad, v, ys, R2, u2, L2, hgood, hbad, hk⟩
    obtain ⟨va, vn, vc, vz, rfl, hvn⟩ := L2.form
    have n2 := u2.nxt
    rw [hk.eq]
    obtain ⟨k0, k1, k5, -⟩ := hk.2
    simp only [slotsFrom, Nat.reduceAdd] at k0 k1 k5 ⊢
    simp only [k0, k1, k5]
    simp (disch := first | ((try simp only [heapN]) <;> omega) | fail) only [go_sem, seval, R2.g]
    cases bad with
    | true =>
      obtain ⟨b1, b2, b3⟩ := hbad rfl
      simp (disch := first | ((try simp only [heapN]) <;> omega) | fail) only [go_sem, seval]
      refine hQ _ _ _ (Le.refl _) ⟨u2, ys, L2, ?_⟩
      rw [b3]
      exact ⟨b2, j, R2, b1⟩
    | false =>
      obtain ⟨g1', g2', g3', g4'⟩ := hgood rfl
      obtain ⟨m, rfl⟩ : ∃ m', m = m' + 1 := ⟨m - 1, by omega⟩
      simp (disch := first | ((try simp only [heapN]) <;> omega) | fail) only [go_sem, seval]
      refine callV_ofU F_73 rfl ((peek_uf R2).mono ?_)
      rintro v3 h3 ⟨rfl, e3⟩
      simp (disch := first | ((try simp only [heapN]) <;> omega) | fail) only [go_sem, seval]
      have R3 := R2.ext e3
      have L3 := L2.ext e3
      have n3 := e3.nxt
      have l124 : ((nx (s.drop j)).toNat : Int) = 124 ↔ nx (s.drop j) = 124 := iff_of_eq (u8_eq (a := nx (s.drop j)) (b := 124))
      by_cases h124 : nx (s.drop j) = 124
      · have hlt := drop_lt h124 (by decide)
        simp (disch := first | ((try simp only [heapN]) <;> omega) | fail) only [go_sem, seval, l124.2 h124, R3.g]
        obtain ⟨R4, u4⟩ := R3.put (j + 1) false
        have R4' : Rf (h3.put k (.cells [.str s, .int .i64 ((j : Int) + 1), .bool false] true)) k s (j + 1) false := R4
        have L4 : LGrow h.nxt (h3.put k (.cells [.str s, .int .i64 ((j : Int) + 1), .bool false] true)) (.slc va vn vc vz) ys := L3.upd u4 fun b hb _ e => by omega
        have u04 := (u2.trans (e3.upd _)).trans u4
        refine callV_ofU F_72 rfl ((dr R4' hs (by omega)).mono ?_)
        rintro v5 h5 ⟨u5, l5, L5, m5⟩
        simp (disch := first | ((try simp only [heapN]) <;> omega) | fail) only [go_sem, seval]
        have n5 := u5.nxt
        simp only [Heap.put_nxt] at n5
        have LV : LGrow h.nxt h5 (.slc va vn vc vz) ys := L4.upd u5 fun b hb _ e => by omega
        have halt : altL (rowP sub) (m + 1) (s.drop j) = match rowP sub (s.drop (j + 1)) with | none => none | some (l, r1) => match altL (rowP sub) m r1 with | none => none | some (l2, r2) => some (l ++ ⟨3, []⟩ :: l2, r2) := by
          rw [altL, if_pos h124, tl]; rfl
        obtain ⟨xa, xn, xc, xz, rfl, hxn⟩ := L5.form
        have hl5 : l5.length ≤ 2 * (s.length - (j + 1)) + 2 := by
          cases hm : rowP sub (s.drop (j + 1)) with
          | none => rw [hm] at m5; exact m5.1
          | some q => obtain ⟨l', r'⟩ := q; rw [hm] at m5; have := shr_row hs' hm; rw [m5.1]; simp at this; omega
        refine gappend (m := h.nxt) (xs := ys) (ys := l5) T_28 rfl T_35 rfl (by decide) (by decide) LV L5.own.slc (by omega) (by simp [roomA]; omega) ?_
        intro v6 h6 L6 u6 b6
        obtain ⟨wa, wn, wc, wz, rfl, hwn⟩ := L6.form
        have n6 := u6.nxt
        simp (disch := first | ((try simp only [heapN]) <;> omega) | fail) only [go_sem, seval]
        refine gappend (m := h.nxt) (xs := ys ++ l5) (ys := [(⟨3, []⟩ : Item)]) T_28 rfl T_35 rfl (by decide) (by decide) (L6.ext (Ext.add _ _)) (LSlc.lit (b := h6.nxt) (ls := [[.int .i64 3, .slc none 0 (some 0) 0]]) (by simp) get_add_self rfl (Reps.one (x := (⟨3, []⟩ : Item)) ⟨_, rfl, Lst.nil⟩) rfl rfl) (by simp; omega) (by simp [roomA]; omega) ?_
        intro v7 h7 L7 u7 b7
        have u07 : Upd (· = k) h h7 := ((u04.trans u5).trans' u6 fun b e hb => by have := LV.blk e; omega).trans' ((Ext.add _ _).upd _ |>.trans u7) fun b e hb => by have := L6.blk e; omega
        have keepR : ∀ {j' : Nat} {bd : Bool}, Rf h5 k s j' bd → Rf h7 k s j' bd := fun {j' bd} R5 => ((R5.upd u6 fun e => by have := LV.blk e; omega).ext (Ext.add _ _)).upd u7 fun e => by have := L6.blk e; omega
        simp (disch := first | ((try simp only [heapN]) <;> omega) | fail) only [go_sem, seval]
        cases hm2 : rowP sub (s.drop (j + 1)) with
        | none =>
          rw [hm2] at m5
          obtain ⟨hl, i5, R5, hi5⟩ := m5
          rw [halt, hm2] at g4'
          exact AgainK.mk m (by simp) ⟨i5, true, v7, ys ++ l5 ++ [(⟨3, []⟩ : Item)], keepR R5, u07, L7, by simp, fun _ => ⟨hi5, by simp; omega, g4'⟩, rfl, by simp [Has]⟩
        | some q =>
          obtain ⟨l', r'⟩ := q
          rw [hm2] at m5
          obtain ⟨rfl, i5, R5, hi5, hd5⟩ := m5
          have sh5 := shr_row hs' hm2
          rw [← hd5] at sh5
          simp only [List.length_drop] at sh5
          refine AgainK.mk m (by simp) ⟨i5, false, v7, ys ++ l5 ++ [(⟨3, []⟩ : Item)], keepR R5, u07, L7, fun _ => ⟨hi5, by omega, by simp; omega, ?_⟩, by simp, rfl, by simp [Has]⟩
          rw [g4', halt, hm2, ← hd5]
          simp only
          cases altL (rowP sub) m (s.drop i5) <;> simp
      · have n124 : ¬ ((nx (s.drop j)).toNat : Int) = 124 := fun h => h124 (l124.1 h)
        simp (disch := first | ((try simp only [heapN]) <;> omega) | fail) only [go_sem, seval, n124]
        rw [altL, if_neg h124] at g4'
        simp only [Option.map_some, List.append_nil] at g4'
        refine hQ _ _ _ (Le.refl _) ⟨u2.trans (e3.upd _), ys, L3, ?_⟩
        rw [g4']
        exact ⟨rfl, j, R3, g1', rfl⟩

theorem patsR_do : ∀ d : Nat, d ≤ 12 → DoesR 51 [.int .i64 (12 - d)] (pat d) (3 + d)
  | 0, _ => by
    have hs : ∀ p, (none : Option (List UInt8 → Res)) = some p → Shr p := by simp
    have hD : (0 : Int) ≤ 12 - (0 : Nat) ∧ (12 : Int) - (0 : Nat) ≤ 12 := by omega
    exact altR_does hs (joinR_does hs (manyR_does hs (atomR_does hD (by omega) (fun h => absurd h (by omega)) fun _ => rfl)))
  | d + 1, hd => by
    have hs : ∀ p, some (pat d) = some p → Shr p := fun p e => by simp only [Option.some.injEq] at e; subst e; exact shr_pats d
    have hD : (0 : Int) ≤ 12 - (d + 1 : Nat) ∧ (12 : Int) - (d + 1 : Nat) ≤ 12 := by omega
    have ih : DoesR 51 [.int .i64 (12 - d)] (pat d) (3 + d) := patsR_do d (by omega)
    have e : (12 : Int) - (d + 1 : Nat) + 1 = 12 - d := by omega
    exact altR_does hs (joinR_does hs (manyR_does hs (atomR_does hD (by omega) (fun _ => ⟨pat d, rfl, by rw [e]; exact ih⟩) fun h => absurd h (by omega))))

theorem refParse_uf {h : Heap} {s : List UInt8} : UF T F 25 [.str s] h fun v' h' => Ext h h' ∧ match parse s with
    | some l => ∃ v, v' = .tup [v, .bool true] ∧ LGrow h.nxt h' v l
    | none => v' = .tup [.slc none 0 (some 0) 0, .bool false] := by
  refine UF.gen fun Q hQ => UF.of (F_25) (c := _) rfl ?_
  unfold Try.f25
  simp only [List.length, Nat.reduceSub, Nat.reduceAdd, List.replicate, List.cons_append, List.nil_append]
  simp (disch := first | ((try simp only [heapN]) <;> omega) | fail) only [go_sem, seval]
  by_cases h1 : (s.length : Int) < 1
  · simp (disch := first | ((try simp only [heapN]) <;> omega) | fail) only [go_sem, seval, h1]
    refine hQ _ _ ⟨Ext.refl _, ?_⟩
    have : parse s = none := by rw [parse, if_pos (.inl (by omega))]
    rw [this]
  by_cases h24 : (s.length : Int) > 24
  · simp (disch := first | ((try simp only [heapN]) <;> omega) | fail) only [go_sem, seval, h1, h24]
    refine hQ _ _ ⟨Ext.refl _, ?_⟩
    have : parse s = none := by rw [parse, if_pos (.inr (by omega))]
    rw [this]
  simp (disch := first | ((try simp only [heapN]) <;> omega) | fail) only [go_sem, seval, h1, h24]
  have R : Rf (h.add (.cells [.str s, .int .i64 0, .bool false] true)) h.nxt s 0 false := ⟨by simp, get_add_self⟩
  have dp : DoesR 51 [.int .i64 0] (pat 12) 15 := patsR_do 12 (by omega)
  refine callV_ofU F_51 rfl ((dp R (by omega) (by omega)).mono ?_)
  rintro v1 h1' ⟨u1, l, L1, m1⟩
  simp (disch := first | ((try simp only [heapN]) <;> omega) | fail) only [go_sem, seval]
  have e1 : Ext h h1' := ⟨by have := u1.nxt; simp at this; omega, fun b hb => by rw [u1.get b (by simp; omega) (by omega), get_add_lt hb]⟩
  have hparse : parse s = match pat 12 s with | some (l, []) => some l | _ => none := by rw [parse, if_neg (by omega)]; rfl
  obtain ⟨va, vn, vc, vz, rfl, hvn⟩ := L1.form
  rw [List.drop_zero] at m1
  cases hp : pat 12 s with
  | none =>
    rw [hp] at m1
    obtain ⟨_, i, R2, hi⟩ := m1
    simp (disch := first | ((try simp only [heapN]) <;> omega) | fail) only [go_sem, seval, R2.g]
    exact hQ _ _ ⟨e1, by rw [hparse, hp]⟩
  | some q =>
    obtain ⟨l', r⟩ := q
    rw [hp] at m1
    obtain ⟨rfl, i, R2, hi, hd⟩ := m1
    by_cases heq : (i : Int) = s.length
    · simp (disch := first | ((try simp only [heapN]) <;> omega) | fail) only [go_sem, seval, R2.g, heq]
      refine hQ _ _ ⟨e1, ?_⟩
      have : r = [] := by rw [← hd]; exact List.drop_eq_nil_of_le (by omega)
      subst this
      rw [hparse, hp]
      exact ⟨_, rfl, L1.le (by simp)⟩
    · simp (disch := first | ((try simp only [heapN]) <;> omega) | fail) only [go_sem, seval, R2.g, heq]
      refine hQ _ _ ⟨e1, ?_⟩
      rw [hparse, hp]
      cases r with
      | nil => have := congrArg List.length hd; simp at this; omega
      | cons a r => rfl

end Go.Proofs.Ytenpjkinpecnfaa
