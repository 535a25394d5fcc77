/-
  Layer dfa: rows of sets, by keys.
-/
import Derived.Test.YtenpjkinpecnfaaDfaA
import Derived.KernelRfl
namespace Go.Proofs.Ytenpjkinpecnfaa
open Go Go.Am
set_option maxRecDepth 100000
set_option maxHeartbeats 4000000
set_option linter.unusedSimpArgs false
set_option linter.unusedVariables false

section
variable {T : TT} {F : Nat → Option Func} {s : List AV} {h : Heap} {k : AV → Heap → Prop}
@[go_sem ↓] theorem UK_makeMap {t r} : UK T F (.makeMap t r) s h k = @OBk (opA T (evalO s) (.makeMap t r) h) ⟨k⟩ := propext Iff.rfl
@[go_sem ↓] theorem UK_lookup {t x y ok} : UK T F (.lookup t x y ok) s h k = @OBk (opA T (evalO s) (.lookup t x y ok) h) ⟨k⟩ := propext Iff.rfl
@[go_sem ↓] theorem UK_mapUpdate {t m y x} : UK T F (.mapUpdate t m y x) s h k = @OBk (opA T (evalO s) (.mapUpdate t m y x) h) ⟨k⟩ := propext Iff.rfl
end

/-- A set as a key. -/
def key (s : List Nat) : List UInt8 := s.flatMap fun n => [UInt8.ofNat (n / 16777216), UInt8.ofNat (n / 65536), UInt8.ofNat (n / 256), UInt8.ofNat n]
theorem key_cons (n : Nat) (s : List Nat) : key (n :: s) = UInt8.ofNat (n / 16777216) :: UInt8.ofNat (n / 65536) :: UInt8.ofNat (n / 256) :: UInt8.ofNat n :: key s := rfl
theorem key_app (s t : List Nat) : key (s ++ t) = key s ++ key t := by simp [key]
theorem key_len : ∀ s : List Nat, (key s).length = 4 * s.length
  | [] => rfl
  | n :: s => by rw [key_cons]; simp only [List.length_cons, key_len s]; omega
theorem u8_ofNat {a b : Nat} (h : UInt8.ofNat a = UInt8.ofNat b) : a % 256 = b % 256 := by
  have := congrArg UInt8.toNat h
  simpa using this
theorem key_inj : ∀ {s t : List Nat}, (∀ x ∈ s, x < 4294967296) → (∀ x ∈ t, x < 4294967296) → key s = key t → s = t
  | [], [], _, _, _ => rfl
  | [], n :: t, _, _, h => by rw [key_cons] at h; cases h
  | n :: s, [], _, _, h => by rw [key_cons] at h; cases h
  | n :: s, m :: t, h1, h2, h => by
    rw [key_cons, key_cons] at h
    simp only [List.cons.injEq] at h
    obtain ⟨a1, a2, a3, a4, h⟩ := h
    have b1 := u8_ofNat a1
    have b2 := u8_ofNat a2
    have b3 := u8_ofNat a3
    have b4 := u8_ofNat a4
    have c1 := h1 n (by simp)
    have c2 := h2 m (by simp)
    rw [key_inj (fun x hx => h1 x (by simp [hx])) (fun x hx => h2 x (by simp [hx])) h]
    have : n = m := by omega
    rw [this]

theorem shr_at {T : TT} {t : Nat} {n : Nat} {j : Nat} (hj : j ≤ 60) : binOpA T .shr t (.int .i64 (n : Nat)) (.int .u64 (j : Nat)) = some (.int .i64 ((n / 2 ^ j : Nat) : Int)) := by
  have hb : IntKind.i64.bits = 64 := rfl
  simp [binOpA, shiftOp]
  rw [hb, Nat.min_eq_left (by omega), Int.fdiv_eq_ediv_of_nonneg _ (Int.pow_nonneg (by omega))]
theorem wrap_n (m : Nat) : IntKind.u8.wrap (m : Int) = ((UInt8.ofNat m).toNat : Nat) := by
  unfold IntKind.wrap
  simp [IntKind.bits, IntKind.signed]

theorem bytesOf_ok (l : List UInt8) : bytesOf (l.map fun b => .int .u8 b.toNat) = some l := bytesOf_map l
theorem conv_lst {h : Heap} {v : AV} {l : List UInt8} (s : LSlc h v l) : convA T 22 9 v h = some (.str l, h) := by
  obtain ⟨ls, a, r⟩ := s
  have hls : ∀ {xs : List UInt8} {ls : List (List AV)}, Reps h xs ls → ls.flatten = xs.map fun b => AV.int .u8 b.toNat := by
    intro xs ls hr
    induction hr with
    | nil => rfl
    | cons a _ ih => rw [List.flatten_cons, ih, a]; rfl
  have hl := r.length
  rcases a with ⟨rfl, a', cap, z, rfl, _⟩ | ⟨b, o, cap, cs, wr, rfl, hb, hc⟩
  · have : l = [] := by simp at hl; exact List.eq_nil_of_length_eq_zero hl.symm
    subst this
    cases a' with
    | none => simp [convA, T_22, T_9, T_5]
    | some p => simp [convA, T_22, T_9, T_5]
  · have hw := hb.win
    have hro := hb.room
    have hsz : Rep.sz UInt8 = 1 := rfl
    rw [hsz, Nat.mul_one] at hw hro
    rw [hls r] at hw
    have hlc : Am.loadCells h b o ls.length = some (l.map fun b => AV.int .u8 b.toNat) := by
      unfold Am.loadCells
      rw [hb.get]
      simp only
      rw [if_pos hro, hw]
    by_cases h0 : ls.length = 0
    · have : l = [] := by rw [h0] at hl; exact List.eq_nil_of_length_eq_zero hl.symm
      subst this
      simp [convA, T_22, T_9, T_5, h0]
    · simp only [convA, T_22, T_9, T_5, if_true, if_neg h0, hlc, bytesOf_map]

theorem key_uf {h : Heap} {v : AV} {s : List Nat} (sl : Lst h v s) (hl : s.length ≤ 1000000) (hs : ∀ x ∈ s, x < 4294967296) : UF T F 78 [v] h fun v' h' => Ext h h' ∧ v' = .str (key s) := by
  obtain ⟨a, n, c, z, rfl, hn⟩ := sl.form
  refine UF.gen fun Q hQ => UF.of (F_78) (c := _) rfl ?_
  unfold Try.f78
  simp only [List.length, Nat.reduceSub, Nat.reduceAdd, List.replicate, List.cons_append, List.nil_append]
  simp (disch := first | ((try simp only [heapN]) <;> omega) | fail) only [go_sem, seval]
  have hm4 : (4 * (n : Int)) = ((4 * n : Nat) : Int) := by omega
  rw [hm4]
  have em : makeSliceA T 22 (.int .i64 0) (.int .i64 ((4 * n : Nat) : Int)) h = some (.slc (some (h.nxt, 0)) 0 (some (4 * n)) 1, h.add (.cells (zeroRow [.int .u8 0] (4 * n)) true)) := by
    simp only [makeSliceA, T_22, T_5]
    rw [if_pos (by omega)]
    simp only [Int.toNat_natCast, Int.toNat_zero, Nat.mul_one]
  rw [em]
  have e1 : Ext h (h.add (.cells (zeroRow [.int .u8 0] (4 * n)) true)) := Ext.add _ _
  have S0 : LStk (α := UInt8) h.nxt (h.add (.cells (zeroRow [.int .u8 0] (4 * n)) true)) (.slc (some (h.nxt, 0)) 0 (some (4 * n)) 1) [] := by
    refine ⟨[], .inr ⟨h.nxt, 0, 4 * n, _, rfl, Nat.le_refl _, by simp, by simp [zeroRow, show Rep.sz UInt8 = 1 from rfl], by simp, get_add_self, by simp, by simp, by simp⟩, .nil⟩
  have n1 : h.nxt ≤ (h.add (.cells (zeroRow [.int .u8 0] (4 * n)) true)).nxt := by simp
  generalize (h.add (.cells (zeroRow [.int .u8 0] (4 * n)) true)) = h1 at *
  simp (disch := first | ((try simp only [heapN]) <;> omega) | fail) only [go_sem, seval]
  refine LoopU_while (fun m st hh => ∃ (i : Nat) (w : AV), i ≤ n ∧ m = n - i ∧ Ext h hh ∧ LStk h.nxt hh w (key (s.take i)) ∧
      Keep st 33 [(3, w), (10, .slc a n c z), (11, .int .i64 (n : Nat)), (12, .int .i64 (i : Nat))]) n
    ⟨0, _, by omega, by omega, e1, by simpa [key] using S0, rfl, by simp [Has]⟩ ?_
  rintro m st hh ⟨i, w, hi, rfl, eh, L, hk⟩
  obtain ⟨wa, wn, wc, wz, rfl, hwn⟩ := L.form
  rw [hk.eq]
  obtain ⟨k3, k10, k11, k12, -⟩ := hk.2
  simp only [slotsFrom, Nat.reduceAdd] at k3 k10 k11 k12 ⊢
  simp only [k3, k10, k11, k12]
  simp (disch := first | ((try simp only [heapN]) <;> omega) | fail) only [go_sem, seval]
  by_cases hlt : (i : Int) < (n : Int)
  · have hil : i < s.length := by omega
    obtain ⟨b1, o1, cs1, l1, rfl, rfl, hb1, hg1, rfl, hr1, ht1, hc1⟩ := sl.at_ (i := i) (x := s[i]) (List.getElem?_eq_getElem hil) (k := 1) rfl
    have c10 := hc1 0 (by decide)
    simp only [Nat.add_zero, List.getElem?_cons_zero] at c10
    have g1 : hh.get b1 = _ := (eh.get _ hb1).trans hg1
    have x24 : binOpA T .shr 3 (.int .i64 (s[i] : Nat)) (.int .u64 24) = some (.int .i64 ((s[i] / 16777216 : Nat) : Int)) := shr_at (T := T) (t := 3) (n := s[i]) (j := 24) (by omega)
    have x16 : binOpA T .shr 3 (.int .i64 (s[i] : Nat)) (.int .u64 16) = some (.int .i64 ((s[i] / 65536 : Nat) : Int)) := shr_at (T := T) (t := 3) (n := s[i]) (j := 16) (by omega)
    have x8 : binOpA T .shr 3 (.int .i64 (s[i] : Nat)) (.int .u64 8) = some (.int .i64 ((s[i] / 256 : Nat) : Int)) := shr_at (T := T) (t := 3) (n := s[i]) (j := 8) (by omega)
    simp (disch := first | ((try simp only [heapN]) <;> omega) | fail) only [go_sem, seval, hlt, g1, Int.toNat_natCast, c10, x24, x16, x8, wrap_n]
    have hkl := key_len (s.take i)
    rw [List.length_take, Nat.min_eq_left (by omega)] at hkl
    refine sappend (m := h.nxt) (xs := key (s.take i)) (ys := [UInt8.ofNat (s[i] / 16777216), UInt8.ofNat (s[i] / 65536), UInt8.ofNat (s[i] / 256), UInt8.ofNat s[i]]) T_22 rfl T_5 rfl (by decide) (by decide) (L.upd ((Ext.add hh _).upd fun _ => False) fun _ _ _ f => f)
      (LSlc.lit (b := hh.nxt) (ls := [[.int .u8 (UInt8.ofNat (s[i] / 16777216)).toNat], [.int .u8 (UInt8.ofNat (s[i] / 65536)).toNat], [.int .u8 (UInt8.ofNat (s[i] / 256)).toNat], [.int .u8 (UInt8.ofNat s[i]).toNat]]) (by simp) get_add_self rfl (.cons rfl (.cons rfl (.cons rfl (.cons rfl .nil)))) rfl rfl)
      (by have := eh.nxt; simp; omega) (by simp [roomA, hkl]; omega) ?_
    intro v5 h5 S5 u5 b5
    simp (disch := first | ((try simp only [heapN]) <;> omega) | fail) only [go_sem, seval]
    refine AgainK.mk (n - (i + 1)) (by simp only; omega) ⟨i + 1, v5, by omega, rfl, ((eh.trans (Ext.add _ _)).upd (h.nxt ≤ ·) |>.trans' u5 fun b e1 e2 => (L.base_ e1).1).ext fun b hb => by omega, ?_, rfl, by simp [Has]⟩
    have : key (s.take (i + 1)) = key (s.take i) ++ [UInt8.ofNat (s[i] / 16777216), UInt8.ofNat (s[i] / 65536), UInt8.ofNat (s[i] / 256), UInt8.ofNat s[i]] := by
      rw [List.take_add_one, List.getElem?_eq_getElem hil, Option.toList_some, key_app]; rfl
    rw [this]; exact S5
  · simp (disch := first | ((try simp only [heapN]) <;> omega) | fail) only [go_sem, seval, hlt]
    have : i = s.length := by omega
    subst this
    rw [List.take_length] at L
    rw [conv_lst L.slc]
    simp (disch := first | ((try simp only [heapN]) <;> omega) | fail) only [go_sem, seval]
    exact hQ _ _ ⟨eh, rfl⟩

/-- Sets as entries of a map. -/
def ents : List (List Nat) → Nat → List (AV × AV × Nat)
  | [], _ => []
  | s :: r, n => (.str (key s), .int .i64 (n : Nat), n) :: ents r (n + 1)
theorem ents_app : ∀ (S : List (List Nat)) (n : Nat) (s : List Nat), ents (S ++ [s]) n = ents S n ++ [(.str (key s), .int .i64 (n + S.length : Nat), n + S.length)]
  | [], n, s => by simp [ents]
  | t :: S, n, s => by
    rw [List.cons_append, ents, ents_app S (n + 1) s, ents, List.cons_append, List.length_cons, show n + 1 + S.length = n + (S.length + 1) by omega]
theorem ents_len : ∀ (S : List (List Nat)) (n : Nat), (ents S n).length = S.length
  | [], n => rfl
  | t :: S, n => by rw [ents, List.length_cons, ents_len S, List.length_cons]
theorem find_ents {s : List Nat} (hs : ∀ x ∈ s, x < 4294967296) : ∀ {S : List (List Nat)} (n i : Nat), (∀ t ∈ S, ∀ x ∈ t, x < 4294967296) → findA .str (.str (key s)) (ents S n) i = some (if s ∈ S then some (i + S.idxOf s, .int .i64 ((n + S.idxOf s : Nat) : Int), n + S.idxOf s) else none)
  | [], n, i, _ => by simp [ents, findA]
  | t :: S, n, i, h => by
    rw [ents, findA]
    by_cases e : t = s
    · subst e
      simp [keyEq, List.idxOf_cons_self]
    · have hk : ¬ key s = key t := fun h1 => e (key_inj hs (h t (by simp)) h1).symm
      have hk2 : (key s == key t) = false := by simpa using hk
      simp only [keyEq, hk2]
      rw [find_ents hs (n + 1) (i + 1) fun t ht => h t (by simp [ht])]
      have hb : (t == s) = false := by simpa using e
      have hm : s ∈ t :: S ↔ s ∈ S := by simp [Ne.symm e]
      rw [List.idxOf_cons, hb]
      simp only [hm, cond_false]
      split
      · rw [show i + 1 + S.idxOf s = i + (S.idxOf s + 1) by omega, show n + 1 + S.idxOf s = n + (S.idxOf s + 1) by omega]
      · rfl

/-- Sets, and where a set stands among them: a new one at the end; none: below 0. -/
def rowN (S : List (List Nat)) (s : List Nat) : List (List Nat) × Int := if s = [] then (S, -1) else if s ∈ S then (S, (S.idxOf s : Nat)) else (S ++ [s], (S.length : Nat))
/-- The builder of rows at k, its map at mb. -/
structure Db (h : Heap) (k mb : Nat) (lv sv : AV) (G : List St) (S : List (List Nat)) : Prop where
  box : h.get k = some (.cells [lv, sv, .map (some mb)] true)
  lt : mb < k ∧ k < h.nxt
  map : h.get mb = some (.map (ents S 0) S.length)
  l : Lst h lv G
  s : LGrow (k + 1) h sv S
  small : wt G ≤ 800000
  elems : ∀ t ∈ S, ∀ x ∈ t, x < G.length
  lens : ∀ t ∈ S, t.length ≤ G.length
/-- What a builder changes. -/
def DbB (k mb : Nat) (sv : AV) (b : Nat) : Prop := b = k ∨ b = mb ∨ sv.blk = some b
theorem Db.upd {h h' : Heap} {k mb : Nat} {lv sv : AV} {G : List St} {S : List (List Nat)} {P : Nat → Prop} (D : Db h k mb lv sv G S) (u : Upd P h h') (hP : ∀ b, DbB k mb sv b → ¬ P b) : Db h' k mb lv sv G S :=
  ⟨(u.get k D.lt.2 (hP k (.inl rfl))).trans D.box, ⟨D.lt.1, Nat.lt_of_lt_of_le D.lt.2 u.nxt⟩, (u.get mb (Nat.lt_trans D.lt.1 D.lt.2) (hP mb (.inr (.inl rfl)))).trans D.map, D.l.pst u.pst, D.s.upd u fun b _ e => hP b (.inr (.inr e)), D.small, D.elems, D.lens⟩
theorem Db.ext {h h' : Heap} {k mb : Nat} {lv sv : AV} {G : List St} {S : List (List Nat)} (D : Db h k mb lv sv G S) (e : Ext h h') : Db h' k mb lv sv G S := D.upd (e.upd fun _ => False) fun _ _ f => f

theorem row_uf {h : Heap} {k mb : Nat} {lv sv : AV} {G : List St} {S : List (List Nat)} (D : Db h k mb lv sv G S) {v : AV} {s : List Nat} (hv : Lst h v s) (hs : ∀ x ∈ s, x < G.length) (hl : s.length ≤ G.length) (hS : S.length ≤ 100000) :
    UF T F 59 [.ptr (some (k, 0)), v] h fun v' h' => v' = .int .i64 (rowN S s).2 ∧ ∃ sv', Db h' k mb lv sv' G (rowN S s).1 ∧ Upd (DbB k mb sv) h h' ∧ (∀ b, sv'.blk = some b → sv.blk = some b ∨ h.nxt ≤ b) := by
  obtain ⟨a, n, c, z, rfl, hn⟩ := hv.form
  have hgl := wt_len G
  have hsm := D.small
  refine UF.gen fun Q hQ => UF.of (F_59) (c := _) rfl ?_
  unfold Try.f59
  simp only [List.length, Nat.reduceSub, Nat.reduceAdd, List.replicate, List.cons_append, List.nil_append]
  simp (disch := first | ((try simp only [heapN]) <;> omega) | fail) only [go_sem, seval]
  by_cases h0 : (n : Int) = 0
  · have : s = [] := List.eq_nil_of_length_eq_zero (by omega)
    subst this
    simp (disch := first | ((try simp only [heapN]) <;> omega) | fail) only [go_sem, seval, h0]
    exact hQ _ _ ⟨rfl, sv, by simpa [rowN] using D, Upd.refl _ _, fun b e => .inl e⟩
  · have hne : s ≠ [] := by intro e; subst e; simp at hn; omega
    simp (disch := first | ((try simp only [heapN]) <;> omega) | fail) only [go_sem, seval, h0]
    refine callV_ofU F_78 rfl ((key_uf hv (by omega) (fun x hx => by have := hs x hx; omega)).mono ?_)
    rintro v1 h1 ⟨e1, rfl⟩
    simp (disch := first | ((try simp only [heapN]) <;> omega) | fail) only [go_sem, seval]
    have D1 := D.ext e1
    have hmt : mapTypes T 125 = some (.str, 3) := by simp [mapTypes, T_125, T_9]
    have hf := find_ents (s := s) (fun x hx => by have := hs x hx; omega) (S := S) 0 0 (fun t ht x hx => by have := D.elems t ht x hx; omega)
    rw [Nat.zero_add] at hf
    by_cases hin : s ∈ S
    · rw [if_pos hin] at hf
      have hlk : lookupA T 125 (.map (some mb)) (.str (key s)) true h1 = some (.tup [.int .i64 (S.idxOf s : Nat), .bool true]) := by
        simp only [lookupA, hmt, entriesA, D1.map, hf, if_true]
      simp (disch := first | ((try simp only [heapN]) <;> omega) | fail) only [go_sem, seval, D1.box, hlk]
      refine hQ _ _ ⟨by simp [rowN, hne, hin], sv, by simpa [rowN, hne, hin] using D1, e1.upd _, fun b e => .inl e⟩
    · rw [if_neg hin] at hf
      have hz : zeroOf T 3 = some (.int .i64 0) := by simp [zeroOf, T_3, TK.isAgg]
      have hlk : lookupA T 125 (.map (some mb)) (.str (key s)) true h1 = some (.tup [.int .i64 0, .bool false]) := by
        simp only [lookupA, hmt, entriesA, D1.map, hf, hz, if_true]
      obtain ⟨sa, sn, sc, sz, rfl, hsn⟩ := D1.s.form
      simp (disch := first | ((try simp only [heapN]) <;> omega) | fail) only [go_sem, seval, D1.box, hlk]
      have hup : mapUpdateA T 125 (.map (some mb)) (.str (key s)) (.int .i64 (sn : Nat)) h1 = some (h1.put mb (.map (ents (S ++ [s]) 0) (S.length + 1))) := by
        simp only [mapUpdateA, hmt, D1.map, hf]
        rw [ents_app, Nat.zero_add, hsn]
      have hmk := D1.lt
      have u2 : Upd (DbB k mb (.slc sa sn sc sz)) h1 (h1.put mb (.map (ents (S ++ [s]) 0) (S.length + 1))) := Upd.put _ (.inr (.inl rfl)) fun c e => by rw [D1.map] at e; simp at e
      have g2k : (h1.put mb (.map (ents (S ++ [s]) 0) (S.length + 1))).get k = _ := (get_put_ne (by omega)).trans D1.box
      have g2m : (h1.put mb (.map (ents (S ++ [s]) 0) (S.length + 1))).get mb = _ := get_put_self
      have L2 : LGrow (k + 1) (h1.put mb (.map (ents (S ++ [s]) 0) (S.length + 1))) (.slc sa sn sc sz) S := D1.s.upd (S := (· = mb)) (Upd.put _ rfl fun c e => by rw [D1.map] at e; simp at e) fun b h1 _ h2 => by omega
      have v2 := (hv.ext e1).pst u2.pst
      have n2 : (h1.put mb (.map (ents (S ++ [s]) 0) (S.length + 1))).nxt = h1.nxt := by simp
      simp (disch := first | ((try simp only [heapN]) <;> omega) | fail) only [go_sem, seval, hup, g2k]
      generalize (h1.put mb (.map (ents (S ++ [s]) 0) (S.length + 1))) = h2 at *
      refine gappend (m := k + 1) (xs := S) (ys := [s]) T_126 rfl T_130 rfl (by decide) (by decide) (L2.ext (Ext.add _ _)) (LSlc.lit (b := h1.nxt) (ls := [[.slc a n c z]]) (by simp; omega) (by rw [← n2]; exact get_add_self) rfl (Reps.one (x := s) ⟨_, rfl, v2.ext (Ext.add _ _)⟩) rfl rfl) (by simp; omega) (by simp [roomA]; omega) ?_
      intro v5 h5 L5 u5 b5
      obtain ⟨wa, wn, wc, wz, rfl, hwn⟩ := L5.form
      have ua : Upd (fun b => (AV.slc sa sn sc sz).blk = some b) h2 h5 := ((Ext.add h2 _).upd _).trans u5
      have g5k : h5.get k = _ := (ua.get k (by omega) fun e => by have := L2.blk e; omega).trans g2k
      have g5m : h5.get mb = _ := (ua.get mb (by omega) fun e => by have := L2.blk e; omega).trans g2m
      have n5 := ua.nxt
      simp (disch := first | ((try simp only [heapN]) <;> omega) | fail) only [go_sem, seval, g5k]
      have u6 : Upd (· = k) h5 (h5.put k (.cells [lv, .slc wa wn wc wz, .map (some mb)] true)) := Upd.put _ rfl fun c e => by rw [g5k] at e; simp at e
      have hrow : rowN S s = (S ++ [s], ((S.length : Nat) : Int)) := by simp [rowN, hne, hin]
      refine hQ _ _ ⟨by rw [hrow, hsn], .slc wa wn wc wz, ?_, ?_, ?_⟩
      · rw [hrow]
        refine ⟨get_put_self, ⟨hmk.1, by simp; omega⟩, (get_put_ne (by omega)).trans (by rw [g5m, List.length_append]; rfl), (((D1.l.pst u2.pst).pst ua.pst).pst u6.pst), L5.upd u6 fun b e1 e2 e3 => by omega, D.small, fun t ht => ?_, fun t ht => ?_⟩
        · rcases List.mem_append.1 ht with ht | ht
          · exact D.elems t ht
          · simp only [List.mem_singleton] at ht; subst ht; exact hs
        · rcases List.mem_append.1 ht with ht | ht
          · exact D.lens t ht
          · simp only [List.mem_singleton] at ht; subst ht; exact hl
      · exact ((e1.upd _).trans u2).trans ((ua.weak fun b _ e => .inr (.inr e)).trans (u6.weak fun b _ e => .inl e))
      · intro b e
        have := e1.nxt
        rcases b5 b e with h6 | h6
        · exact .inl h6
        · exact .inr (by simp at h6; omega)

end Go.Proofs.Ytenpjkinpecnfaa
