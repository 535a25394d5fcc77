/-
  Layer relex: the reference.
-/
import Derived.Test.YtenpjkinpecnfaaRelexNone
import Derived.KernelRfl
namespace Go.Proofs.Ytenpjkinpecnfaa
open Go Go.Am
set_option maxRecDepth 100000
set_option maxHeartbeats 4000000
set_option linter.unusedSimpArgs false
set_option linter.unusedVariables false

theorem refAll_uf {h : Heap} {pv : AV} {es : List Rx} {s : List UInt8} (sl : Lst h pv (es.map Rx.items)) (hf : ∀ e ∈ es, Fit e) (hl : es.length ≤ 1000) (hs : s.length ≤ 900) :
    UF T F 44 [pv, .str s] h fun v' h' => Ext h h' ∧ ∃ ts, Toks es s 0 ts ∧ Lst h' v' ts := by
  obtain ⟨a, n, c, z, rfl, hn⟩ := sl.form
  refine UF.genq fun Q hQ => UF.of (F_44) (c := _) rfl ?_
  unfold Try.f44
  simp only [List.length, Nat.reduceSub, Nat.reduceAdd, List.replicate, List.cons_append, List.nil_append]
  simp (disch := first | ((try simp only [heapN]) <;> omega) | fail) only [go_sem, seval]
  refine LoopU_while (fun m st hh => ∃ (i : Nat) (xs : List Tk) (w : AV), i ≤ s.length ∧ m = s.length - i ∧ xs.length ≤ i ∧ Ext h hh ∧ LGrow h.nxt hh w xs ∧ (∀ l, Toks es s i l → Toks es s 0 (xs ++ l)) ∧
      Keep st 36 [(0, .slc a n c z), (1, .str s), (5, w), (6, .int .i64 (i : Nat))]) s.length
    ⟨0, [], _, by omega, by omega, by simp, Ext.refl _, LGrow.nil, fun l h => h, rfl, by simp [Has]⟩ ?_
  rintro m st hh ⟨i, xs, w, hi, rfl, hxl, eh, L, ht, hk⟩
  obtain ⟨wa, wn, wc, wz, rfl, hwn⟩ := L.form
  rw [hk.eq]
  obtain ⟨k0, k1, k5, k6, -⟩ := hk.2
  simp only [slotsFrom, Nat.reduceAdd] at k0 k1 k5 k6 ⊢
  simp only [k0, k1, k5, k6]
  simp (disch := first | ((try simp only [heapN]) <;> omega) | fail) only [go_sem, seval]
  by_cases hlt : (i : Int) < (s.length : Int)
  · have hil : i < s.length := by omega
    simp (disch := first | ((try simp only [heapN]) <;> omega) | fail) only [go_sem, seval, hlt]
    refine str_lo hi ?_
    simp (disch := first | ((try simp only [heapN]) <;> omega) | fail) only [go_sem, seval]
    refine callV_ofU F_32 rfl ((refLongest_uf (s := s.drop i) (sl.ext eh) hf hl (by simp; omega)).mono ?_)
    rintro v3 h3 ⟨e3, k, q, ok, rfl, b⟩
    simp (disch := first | ((try simp only [heapN]) <;> omega) | fail) only [go_sem, seval]
    have hn3 := e3.nxt
    have hnh := eh.nxt
    have hroomL : ∀ k : Nat, k ≤ 1000 → (k + 1) * 24 ≤ roomA := fun k hk => by simp [roomA]; omega
    have step : ∀ (x : Tk) (i' : Nat), (∀ l, Toks es s i' l → Toks es s i (x :: l)) → ∀ l, Toks es s i' l → Toks es s 0 ((xs ++ [x]) ++ l) := fun x i' h1 l h2 => by
      rw [List.append_assoc]; exact ht _ (h1 l h2)
    cases ok with
    | true =>
      obtain ⟨hn0, hnl, hk0⟩ := b.pos
      rw [List.length_drop] at hnl
      have hin : ((i : Int) + q) = ((i + q : Nat) : Int) := by omega
      simp (disch := first | ((try simp only [heapN]) <;> omega) | fail) only [go_sem, seval, hin]
      refine gappend (m := h.nxt) (xs := xs) (ys := [(⟨k, i, q⟩ : Tk)]) T_68 rfl T_71 rfl (by decide) (by decide) ((L.ext e3).ext (Ext.add _ _)) (LSlc.lit (b := h3.nxt) (ls := [[.int .i64 (k : Nat), .int .i64 (i : Nat), .int .i64 (q : Nat)]]) (by simp) get_add_self rfl (Reps.one (x := (⟨k, i, q⟩ : Tk)) rfl) rfl rfl) (by simp; omega) (hroomL _ (by omega)) ?_
      intro v5 h5 L5 u5 b5
      simp (disch := first | ((try simp only [heapN]) <;> omega) | fail) only [go_sem, seval, hin]
      exact AgainK.mk (s.length - (i + q)) (by simp only; omega) ⟨i + q, _, v5, by omega, rfl, by simp; omega, ((((eh.trans e3).trans (Ext.add _ _)).upd (h.nxt ≤ ·)).trans' u5 fun b h1 h2 => L.blk h1).ext fun b hb => by omega, L5, step _ (i + q) fun l h => .one hil b h, rfl, by simp [Has]⟩
    | false =>
      simp (disch := first | ((try simp only [heapN]) <;> omega) | fail) only [go_sem, seval]
      refine gappend (m := h.nxt) (xs := xs) (ys := [(⟨-1, i, 1⟩ : Tk)]) T_68 rfl T_71 rfl (by decide) (by decide) ((L.ext e3).ext (Ext.add _ _)) (LSlc.lit (b := h3.nxt) (ls := [[.int .i64 (-1), .int .i64 (i : Nat), .int .i64 (1 : Nat)]]) (by simp) get_add_self rfl (Reps.one (x := (⟨-1, i, 1⟩ : Tk)) rfl) rfl rfl) (by simp; omega) (hroomL _ (by omega)) ?_
      intro v5 h5 L5 u5 b5
      simp (disch := first | ((try simp only [heapN]) <;> omega) | fail) only [go_sem, seval]
      exact AgainK.mk (s.length - (i + 1)) (by simp only; omega) ⟨i + 1, _, v5, by omega, rfl, by simp; omega, ((((eh.trans e3).trans (Ext.add _ _)).upd (h.nxt ≤ ·)).trans' u5 fun b h1 h2 => L.blk h1).ext fun b hb => by omega, L5, step _ (i + 1) fun l h => .bad hil b h, rfl, by simp [Has]⟩
  · simp (disch := first | ((try simp only [heapN]) <;> omega) | fail) only [go_sem, seval, hlt]
    have : i = s.length := by omega
    subst this
    obtain ⟨h9, l9, n9, L9, u9⟩ := L.frz
    exact hQ _ _ h9 l9 ⟨((eh.upd (h.nxt ≤ ·)).trans (u9.weak fun b _ => And.left)).ext fun b hb => by omega, xs, by simpa using ht [] (.nil rfl), L9⟩

/-- A splice, any. -/
structure Sp where
  at_ : Int
  n : Int
  put : List UInt8
instance : Rep Sp := ⟨3, fun _ x cs => cs = [.int .i64 x.at_, .int .i64 x.n, .str x.put], fun e => by rw [e]; rfl, fun e => by rw [e]; rfl, fun e _ => e⟩
def Fits (k : Nat) (c : Sp) : Prop := (0 ≤ c.at_ ∧ c.at_ ≤ k) ∧ 0 ≤ c.n ∧ c.n ≤ k - c.at_
instance (k : Nat) (c : Sp) : Decidable (Fits k c) := inferInstanceAs (Decidable (_ ∧ _))
theorem MaySplice_uf {h : Heap} {k : Nat} {c : Sp} (hk : k ≤ 1000) : UF T F 68 [.int .i64 (k : Nat), .agg [.int .i64 c.at_, .int .i64 c.n, .str c.put]] h fun v' h' => Ext h h' ∧ v' = .bool (decide (Fits k c)) := by
  refine UF.gen fun Q hQ => UF.of (F_68) (c := _) rfl ?_
  unfold Try.f68
  simp only [List.length, Nat.reduceSub, Nat.reduceAdd, List.replicate, List.cons_append, List.nil_append]
  simp (disch := first | ((try simp only [heapN]) <;> omega) | fail) only [go_sem, seval]
  have e1 : Ext h (h.add (.cells [.int .i64 c.at_, .int .i64 c.n, .str c.put] true)) := Ext.add _ _
  have g1 : (h.add (.cells [.int .i64 c.at_, .int .i64 c.n, .str c.put] true)).get h.nxt = some (.cells [.int .i64 c.at_, .int .i64 c.n, .str c.put] true) := get_add_self
  have fin : ∀ {b : Bool}, b = decide (Fits k c) → Ext h (h.add (.cells [.int .i64 c.at_, .int .i64 c.n, .str c.put] true)) ∧ AV.bool b = .bool (decide (Fits k c)) := fun e => ⟨e1, by rw [e]⟩
  by_cases q1 : c.at_ ≥ 0
  · by_cases q2 : c.at_ ≤ (k : Int)
    · by_cases q3 : c.n ≥ 0
      · by_cases q4 : c.n ≤ (k : Int) - c.at_
        · simp (disch := first | ((try simp only [heapN]) <;> omega) | fail) only [go_sem, seval, q1, q2, q3, q4]
          exact hQ _ _ (fin (decide_eq_true ⟨⟨q1, q2⟩, q3, q4⟩).symm)
        · simp (disch := first | ((try simp only [heapN]) <;> omega) | fail) only [go_sem, seval, q1, q2, q3, q4]
          exact hQ _ _ (fin (decide_eq_false fun x => q4 x.2.2).symm)
      · simp (disch := first | ((try simp only [heapN]) <;> omega) | fail) only [go_sem, seval, q1, q2, q3]
        exact hQ _ _ (fin (decide_eq_false fun x => q3 x.2.1).symm)
    · simp (disch := first | ((try simp only [heapN]) <;> omega) | fail) only [go_sem, seval, q1, q2]
      exact hQ _ _ (fin (decide_eq_false fun x => q2 x.1.2).symm)
  · simp (disch := first | ((try simp only [heapN]) <;> omega) | fail) only [go_sem, seval, q1]
    exact hQ _ _ (fin (decide_eq_false fun x => q1 x.1.1).symm)
theorem Splice_no {h : Heap} {s : List UInt8} {c : Sp} (hs : s.length ≤ 1000) (hc : ¬ Fits s.length c) : UF T F 46 [.str s, .agg [.int .i64 c.at_, .int .i64 c.n, .str c.put]] h fun v' h' => Ext h h' ∧ v' = .tup [.str [], .bool false] := by
  refine UF.gen fun Q hQ => UF.of (F_46) (c := _) rfl ?_
  unfold Try.f46
  simp only [List.length, Nat.reduceSub, Nat.reduceAdd, List.replicate, List.cons_append, List.nil_append]
  simp (disch := first | ((try simp only [heapN]) <;> omega) | fail) only [go_sem, seval]
  have e1 : Ext h (h.add (.cells [.int .i64 c.at_, .int .i64 c.n, .str c.put] true)) := Ext.add _ _
  refine callV_ofU F_68 rfl ((MaySplice_uf (c := c) hs).mono ?_)
  rintro v2 h2 ⟨e2, rfl⟩
  simp (disch := first | ((try simp only [heapN]) <;> omega) | fail) only [go_sem, seval]
  rw [decide_eq_false hc]
  simp (disch := first | ((try simp only [heapN]) <;> omega) | fail) only [go_sem, seval]
  exact hQ _ _ ⟨e1.trans e2, rfl⟩
theorem Splice_yes {h : Heap} {s put : List UInt8} {a n : Nat} (hs : s.length ≤ 300) (hp : put.length ≤ 300) (ha : a + n ≤ s.length) : UF T F 46 [.str s, .agg [.int .i64 (a : Nat), .int .i64 (n : Nat), .str put]] h fun v' h' => Ext h h' ∧ v' = .tup [.str (spliced s a n put), .bool true] := by
  refine UF.gen fun Q hQ => UF.of (F_46) (c := _) rfl ?_
  unfold Try.f46
  simp only [List.length, Nat.reduceSub, Nat.reduceAdd, List.replicate, List.cons_append, List.nil_append]
  simp (disch := first | ((try simp only [heapN]) <;> omega) | fail) only [go_sem, seval]
  have e1 : Ext h (h.add (.cells [.int .i64 (a : Nat), .int .i64 (n : Nat), .str put] true)) := Ext.add _ _
  refine callV_ofU F_68 rfl ((MaySplice_uf (k := s.length) (c := ⟨a, n, put⟩) (by omega)).mono ?_)
  rintro v2 h2 ⟨e2, rfl⟩
  simp (disch := first | ((try simp only [heapN]) <;> omega) | fail) only [go_sem, seval]
  have g2 : h2.get h.nxt = some (.cells [.int .i64 (a : Nat), .int .i64 (n : Nat), .str put] true) := (e2.get _ (by simp)).trans get_add_self
  have hn2 := e2.nxt
  rw [decide_eq_true (show Fits s.length ⟨a, n, put⟩ from ⟨⟨by simp, by simp only; omega⟩, by simp, by simp only; omega⟩)]
  simp (disch := first | ((try simp only [heapN]) <;> omega) | fail) only [go_sem, seval]
  have ean : ((a : Nat) : Int) + (n : Nat) = ((a + n : Nat) : Int) := by omega
  refine DrawU_of' (fun b => b = h.nxt) [0, 0, 2, 7, 0, 16, 63, 0, 0, 256, 0, 1024, 3840, 8064, 16383, 32767, 65535] (by rfl) (by rfl) (fun b hb => by subst hb; simp at hn2; omega) ?_
  simp (disch := first | ((try simp only [heapN]) <;> omega) | fail) only [go_sem, seval]
  refine LoadK_ofU rfl rfl ?_
  simp (disch := first | ((try simp only [heapN]) <;> omega) | fail) only [go_sem, seval, g2]
  refine str_hi (by omega) ?_
  simp (disch := first | ((try simp only [heapN]) <;> omega) | fail) only [go_sem, seval]
  refine LoadK_ofU rfl rfl ?_
  simp (disch := first | ((try simp only [heapN]) <;> omega) | fail) only [go_sem, seval, g2]
  have hs1 : strOp .add (s.take a) put = some (.str (s.take a ++ put)) := strOp_add (by simp; omega)
  simp (disch := first | ((try simp only [heapN]) <;> omega) | fail) only [go_sem, seval, hs1]
  refine LoadK_ofU rfl rfl ?_
  simp (disch := first | ((try simp only [heapN]) <;> omega) | fail) only [go_sem, seval, g2]
  refine LoadK_ofU rfl rfl ?_
  simp (disch := first | ((try simp only [heapN]) <;> omega) | fail) only [go_sem, seval, g2, ean]
  refine str_lo (by omega) ?_
  have hs2 : strOp .add (s.take a ++ put) (s.drop (a + n)) = some (.str (spliced s a n put)) := strOp_add (by simp; omega)
  simp (disch := first | ((try simp only [heapN]) <;> omega) | fail) only [go_sem, seval, hs2]
  exact hQ _ _ ⟨(e1.trans e2).trans (Ext.bump _ _), rfl⟩

theorem Edit_no {h : Heap} {rv lv : AV} {s : List UInt8} {c : Sp} (hs : s.length ≤ 1000) (hc : ¬ Fits s.length c) : UF T F 45 [rv, .str s, lv, .agg [.int .i64 c.at_, .int .i64 c.n, .str c.put]] h fun v' h' => Ext h h' ∧ v' = .tup [.str [], .slc none 0 (some 0) 0, .int .i64 0, .bool false] := by
  refine UF.gen fun Q hQ => UF.of (F_45) (c := _) rfl ?_
  unfold Try.f45
  simp only [List.length, Nat.reduceSub, Nat.reduceAdd, List.replicate, List.cons_append, List.nil_append]
  simp (disch := first | ((try simp only [heapN]) <;> omega) | fail) only [go_sem, seval]
  have e1 : Ext h (((h.add (.cells [.str s] true)).add (.cells [.int .i64 c.at_, .int .i64 c.n, .str c.put] true)).add (.cells [.str []] true)) := ((Ext.add _ _).trans (Ext.add _ _)).trans (Ext.add _ _)
  have g0 : (((h.add (.cells [.str s] true)).add (.cells [.int .i64 c.at_, .int .i64 c.n, .str c.put] true)).add (.cells [.str []] true)).get h.nxt = some (.cells [.str s] true) := by rw [get_add_lt (by simp; omega), get_add_lt (by simp), get_add_self]
  have g1 : (((h.add (.cells [.str s] true)).add (.cells [.int .i64 c.at_, .int .i64 c.n, .str c.put] true)).add (.cells [.str []] true)).get (h.nxt + 1) = some (.cells [.int .i64 c.at_, .int .i64 c.n, .str c.put] true) := by rw [get_add_lt (by simp), ← Heap.add_nxt h (.cells [.str s] true), get_add_self]
  have g2 : (((h.add (.cells [.str s] true)).add (.cells [.int .i64 c.at_, .int .i64 c.n, .str c.put] true)).add (.cells [.str []] true)).get (h.nxt + 1 + 1) = some (.cells [.str []] true) := by
    have : ((h.add (.cells [.str s] true)).add (.cells [.int .i64 c.at_, .int .i64 c.n, .str c.put] true)).nxt = h.nxt + 1 + 1 := by simp
    rw [← this, get_add_self]
  generalize (((h.add (.cells [.str s] true)).add (.cells [.int .i64 c.at_, .int .i64 c.n, .str c.put] true)).add (.cells [.str []] true)) = h1 at *
  by_cases q1 : c.at_ < 0
  · simp (disch := first | ((try simp only [heapN]) <;> omega) | fail) only [go_sem, seval, g0, g1, q1, g2, get_put_self]
    exact hQ _ _ ⟨e1.put (by omega), rfl⟩
  · by_cases q2 : c.at_ > (s.length : Int)
    · simp (disch := first | ((try simp only [heapN]) <;> omega) | fail) only [go_sem, seval, g0, g1, q1, q2, g2, get_put_self]
      exact hQ _ _ ⟨e1.put (by omega), rfl⟩
    · by_cases q3 : c.n < 0
      · simp (disch := first | ((try simp only [heapN]) <;> omega) | fail) only [go_sem, seval, g0, g1, q1, q2, q3, g2, get_put_self]
        exact hQ _ _ ⟨e1.put (by omega), rfl⟩
      · by_cases q4 : c.n > (s.length : Int) - c.at_
        · simp (disch := first | ((try simp only [heapN]) <;> omega) | fail) only [go_sem, seval, g0, g1, q1, q2, q3, q4, g2, get_put_self]
          exact hQ _ _ ⟨e1.put (by omega), rfl⟩
        · exact absurd ⟨⟨by omega, by omega⟩, by omega, by omega⟩ hc

end Go.Proofs.Ytenpjkinpecnfaa
