/-
  Layer relex: a text that is changed.
-/
import Derived.Test.YtenpjkinpecnfaaRelexB
import Derived.KernelRfl
namespace Go.Proofs.Ytenpjkinpecnfaa
open Go Go.Am
set_option maxRecDepth 100000
set_option maxHeartbeats 2000000
set_option linter.unusedSimpArgs false
set_option linter.unusedVariables false

theorem Toks.within {es : List Rx} {s : List UInt8} {i : Nat} {l : List Tk} (h : Toks es s i l) : ∀ x ∈ l, x.at_ + x.len ≤ s.length := by
  induction h with
  | nil h => simp
  | @one i k n l hi b t ih =>
    have hb := b.pos
    rw [List.length_drop] at hb
    intro x hx
    rcases List.mem_cons.1 hx with rfl | hx
    · simp only; omega
    · exact ih x hx
  | @bad i k n l hi b t ih =>
    intro x hx
    rcases List.mem_cons.1 hx with rfl | hx
    · simp only; omega
    · exact ih x hx
/-- A text that is changed. -/
def spliced (s : List UInt8) (a n : Nat) (put : List UInt8) : List UInt8 := s.take a ++ put ++ s.drop (a + n)
/-- How many tokens are kept. -/
def keptN (s t : List UInt8) (l m : List Tk) : Nat :=
  frontN (sameT s t 0) l m + frontN (sameT s t ((t.length : Int) - s.length)) (l.drop (frontN (sameT s t 0) l m)).reverse (m.drop (frontN (sameT s t 0) l m)).reverse
theorem Edit_uf {h : Heap} {rv lv : AV} {s put : List UInt8} {l : List Tk} {G : List St} {S : List (List Nat)} {R : List Row} {es : List Rx} {a n : Nat} (sr : Lst h rv R) (W : RowFit G S R es) (sl : Lst h lv l)
    (hs : s.length ≤ 300) (hp : put.length ≤ 300) (hl : l.length ≤ 1000) (hin : ∀ x ∈ l, x.at_ + x.len ≤ s.length) (ha : a + n ≤ s.length) :
    UF T F 45 [rv, .str s, lv, .agg [.int .i64 (a : Nat), .int .i64 (n : Nat), .str put]] h fun v' h' => Ext h h' ∧ ∃ w m, v' = .tup [.str (spliced s a n put), w, .int .i64 (keptN s (spliced s a n put) l m : Nat), .bool true] ∧ Lst h' w m ∧ Toks es (spliced s a n put) 0 m := by
  obtain ⟨ra, rn, rc, rz, rfl, hrn⟩ := sr.form
  obtain ⟨la, ln, lc, lz, rfl, hln⟩ := sl.form
  refine UF.gen fun Q hQ => UF.of (F_45) (c := _) rfl ?_
  unfold Try.f45
  simp only [List.length, Nat.reduceSub, Nat.reduceAdd, List.replicate, List.cons_append, List.nil_append]
  simp (disch := first | ((try simp only [heapN]) <;> omega) | fail) only [go_sem, seval]
  have q1 : ¬ ((a : Nat) : Int) < 0 := by omega
  have q2 : ¬ ((a : Nat) : Int) > (s.length : Int) := by omega
  have q3 : ¬ ((n : Nat) : Int) < 0 := by omega
  have q4 : ¬ ((n : Nat) : Int) > (s.length : Int) - (a : Nat) := by omega
  have ean : ((a : Nat) : Int) + (n : Nat) = ((a + n : Nat) : Int) := by omega
  have e1 : Ext h (((h.add (.cells [.str s] true)).add (.cells [.int .i64 (a : Nat), .int .i64 (n : Nat), .str put] true)).add (.cells [.str []] true)) := ((Ext.add _ _).trans (Ext.add _ _)).trans (Ext.add _ _)
  have g0 : (((h.add (.cells [.str s] true)).add (.cells [.int .i64 (a : Nat), .int .i64 (n : Nat), .str put] true)).add (.cells [.str []] true)).get h.nxt = some (.cells [.str s] true) := by rw [get_add_lt (by simp; omega), get_add_lt (by simp), get_add_self]
  have g1 : (((h.add (.cells [.str s] true)).add (.cells [.int .i64 (a : Nat), .int .i64 (n : Nat), .str put] true)).add (.cells [.str []] true)).get (h.nxt + 1) = some (.cells [.int .i64 (a : Nat), .int .i64 (n : Nat), .str put] true) := by rw [get_add_lt (by simp), ← Heap.add_nxt h (.cells [.str s] true), get_add_self]
  have g2 : (((h.add (.cells [.str s] true)).add (.cells [.int .i64 (a : Nat), .int .i64 (n : Nat), .str put] true)).add (.cells [.str []] true)).get (h.nxt + 1 + 1) = some (.cells [.str []] true) := by
    have : ((h.add (.cells [.str s] true)).add (.cells [.int .i64 (a : Nat), .int .i64 (n : Nat), .str put] true)).nxt = h.nxt + 1 + 1 := by simp
    rw [← this, get_add_self]
  have n1 : (((h.add (.cells [.str s] true)).add (.cells [.int .i64 (a : Nat), .int .i64 (n : Nat), .str put] true)).add (.cells [.str []] true)).nxt = h.nxt + 3 := by simp
  generalize (((h.add (.cells [.str s] true)).add (.cells [.int .i64 (a : Nat), .int .i64 (n : Nat), .str put] true)).add (.cells [.str []] true)) = h1 at *
  simp (disch := first | ((try simp only [heapN]) <;> omega) | fail) only [go_sem, seval, g0, g1, q1, q2, q3, q4]
  refine DrawU_of' (fun b => b < h.nxt + 2) [0, 0, 2, 7, 0, 16, 63, 0, 0, 256, 0, 1024, 3840, 8064, 16383, 32767] (by rfl) (by rfl) (fun b hb => by omega) ?_
  simp (disch := first | ((try simp only [heapN]) <;> omega) | fail) only [go_sem, seval]
  refine LoadK_ofU rfl (by show _ < _; omega) ?_
  simp (disch := first | ((try simp only [heapN]) <;> omega) | fail) only [go_sem, seval, g0]
  refine LoadK_ofU rfl (by show _ < _; omega) ?_
  simp (disch := first | ((try simp only [heapN]) <;> omega) | fail) only [go_sem, seval, g1]
  refine str_hi (by omega) ?_
  simp (disch := first | ((try simp only [heapN]) <;> omega) | fail) only [go_sem, seval]
  refine LoadK_ofU rfl (by show _ < _; omega) ?_
  simp (disch := first | ((try simp only [heapN]) <;> omega) | fail) only [go_sem, seval, g1]
  have hs1 : strOp .add (s.take a) put = some (.str (s.take a ++ put)) := strOp_add (by simp; omega)
  simp (disch := first | ((try simp only [heapN]) <;> omega) | fail) only [go_sem, seval, hs1]
  refine LoadK_ofU rfl (by show _ < _; omega) ?_
  simp (disch := first | ((try simp only [heapN]) <;> omega) | fail) only [go_sem, seval, g0]
  refine LoadK_ofU rfl (by show _ < _; omega) ?_
  simp (disch := first | ((try simp only [heapN]) <;> omega) | fail) only [go_sem, seval, g1]
  refine LoadK_ofU rfl (by show _ < _; omega) ?_
  simp (disch := first | ((try simp only [heapN]) <;> omega) | fail) only [go_sem, seval, g1, ean]
  refine str_lo (by omega) ?_
  have hs2 : strOp .add (s.take a ++ put) (s.drop (a + n)) = some (.str (spliced s a n put)) := strOp_add (by simp; omega)
  simp (disch := first | ((try simp only [heapN]) <;> omega) | fail) only [go_sem, seval, hs2, g2]
  refine ⟨fun b hb => (get_put_ne (by omega)).trans (by simp), ?_⟩
  have htl : (spliced s a n put).length ≤ 600 := by simp [spliced]; omega
  generalize ht : spliced s a n put = t at *
  have e2 : Ext h ((h1.bump 16).put (h.nxt + 1 + 1) (.cells [.str t] true)) := (e1.trans (Ext.bump _ _)).put (by omega)
  have k0 : ((h1.bump 16).put (h.nxt + 1 + 1) (.cells [.str t] true)).get h.nxt = some (.cells [.str s] true) := (get_put_ne (by omega)).trans (by simp; exact g0)
  have k2 : ((h1.bump 16).put (h.nxt + 1 + 1) (.cells [.str t] true)).get (h.nxt + 1 + 1) = some (.cells [.str t] true) := get_put_self
  have m2 : ((h1.bump 16).put (h.nxt + 1 + 1) (.cells [.str t] true)).nxt = h.nxt + 19 := by simp; omega
  generalize ((h1.bump 16).put (h.nxt + 1 + 1) (.cells [.str t] true)) = h2 at *
  refine callV_ofU F_41 rfl ((All_uf (s := t) (sr.ext e2) W (by omega)).mono ?_)
  rintro v3 h3 ⟨e3, m, hm, L3⟩
  simp (disch := first | ((try simp only [heapN]) <;> omega) | fail) only [go_sem, seval]
  obtain ⟨ma, mn, mc, mz, rfl, hmn⟩ := L3.form
  have hml := hm.len
  have hmin := hm.within
  have j0 := (e3.get _ (by omega)).trans k0
  have j2 := (e3.get _ (by omega)).trans k2
  have n3 := e3.nxt
  have e4 : Ext h3 ((h3.add (.cells [.int .i64 0] true)).put h3.nxt (.cells [.int .i64 0] true)) := (Ext.add _ _).put (Nat.le_refl _)
  have x4 : ((h3.add (.cells [.int .i64 0] true)).put h3.nxt (.cells [.int .i64 0] true)).get h3.nxt = some (.cells [.int .i64 0] true) := get_put_self
  have m4 : ((h3.add (.cells [.int .i64 0] true)).put h3.nxt (.cells [.int .i64 0] true)).nxt = h3.nxt + 1 := by simp
  generalize ((h3.add (.cells [.int .i64 0] true)).put h3.nxt (.cells [.int .i64 0] true)) = h4 at *
  have y0 := (e4.get _ (by omega)).trans j0
  have y2 := (e4.get _ (by omega)).trans j2
  have same : ∀ {h5 : Heap} (by_ : Int), -100000 ≤ by_ ∧ by_ ≤ 100000 → h3.nxt < h5.nxt → h5.get h3.nxt = some (.cells [.int .i64 by_] true) → h5.get h.nxt = some (.cells [.str s] true) → h5.get (h.nxt + 1 + 1) = some (.cells [.str t] true) →
      ∀ x ∈ l, ∀ y ∈ m, ∀ h', Ext h5 h' → UF T F 64 ([.agg [.int .i64 x.kind, .int .i64 (x.at_ : Nat), .int .i64 (x.len : Nat)], .agg [.int .i64 y.kind, .int .i64 (y.at_ : Nat), .int .i64 (y.len : Nat)]] ++ [.ptr (some (h3.nxt, 0)), .ptr (some (h.nxt, 0)), .ptr (some (h.nxt + 1 + 1, 0))]) h' fun v h'' => Ext h' h'' ∧ v = .bool (sameT s t by_ x y) :=
    fun by_ hby hn hg hg0 hg2 x hx y hy h' e => same_uf (by omega) (by omega) (hin x hx) (hmin y hy) hby ⟨by have := e.nxt; omega, (e.get _ hn).trans hg⟩ ⟨by have := e.nxt; omega, (e.get _ (by omega)).trans hg0⟩ ⟨by have := e.nxt; omega, (e.get _ (by omega)).trans hg2⟩
  refine callV_ofU F_66 rfl ((fronts_uf (((sl.ext e2).ext e3).ext e4) (L3.ext e4) (by omega) (by omega) (same 0 (by omega) (by omega) x4 y0 y2)).mono ?_)
  rintro v5 h5 ⟨e5, rfl⟩
  have z0 := (e5.get _ (by omega)).trans y0
  have z2 := (e5.get _ (by omega)).trans y2
  have zx := (e5.get _ (by omega)).trans x4
  simp (disch := first | ((try simp only [heapN]) <;> omega) | fail) only [go_sem, seval, z0, z2, zx]
  have n5 := e5.nxt
  have u6 : Upd (· = h3.nxt) h5 (h5.put h3.nxt (.cells [.int .i64 ((t.length : Int) - s.length)] true)) := Upd.put _ rfl fun cs e => by rw [zx] at e; simp at e
  have b6 : (h5.put h3.nxt (.cells [.int .i64 ((t.length : Int) - s.length)] true)).get h3.nxt = _ := get_put_self
  have b0 := (u6.get h.nxt (by omega) (by omega)).trans z0
  have b2 := (u6.get (h.nxt + 1 + 1) (by omega) (by omega)).trans z2
  have lf : Lst (h5.put h3.nxt (.cells [.int .i64 ((t.length : Int) - s.length)] true)) (.slc la ln lc lz) l := ((((sl.ext e2).ext e3).ext e4).ext e5).pst u6.pst
  have mf : Lst (h5.put h3.nxt (.cells [.int .i64 ((t.length : Int) - s.length)] true)) (.slc ma mn mc mz) m := ((L3.ext e4).ext e5).pst u6.pst
  have e6 : Ext h (h5.put h3.nxt (.cells [.int .i64 ((t.length : Int) - s.length)] true)) := (((e2.trans e3).trans e4).trans e5).put (by omega)
  have n6 : (h5.put h3.nxt (.cells [.int .i64 ((t.length : Int) - s.length)] true)).nxt = h5.nxt := by simp
  generalize (h5.put h3.nxt (.cells [.int .i64 ((t.length : Int) - s.length)] true)) = h6 at *
  obtain ⟨fr1, fr2⟩ := frontN_le (sameT s t 0) l m
  generalize hfr : frontN (sameT s t 0) l m = fr at *
  refine DrawU_of' (fun b => b < h3.nxt + 1) [0, 0, 0, 0, 0, 24, 0, 0, 192, 0, 1016, 2044, 2041, 6139, 16383, 32767] (by rfl) (by rfl) (fun b hb => by omega) ?_
  simp (disch := first | ((try simp only [heapN]) <;> omega) | fail) only [go_sem, seval]
  refine LoadK_ofU rfl (by show _ < _; omega) ?_
  simp (disch := first | ((try simp only [heapN]) <;> omega) | fail) only [go_sem, seval, b2]
  refine lst_lo (i := fr) T_68 rfl T_71 rfl (lf.ext (Ext.bump _ _)) fr1 ?_
  intro w1 l1
  simp (disch := first | ((try simp only [heapN]) <;> omega) | fail) only [go_sem, seval]
  refine lst_lo (i := fr) T_68 rfl T_71 rfl (mf.ext (Ext.bump _ _)) fr2 ?_
  intro w2 l2
  simp (disch := first | ((try simp only [heapN]) <;> omega) | fail) only [go_sem, seval]
  have hsm := same (h5 := h6.bump 16) ((t.length : Int) - s.length) (by omega) (by simp; omega) (by simpa using b6) (by simpa using b0) (by simpa using b2)
  refine callV_ofU F_67 rfl ((backs_uf l1 l2 (by simp; omega) (by simp; omega) fun x hx y hy => hsm x (List.mem_of_mem_drop hx) y (List.mem_of_mem_drop hy)).mono ?_)
  rintro v7 h7 ⟨e7, rfl⟩
  have k7 : ∀ b, b < h3.nxt + 1 → h7.get b = h6.get b := fun b hb => (e7.get _ (by simp; omega)).trans (by simp)
  have n7 := e7.nxt
  simp only [bump_nxt] at n7
  refine ⟨fun b hb => k7 b hb, ?_⟩
  have b27 := (k7 (h.nxt + 1 + 1) (by omega)).trans b2
  have hfb := frontN_le (sameT s t ((t.length : Int) - s.length)) (l.drop fr).reverse (m.drop fr).reverse
  simp only [List.length_reverse, List.length_drop] at hfb
  simp (disch := first | ((try simp only [heapN]) <;> omega) | fail) only [go_sem, seval, b27]
  refine ⟨fun b hb => ?_, ?_⟩
  · by_cases hbt : h.nxt + 1 + 1 = b
    · subst hbt; rw [get_put_self]; exact b27.symm
    · exact get_put_ne hbt
  have e8 : Ext h (h7.put (h.nxt + 1 + 1) (.cells [.str t] true)) := ((e6.trans (Ext.bump _ _)).trans e7).put (by omega)
  have u8 : Upd (· = h.nxt + 1 + 1) h7 (h7.put (h.nxt + 1 + 1) (.cells [.str t] true)) := Upd.put _ rfl fun cs e => by rw [b27] at e; simp at e
  refine hQ _ _ ⟨e8, .slc ma mn mc mz, m, ?_, ((mf.ext (Ext.bump _ _)).ext e7).pst u8.pst, hm⟩
  rw [keptN, hfr, Int.natCast_add]

end Go.Proofs.Ytenpjkinpecnfaa
