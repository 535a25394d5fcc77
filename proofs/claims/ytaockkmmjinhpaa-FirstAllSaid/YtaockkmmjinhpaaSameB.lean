/-
  Layer first: rows of sets that are the same.
-/
import Derived.Test.YtaockkmmjinhpaaRkD
import Derived.Test.YtaockkmmjinhpaaSums
namespace Go.Proofs.Ytaockkmmjinhpaa
open Go Go.Am
set_option maxRecDepth 100000
set_option maxHeartbeats 4000000
set_option linter.unusedSimpArgs false
set_option linter.unusedVariables false

/-- A set that can be read. -/
def RdB (h : Heap) (v : AV) (xs : List Bool) : Prop := ∃ a c z, v = .slc a xs.length c z ∧ ∀ i, i < xs.length → ∃ b o cs w, a = some (b, o) ∧ z = 1 ∧ b < h.nxt ∧ h.get b = some (.cells cs w) ∧ cs[o + i * 1]? = some (.bool (xs.getD i false))
theorem RdB.ext {h h' : Heap} {v : AV} {xs : List Bool} (r : RdB h v xs) (e : Ext h h') : RdB h' v xs := by
  obtain ⟨a, c, z, rfl, r⟩ := r
  refine ⟨a, c, z, rfl, fun i hi => ?_⟩
  obtain ⟨b, o, cs, w, h1, h2, h3, h4, h5⟩ := r i hi
  exact ⟨b, o, cs, w, h1, h2, Nat.lt_of_lt_of_le h3 e.nxt, (e.get b h3).trans h4, h5⟩
theorem rdB_lst {h : Heap} {v : AV} {xs : List Bool} (s : Lst h v xs) : RdB h v xs := by
  obtain ⟨a, n, c, z, rfl, rfl⟩ := s.form
  refine ⟨a, c, z, rfl, fun i hi => ?_⟩
  obtain ⟨b7, o7, cs7, l7, rfl, rfl, hb7, hg7, rfl, hr7, ht7, hc7⟩ := s.at_ (i := i) (x := xs[i]) (List.getElem?_eq_getElem hi) (k := 1) rfl
  exact ⟨b7, o7, cs7, false, rfl, rfl, hb7, hg7, by rw [List.getD_eq_getElem?_getD, List.getElem?_eq_getElem (l := xs) hi, Option.getD_some]; exact hc7 0 (by decide)⟩
theorem rdB_bits {h : Heap} {b : Nat} {v : AV} {xs : List Bool} (B : Bits h b v xs) : RdB h v xs := by
  obtain ⟨rfl, hb, hg⟩ := B
  exact ⟨_, _, _, rfl, fun i hi => ⟨b, 0, _, true, rfl, rfl, hb, hg, by rw [Nat.zero_add, Nat.mul_one, List.getElem?_map, List.getD_eq_getElem?_getD, List.getElem?_eq_getElem hi]; rfl⟩⟩
/-- Sets that can be read. -/
def RdT (h : Heap) (v : AV) (rows : List (List Bool)) : Prop := ∃ a c z, v = .slc a rows.length c z ∧ ∀ i, i < rows.length → ∃ b o cs w rv, a = some (b, o) ∧ z = 1 ∧ b < h.nxt ∧ h.get b = some (.cells cs w) ∧ cs[o + i * 1]? = some rv ∧ RdB h rv (rows.getD i [])
theorem RdT.ext {h h' : Heap} {v : AV} {rows : List (List Bool)} (r : RdT h v rows) (e : Ext h h') : RdT h' v rows := by
  obtain ⟨a, c, z, rfl, r⟩ := r
  refine ⟨a, c, z, rfl, fun i hi => ?_⟩
  obtain ⟨b, o, cs, w, rv, h1, h2, h3, h4, h5, h6⟩ := r i hi
  exact ⟨b, o, cs, w, rv, h1, h2, Nat.lt_of_lt_of_le h3 e.nxt, (e.get b h3).trans h4, h5, h6.ext e⟩
theorem rdT_tbl {h : Heap} {ob m n : Nat} {bl : List Nat} {rows : List (List Bool)} (t : Tbl h ob m bl rows) (hn : n = rows.length) : RdT h (.slc (some (ob, 0)) n (some n) 1) rows := by
  subst hn
  refine ⟨_, _, _, rfl, fun i hi => ?_⟩
  have hib : i < bl.length := by rw [t.len]; exact hi
  obtain ⟨h1, h2⟩ := t.row i bl[i] rows[i] (List.getElem?_eq_getElem hib) (List.getElem?_eq_getElem hi)
  refine ⟨ob, 0, _, true, _, rfl, rfl, t.lt, t.get, by rw [Nat.zero_add, Nat.mul_one, List.getElem?_map, List.getElem?_eq_getElem hib]; rfl, ?_⟩
  rw [List.getD_eq_getElem?_getD, List.getElem?_eq_getElem hi]
  exact rdB_bits h2
theorem rdT_tbL {h : Heap} {v : AV} {m : Nat} {bl : List Nat} {rows : List (List Bool)} (t : TbL h v m bl rows) : RdT h v rows := by
  obtain ⟨fa, fn, fc, fz, rfl, hfn⟩ := t.lst.form
  rw [List.length_map, t.len] at hfn
  subst hfn
  refine ⟨_, _, _, rfl, fun i hi => ?_⟩
  obtain ⟨b1, o1, cs1, kb, row, rfl, rfl, _, hb, hg, hc, _, hr, _, B⟩ := t.at_ hi
  exact ⟨b1, o1, cs1, false, _, rfl, rfl, hb, hg, hc, by rw [List.getD_eq_getElem?_getD, hr]; exact rdB_bits B⟩

theorem sameRow_uf {h : Heap} {v w : AV} {xs : List Bool} (R : RdB h v xs) (S : RdB h w xs) (hx : xs.length ≤ 1000) : UF T F 36 [v, w] h fun v' h' => Ext h h' ∧ v' = .bool true := by
  obtain ⟨a, c, z, rfl, R⟩ := R
  obtain ⟨a', c', z', rfl, S⟩ := S
  obtain ⟨n, hn⟩ : ∃ n, n = xs.length := ⟨_, rfl⟩
  rw [← hn] at R S ⊢
  refine UF.gen fun Q hQ => UF.of (F_36) (c := _) rfl ?_
  unfold Try.f36
  simp only [List.length, Nat.reduceSub, Nat.reduceAdd, List.replicate, List.cons_append, List.nil_append]
  simp (disch := first | ((try simp only [heapN]) <;> omega) | fail) only [go_sem, seval]
  refine LoopU_while (fun m st hh => ∃ (i : Nat), i ≤ n ∧ m = n - i ∧ Ext h hh ∧ Keep st 26 [(0, .slc a n c z), (1, .slc a' n c' z'), (5, .int .i64 (i : Nat))]) n
    ⟨0, by omega, by omega, Ext.refl _, rfl, by simp [Has]⟩ ?_
  rintro m st hh ⟨i, hi, rfl, eh, hk⟩
  rw [hk.eq]
  obtain ⟨k0, k1, k5, -⟩ := hk.2
  simp only [slotsFrom, Nat.reduceAdd] at k0 k1 k5 ⊢
  simp only [k0, k1, k5]
  by_cases hlt : (i : Int) < (n : Int)
  · have hin : i < n := by omega
    obtain ⟨b1, o1, cs1, w1, rfl, rfl, hb1, hg1, c1⟩ := R i hin
    obtain ⟨b2, o2, cs2, w2, rfl, rfl, hb2, hg2, c2⟩ := S i hin
    have g1 := (eh.get _ hb1).trans hg1
    have g2 := (eh.get _ hb2).trans hg2
    simp (disch := first | ((try simp only [heapN]) <;> omega) | fail) only [go_sem, seval, hlt]
    generalize xs.getD i false = x at *
    cases x <;>
    · skip
      refine DrawU_quiet (by rfl) ?_
      simp (disch := first | ((try simp only [heapN]) <;> omega) | fail) only [go_sem, seval, hlt, g1, g2, c1, c2, Int.toNat_natCast]
      exact AgainK.mk (n - (i + 1)) (by simp only; omega) ⟨i + 1, by omega, rfl, eh.trans (Ext.bump _ _), rfl, by simp [Has]⟩
  · simp (disch := first | ((try simp only [heapN]) <;> omega) | fail) only [go_sem, seval, hlt]
    exact hQ _ _ ⟨eh, rfl⟩

theorem sameRows_uf {h : Heap} {v w : AV} {rows : List (List Bool)} (R : RdT h v rows) (S : RdT h w rows) (hx : rows.length ≤ 1000) (hr : ∀ r ∈ rows, r.length ≤ 1000) : UF T F 38 [v, w] h fun v' h' => Ext h h' ∧ v' = .bool true := by
  obtain ⟨a, c, z, rfl, R⟩ := R
  obtain ⟨a', c', z', rfl, S⟩ := S
  obtain ⟨n, hn⟩ : ∃ n, n = rows.length := ⟨_, rfl⟩
  rw [← hn] at R S ⊢
  refine UF.gen fun Q hQ => UF.of (F_38) (c := _) rfl ?_
  unfold Try.f38
  simp only [List.length, Nat.reduceSub, Nat.reduceAdd, List.replicate, List.cons_append, List.nil_append]
  simp (disch := first | ((try simp only [heapN]) <;> omega) | fail) only [go_sem, seval]
  refine LoopU_while (fun m st hh => ∃ (i : Nat), i ≤ n ∧ m = n - i ∧ Ext h hh ∧ Keep st 27 [(0, .slc a n c z), (1, .slc a' n c' z'), (5, .int .i64 (i : Nat))]) n
    ⟨0, by omega, by omega, Ext.refl _, rfl, by simp [Has]⟩ ?_
  rintro m st hh ⟨i, hi, rfl, eh, hk⟩
  rw [hk.eq]
  obtain ⟨k0, k1, k5, -⟩ := hk.2
  simp only [slotsFrom, Nat.reduceAdd] at k0 k1 k5 ⊢
  simp only [k0, k1, k5]
  have hnh := eh.nxt
  by_cases hlt : (i : Int) < (n : Int)
  · have hin : i < n := by omega
    obtain ⟨b1, o1, cs1, w1, rv1, rfl, rfl, hb1, hg1, c1, X1⟩ := R i hin
    obtain ⟨b2, o2, cs2, w2, rv2, rfl, rfl, hb2, hg2, c2, X2⟩ := S i hin
    have g1 := (eh.get _ hb1).trans hg1
    have g2 := (eh.get _ hb2).trans hg2
    have hxl : (rows.getD i []).length ≤ 1000 := by
      rw [List.getD_eq_getElem?_getD, List.getElem?_eq_getElem (by omega)]
      exact hr _ (List.getElem_mem _)
    simp (disch := first | ((try simp only [heapN]) <;> omega) | fail) only [go_sem, seval, hlt]
    refine DrawU_of' (fun b => b = b1 ∨ b = b2) [0, 0, 3, 7, 0, 0, 48, 112, 255, 511] (by rfl) (by rfl) (fun b hb => by rcases hb with rfl | rfl <;> omega) ?_
    simp (disch := first | ((try simp only [heapN]) <;> omega) | fail) only [go_sem, seval, hlt]
    refine LoadK_ofU rfl (.inl rfl) ?_
    simp (disch := first | ((try simp only [heapN]) <;> omega) | fail) only [go_sem, seval, hlt, g1, c1, Int.toNat_natCast]
    refine LoadK_ofU rfl (.inr rfl) ?_
    simp (disch := first | ((try simp only [heapN]) <;> omega) | fail) only [go_sem, seval, g2, c2, Int.toNat_natCast]
    refine callV_ofU F_36 rfl ((sameRow_uf ((X1.ext eh).ext (Ext.bump _ _)) ((X2.ext eh).ext (Ext.bump _ _)) hxl).mono ?_)
    rintro v3 h3 ⟨e3, rfl⟩
    have e4 := (Ext.bump hh _).trans e3
    refine ⟨fun b hb => e4.get b (by rcases hb with rfl | rfl <;> omega), ?_⟩
    simp (disch := first | ((try simp only [heapN]) <;> omega) | fail) only [go_sem, seval]
    exact AgainK.mk (n - (i + 1)) (by simp only; omega) ⟨i + 1, by omega, rfl, eh.trans e4, rfl, by simp [Has]⟩
  · simp (disch := first | ((try simp only [heapN]) <;> omega) | fail) only [go_sem, seval, hlt]
    exact hQ _ _ ⟨eh, rfl⟩

end Go.Proofs.Ytaockkmmjinhpaa
