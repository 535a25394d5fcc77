/-
  Grammars of sums may be.
-/
import Derived.Test.YtaockkmmjinhpaaSumsA
namespace Go.Proofs.Ytaockkmmjinhpaa
open Go Go.Am
set_option maxRecDepth 100000
set_option maxHeartbeats 8000000
set_option linter.unusedSimpArgs false
set_option linter.unusedVariables false

theorem opq_keep' {n : Nat} {h h' : Heap} : ∀ {os : List (Opq n)} {ls : List (List AV)}, Reps h os ls → Reps h' os ls
  | _, _, .nil => .nil
  | _, _, .cons a r => .cons (α := Opq n) a (opq_keep' r)
theorem lst_unopq {α : Type} [Rep α] {n : Nat} {h : Heap} {v : AV} {xs : List α} {os : List (Opq n)} (s : Lst h v os) (r : Reps h xs (os.map Opq.l)) (hn : Rep.sz α = n) : Lst h v xs := by
  obtain ⟨ls, s1, s2⟩ := s
  have e : ∀ {os : List (Opq n)} {ls : List (List AV)}, Reps h os ls → ls = os.map Opq.l := fun {os ls} r => by
    induction r with
    | nil => rfl
    | cons a _ ih => rw [List.map_cons, ← ih, a.1]
  rw [← e s2] at r
  exact ⟨ls, by rw [hn]; exact s1, r⟩
theorem fresh_frz {lo m n : Nat} {h : Heap} {v : AV} {os : List (Opq n)} (s : LFresh m h v os) (hm : lo ≤ m) : Lst (frzF lo h) v os := by
  obtain ⟨ls, F, R⟩ := s
  rcases F with ⟨rfl, a, z, rfl, hz⟩ | ⟨b, o, cs, rfl, hb, B⟩
  · exact ⟨[], .inl ⟨rfl, a, some 0, z, rfl, hz⟩, opq_keep' R⟩
  · exact ⟨ls, .inr ⟨b, o, none, cs, rfl, ⟨by rw [frzF_nxt]; exact B.lt, frzF_get (by omega) B.lt B.get, B.len, B.room, B.win⟩, by simp⟩, opq_keep' R⟩
theorem prk7 {r : List (Opq 10)} : PrK sumsT 4 ⟨3, [⟨true, 7⟩, ⟨true, 1⟩, ⟨false, 3⟩, ⟨false, 3⟩], r⟩ := ⟨by simp only; omega, by simp, fun s hs => by
    simp only [List.mem_cons, List.not_mem_nil, or_false] at hs
    rcases hs with rfl | rfl | rfl | rfl
    · exact symK_t (k := 7) _ rfl rfl
    · exact symK_t (k := 1) _ rfl rfl
    · exact symK_n (by decide)
    · exact symK_n (by decide)⟩
theorem Sums_uf {h : Heap} {w : Nat} (hw : w < 256) : UF T F 27 [.int .i64 (w : Nat)] h fun v' h' => Ext h h' ∧ ∃ g, LGm h' v' g ∧ MayG g := by
  refine UF.genq fun Q hQ => UF.of (F_27) (c := _) rfl ?_
  unfold Try.f27
  simp only [List.length, Nat.reduceSub, Nat.reduceAdd, List.replicate, List.cons_append, List.nil_append]
  simp (disch := first | ((try simp only [heapN]) <;> omega) | fail) only [go_sem, seval]
  -- udraw
  simp (disch := first | ((try simp only [heapN]) <;> omega) | fail) only [go_sem, seval, List.append_eq, List.cons_append, List.nil_append, List.toList_toArray]
  refine callV_ofU F_62 rfl ((con_uf).mono ?_)
  rintro _ H1 ⟨E1, x1, rfl⟩
  simp only [GEx.cells]
  have N1 := E1.nxt
  try simp only [heapN] at N1
  have X1 : Ext h H1 := by
    refine Ext.trans ?_ E1
    refine ⟨by simp only [heapN]; omega, fun b hb => ?_⟩
    simp (disch := first | ((try simp only [heapN]) <;> omega) | fail) only [get_add_lt, get_put_ne]
  have b0 := E1.get (h.nxt) (by simp only [heapN]; omega)
  simp (disch := first | ((try simp only [heapN]) <;> omega) | fail) only [get_add_eq, get_add_lt, get_put_eq, get_put_ne] at b0
  have b1 := E1.get (h.nxt + 1) (by simp only [heapN]; omega)
  simp (disch := first | ((try simp only [heapN]) <;> omega) | fail) only [get_add_eq, get_add_lt, get_put_eq, get_put_ne] at b1
  have b2 := E1.get (h.nxt + 1 + 1) (by simp only [heapN]; omega)
  simp (disch := first | ((try simp only [heapN]) <;> omega) | fail) only [get_add_eq, get_add_lt, get_put_eq, get_put_ne] at b2
  have b3 := E1.get (h.nxt + 1 + 1 + 1) (by simp only [heapN]; omega)
  simp (disch := first | ((try simp only [heapN]) <;> omega) | fail) only [get_add_eq, get_add_lt, get_put_eq, get_put_ne] at b3
  have b4 := E1.get (h.nxt + 1 + 1 + 1 + 1) (by simp only [heapN]; omega)
  simp (disch := first | ((try simp only [heapN]) <;> omega) | fail) only [get_add_eq, get_add_lt, get_put_eq, get_put_ne] at b4
  have b5 := E1.get (h.nxt + 1 + 1 + 1 + 1 + 1) (by simp only [heapN]; omega)
  simp (disch := first | ((try simp only [heapN]) <;> omega) | fail) only [get_add_eq, get_add_lt, get_put_eq, get_put_ne] at b5
  have b6 := E1.get (h.nxt + 1 + 1 + 1 + 1 + 1 + 1) (by simp only [heapN]; omega)
  simp (disch := first | ((try simp only [heapN]) <;> omega) | fail) only [get_add_eq, get_add_lt, get_put_eq, get_put_ne] at b6
  have b7 := E1.get (h.nxt + 1 + 1 + 1 + 1 + 1 + 1 + 1) (by simp only [heapN]; omega)
  simp (disch := first | ((try simp only [heapN]) <;> omega) | fail) only [get_add_eq, get_add_lt, get_put_eq, get_put_ne] at b7
  have b8 := E1.get (h.nxt + 1 + 1 + 1 + 1 + 1 + 1 + 1 + 1) (by simp only [heapN]; omega)
  simp (disch := first | ((try simp only [heapN]) <;> omega) | fail) only [get_add_eq, get_add_lt, get_put_eq, get_put_ne] at b8
  have b9 := E1.get (h.nxt + 1 + 1 + 1 + 1 + 1 + 1 + 1 + 1 + 1) (by simp only [heapN]; omega)
  simp (disch := first | ((try simp only [heapN]) <;> omega) | fail) only [get_add_eq, get_add_lt, get_put_eq, get_put_ne] at b9
  have b10 := E1.get (h.nxt + 1 + 1 + 1 + 1 + 1 + 1 + 1 + 1 + 1 + 1) (by simp only [heapN]; omega)
  simp (disch := first | ((try simp only [heapN]) <;> omega) | fail) only [get_add_eq, get_add_lt, get_put_eq, get_put_ne] at b10
  have b11 := E1.get (h.nxt + 1 + 1 + 1 + 1 + 1 + 1 + 1 + 1 + 1 + 1 + 1) (by simp only [heapN]; omega)
  simp (disch := first | ((try simp only [heapN]) <;> omega) | fail) only [get_add_eq, get_add_lt, get_put_eq, get_put_ne] at b11
  simp (disch := first | ((try simp only [heapN]) <;> omega) | fail) only [go_sem, seval]
  refine callV_ofU F_62 rfl ((con_uf).mono ?_)
  rintro _ H2 ⟨E2, x2, rfl⟩
  simp only [GEx.cells]
  have N2 := E2.nxt
  try simp only [heapN] at N2
  have X2 : Ext H1 H2 := E2
  simp (disch := first | ((try simp only [heapN]) <;> omega) | fail) only [go_sem, seval]
  refine callV_ofU F_63 rfl ((ref_uf).mono ?_)
  rintro _ H3 ⟨E3, x3, rfl⟩
  simp only [GEx.cells]
  have N3 := E3.nxt
  try simp only [heapN] at N3
  have X3 : Ext H2 H3 := (Ext.add _ _).trans E3
  have c3_0 := E3.get (H2.nxt) (by simp only [heapN]; omega)
  simp (disch := first | ((try simp only [heapN]) <;> omega) | fail) only [get_add_eq, get_add_lt, get_put_eq, get_put_ne] at c3_0
  simp (disch := first | ((try simp only [heapN]) <;> omega) | fail) only [go_sem, seval]
  refine callV_ofU F_63 rfl ((ref_uf).mono ?_)
  rintro _ H4 ⟨E4, x4, rfl⟩
  simp only [GEx.cells]
  have N4 := E4.nxt
  try simp only [heapN] at N4
  have X4 : Ext H3 H4 := E4
  simp (disch := first | ((try simp only [heapN]) <;> omega) | fail) only [go_sem, seval]
  refine callV_ofU F_62 rfl ((con_uf).mono ?_)
  rintro _ H5 ⟨E5, x5, rfl⟩
  simp only [GEx.cells]
  have N5 := E5.nxt
  try simp only [heapN] at N5
  have X5 : Ext H4 H5 := E5
  simp (disch := first | ((try simp only [heapN]) <;> omega) | fail) only [go_sem, seval]
  refine callV_ofU F_63 rfl ((ref_uf).mono ?_)
  rintro _ H6 ⟨E6, x6, rfl⟩
  simp only [GEx.cells]
  have N6 := E6.nxt
  try simp only [heapN] at N6
  have X6 : Ext H5 H6 := (((Ext.add _ _).trans (Ext.add _ _)).trans (Ext.add _ _)).trans E6
  have c6_0 := E6.get (H5.nxt) (by simp only [heapN]; omega)
  simp (disch := first | ((try simp only [heapN]) <;> omega) | fail) only [get_add_eq, get_add_lt, get_put_eq, get_put_ne] at c6_0
  have c6_1 := E6.get (H5.nxt + 1) (by simp only [heapN]; omega)
  simp (disch := first | ((try simp only [heapN]) <;> omega) | fail) only [get_add_eq, get_add_lt, get_put_eq, get_put_ne] at c6_1
  have c6_2 := E6.get (H5.nxt + 1 + 1) (by simp only [heapN]; omega)
  simp (disch := first | ((try simp only [heapN]) <;> omega) | fail) only [get_add_eq, get_add_lt, get_put_eq, get_put_ne] at c6_2
  simp (disch := first | ((try simp only [heapN]) <;> omega) | fail) only [go_sem, seval]
  refine callV_ofU F_63 rfl ((ref_uf).mono ?_)
  rintro _ H7 ⟨E7, x7, rfl⟩
  simp only [GEx.cells]
  have N7 := E7.nxt
  try simp only [heapN] at N7
  have X7 : Ext H6 H7 := E7
  simp (disch := first | ((try simp only [heapN]) <;> omega) | fail) only [go_sem, seval]
  refine callV_ofU F_63 rfl ((ref_uf).mono ?_)
  rintro _ H8 ⟨E8, x8, rfl⟩
  simp only [GEx.cells]
  have N8 := E8.nxt
  try simp only [heapN] at N8
  have X8 : Ext H7 H8 := E8
  simp (disch := first | ((try simp only [heapN]) <;> omega) | fail) only [go_sem, seval]
  refine callV_ofU F_63 rfl ((ref_uf).mono ?_)
  rintro _ H9 ⟨E9, x9, rfl⟩
  simp only [GEx.cells]
  have N9 := E9.nxt
  try simp only [heapN] at N9
  have X9 : Ext H8 H9 := E9
  simp (disch := first | ((try simp only [heapN]) <;> omega) | fail) only [go_sem, seval]
  refine callV_ofU F_64 rfl ((tok_uf).mono ?_)
  rintro _ H10 ⟨E10, rfl⟩
  have N10 := E10.nxt
  try simp only [heapN] at N10
  have X10 : Ext H9 H10 := (Ext.add _ _).trans E10
  have c10_0 := E10.get (H9.nxt) (by simp only [heapN]; omega)
  simp (disch := first | ((try simp only [heapN]) <;> omega) | fail) only [get_add_eq, get_add_lt, get_put_eq, get_put_ne] at c10_0
  simp (disch := first | ((try simp only [heapN]) <;> omega) | fail) only [go_sem, seval]
  refine callV_ofU F_63 rfl ((ref_uf).mono ?_)
  rintro _ H11 ⟨E11, x11, rfl⟩
  simp only [GEx.cells]
  have N11 := E11.nxt
  try simp only [heapN] at N11
  have X11 : Ext H10 H11 := (Ext.add _ _).trans E11
  have c11_0 := E11.get (H10.nxt) (by simp only [heapN]; omega)
  simp (disch := first | ((try simp only [heapN]) <;> omega) | fail) only [get_add_eq, get_add_lt, get_put_eq, get_put_ne] at c11_0
  simp (disch := first | ((try simp only [heapN]) <;> omega) | fail) only [go_sem, seval]
  refine callV_ofU F_63 rfl ((ref_uf).mono ?_)
  rintro _ H12 ⟨E12, x12, rfl⟩
  simp only [GEx.cells]
  have N12 := E12.nxt
  try simp only [heapN] at N12
  have X12 : Ext H11 H12 := E12
  simp (disch := first | ((try simp only [heapN]) <;> omega) | fail) only [go_sem, seval]
  refine callV_ofU F_63 rfl ((ref_uf).mono ?_)
  rintro _ H13 ⟨E13, x13, rfl⟩
  simp only [GEx.cells]
  have N13 := E13.nxt
  try simp only [heapN] at N13
  have X13 : Ext H12 H13 := E13
  simp (disch := first | ((try simp only [heapN]) <;> omega) | fail) only [go_sem, seval]
  refine callV_ofU F_63 rfl ((ref_uf).mono ?_)
  rintro _ H14 ⟨E14, x14, rfl⟩
  simp only [GEx.cells]
  have N14 := E14.nxt
  try simp only [heapN] at N14
  have X14 : Ext H13 H14 := E14
  simp (disch := first | ((try simp only [heapN]) <;> omega) | fail) only [go_sem, seval]
  refine callV_ofU F_63 rfl ((ref_uf).mono ?_)
  rintro _ H15 ⟨E15, x15, rfl⟩
  simp only [GEx.cells]
  have N15 := E15.nxt
  try simp only [heapN] at N15
  have X15 : Ext H14 H15 := (Ext.add _ _).trans E15
  have c15_0 := E15.get (H14.nxt) (by simp only [heapN]; omega)
  simp (disch := first | ((try simp only [heapN]) <;> omega) | fail) only [get_add_eq, get_add_lt, get_put_eq, get_put_ne] at c15_0
  simp (disch := first | ((try simp only [heapN]) <;> omega) | fail) only [go_sem, seval]
  refine callV_ofU F_63 rfl ((ref_uf).mono ?_)
  rintro _ H16 ⟨E16, x16, rfl⟩
  simp only [GEx.cells]
  have N16 := E16.nxt
  try simp only [heapN] at N16
  have X16 : Ext H15 H16 := (Ext.add _ _).trans E16
  have c16_0 := E16.get (H15.nxt) (by simp only [heapN]; omega)
  simp (disch := first | ((try simp only [heapN]) <;> omega) | fail) only [get_add_eq, get_add_lt, get_put_eq, get_put_ne] at c16_0
  simp (disch := first | ((try simp only [heapN]) <;> omega) | fail) only [go_sem, seval]
  refine callV_ofU F_64 rfl ((tok_uf).mono ?_)
  rintro _ H17 ⟨E17, rfl⟩
  have N17 := E17.nxt
  try simp only [heapN] at N17
  have X17 : Ext H16 H17 := (Ext.add _ _).trans E17
  have c17_0 := E17.get (H16.nxt) (by simp only [heapN]; omega)
  simp (disch := first | ((try simp only [heapN]) <;> omega) | fail) only [get_add_eq, get_add_lt, get_put_eq, get_put_ne] at c17_0
  simp (disch := first | ((try simp only [heapN]) <;> omega) | fail) only [go_sem, seval]
  refine callV_ofU F_62 rfl ((con_uf).mono ?_)
  rintro _ H18 ⟨E18, x18, rfl⟩
  simp only [GEx.cells]
  have N18 := E18.nxt
  try simp only [heapN] at N18
  have X18 : Ext H17 H18 := (Ext.add _ _).trans E18
  have c18_0 := E18.get (H17.nxt) (by simp only [heapN]; omega)
  simp (disch := first | ((try simp only [heapN]) <;> omega) | fail) only [get_add_eq, get_add_lt, get_put_eq, get_put_ne] at c18_0
  simp (disch := first | ((try simp only [heapN]) <;> omega) | fail) only [go_sem, seval]
  refine callV_ofU F_64 rfl ((tok_uf).mono ?_)
  rintro _ H19 ⟨E19, rfl⟩
  have N19 := E19.nxt
  try simp only [heapN] at N19
  have X19 : Ext H18 H19 := (Ext.add _ _).trans E19
  have c19_0 := E19.get (H18.nxt) (by simp only [heapN]; omega)
  simp (disch := first | ((try simp only [heapN]) <;> omega) | fail) only [get_add_eq, get_add_lt, get_put_eq, get_put_ne] at c19_0
  simp (disch := first | ((try simp only [heapN]) <;> omega) | fail) only [go_sem, seval]
  refine callV_ofU F_63 rfl ((ref_uf).mono ?_)
  rintro _ H20 ⟨E20, x20, rfl⟩
  simp only [GEx.cells]
  have N20 := E20.nxt
  try simp only [heapN] at N20
  have X20 : Ext H19 H20 := (Ext.add _ _).trans E20
  have c20_0 := E20.get (H19.nxt) (by simp only [heapN]; omega)
  simp (disch := first | ((try simp only [heapN]) <;> omega) | fail) only [get_add_eq, get_add_lt, get_put_eq, get_put_ne] at c20_0
  simp (disch := first | ((try simp only [heapN]) <;> omega) | fail) only [go_sem, seval]
  refine callV_ofU F_64 rfl ((tok_uf).mono ?_)
  rintro _ H21 ⟨E21, rfl⟩
  have N21 := E21.nxt
  try simp only [heapN] at N21
  have X21 : Ext H20 H21 := (((Ext.add _ _).trans (Ext.add _ _)).trans (Ext.add _ _)).trans E21
  have c21_0 := E21.get (H20.nxt) (by simp only [heapN]; omega)
  simp (disch := first | ((try simp only [heapN]) <;> omega) | fail) only [get_add_eq, get_add_lt, get_put_eq, get_put_ne] at c21_0
  have c21_1 := E21.get (H20.nxt + 1) (by simp only [heapN]; omega)
  simp (disch := first | ((try simp only [heapN]) <;> omega) | fail) only [get_add_eq, get_add_lt, get_put_eq, get_put_ne] at c21_1
  have c21_2 := E21.get (H20.nxt + 1 + 1) (by simp only [heapN]; omega)
  simp (disch := first | ((try simp only [heapN]) <;> omega) | fail) only [get_add_eq, get_add_lt, get_put_eq, get_put_ne] at c21_2
  simp (disch := first | ((try simp only [heapN]) <;> omega) | fail) only [go_sem, seval]
  refine callV_ofU F_64 rfl ((tok_uf).mono ?_)
  rintro _ H22 ⟨E22, rfl⟩
  have N22 := E22.nxt
  try simp only [heapN] at N22
  have X22 : Ext H21 H22 := E22
  simp (disch := first | ((try simp only [heapN]) <;> omega) | fail) only [go_sem, seval]
  refine callV_ofU F_63 rfl ((ref_uf).mono ?_)
  rintro _ H23 ⟨E23, x23, rfl⟩
  simp only [GEx.cells]
  have N23 := E23.nxt
  try simp only [heapN] at N23
  have X23 : Ext H22 H23 := (Ext.add _ _).trans E23
  have c23_0 := E23.get (H22.nxt) (by simp only [heapN]; omega)
  simp (disch := first | ((try simp only [heapN]) <;> omega) | fail) only [get_add_eq, get_add_lt, get_put_eq, get_put_ne] at c23_0
  simp (disch := first | ((try simp only [heapN]) <;> omega) | fail) only [go_sem, seval]
  refine callV_ofU F_63 rfl ((ref_uf).mono ?_)
  rintro _ H24 ⟨E24, x24, rfl⟩
  simp only [GEx.cells]
  have N24 := E24.nxt
  try simp only [heapN] at N24
  have X24 : Ext H23 H24 := E24
  simp (disch := first | ((try simp only [heapN]) <;> omega) | fail) only [go_sem, seval]
  refine callV_ofU F_62 rfl ((con_uf).mono ?_)
  rintro _ H25 ⟨E25, x25, rfl⟩
  simp only [GEx.cells]
  have N25 := E25.nxt
  try simp only [heapN] at N25
  have X25 : Ext H24 H25 := E25
  simp (disch := first | ((try simp only [heapN]) <;> omega) | fail) only [go_sem, seval]
  have Y25 : Ext H25 H25 := Ext.refl _
  have Y24 := X25.trans Y25
  have Y23 := X24.trans Y24
  have Y22 := X23.trans Y23
  have Y21 := X22.trans Y22
  have Y20 := X21.trans Y21
  have Y19 := X20.trans Y20
  have Y18 := X19.trans Y19
  have Y17 := X18.trans Y18
  have Y16 := X17.trans Y17
  have Y15 := X16.trans Y16
  have Y14 := X15.trans Y15
  have Y13 := X14.trans Y14
  have Y12 := X13.trans Y13
  have Y11 := X12.trans Y12
  have Y10 := X11.trans Y11
  have Y9 := X10.trans Y10
  have Y8 := X9.trans Y9
  have Y7 := X8.trans Y8
  have Y6 := X7.trans Y7
  have Y5 := X6.trans Y6
  have Y4 := X5.trans Y5
  have Y3 := X4.trans Y4
  have Y2 := X3.trans Y3
  have Y1 := X2.trans Y2
  have hY := X1.nxt
  have s25 := (Y1.get (h.nxt + 1 + 1) (by omega)).trans b2
  have z25 := (Y1.get h.nxt (by omega)).trans b0
  obtain ⟨H26, hH26⟩ : ∃ H26, H26 = ((H25.add (.cells [.int .i64 2, .int .i64 0, .int .i64 x23.op, .int .i64 x23.kd, .int .i64 x23.i, .str x23.s, .slc x23.la x23.ln x23.lc x23.lz, .int .i64 x23.oc, .int .i64 x23.at_, .slc x23.xa x23.xn x23.xc x23.xz, .int .i64 0, .int .i64 1, .int .i64 x24.op, .int .i64 x24.kd, .int .i64 x24.i, .str x24.s, .slc x24.la x24.ln x24.lc x24.lz, .int .i64 x24.oc, .int .i64 x24.at_, .slc x24.xa x24.xn x24.xc x24.xz, .int .i64 0, .int .i64 2, .int .i64 x25.op, .int .i64 x25.kd, .int .i64 x25.i, .str x25.s, .slc x25.la x25.ln x25.lc x25.lz, .int .i64 x25.oc, .int .i64 x25.at_, .slc x25.xa x25.xn x25.xc x25.xz] true)).add (.cells [.int .i64 0, .slc (some (h.nxt + 1 + 1 + 1 + 1 + 1 + 1 + 1 + 1 + 1 + 1 + 1, 0)) 1 (some 1) 2, .slc (some (H5.nxt + 1, 0)) 3 (some 3) 10, .int .i64 1, .slc (some (H5.nxt + 1 + 1, 0)) 2 (some 2) 2, .slc (some (H9.nxt, 0)) 4 (some 4) 10, .int .i64 2, .slc (some (H10.nxt, 0)) 3 (some 3) 2, .slc (some (H15.nxt, 0)) 4 (some 4) 10, .int .i64 2, .slc none 0 (some 0) 0, .slc (some (H16.nxt, 0)) 1 (some 1) 10, .int .i64 3, .slc (some (H17.nxt, 0)) 1 (some 1) 2, .slc (some (H18.nxt, 0)) 2 (some 2) 10, .int .i64 3, .slc (some (H19.nxt, 0)) 1 (some 1) 2, .slc (some (H20.nxt + 1 + 1, 0)) 2 (some 2) 10, .int .i64 3, .slc (some (H22.nxt, 0)) 3 (some 3) 2, .slc (some (H25.nxt, 0)) 3 (some 3) 10] true)).put (h.nxt + 1 + 1) (.cells [.slc (some (h.nxt + 1, 0)) 8 (some 8) 3, .slc (some (h.nxt + 1 + 1 + 1 + 1 + 1 + 1 + 1 + 1 + 1 + 1, 0)) 4 (some 4) 3, .slc (some (H25.nxt + 1, 0)) 7 (some 7) 3] true) := ⟨_, rfl⟩
  simp (disch := first | ((try simp only [heapN]) <;> omega) | fail) only [go_sem, seval, s25]
  rw [← hH26]
  have n26 : H26.nxt = H25.nxt + 2 := by rw [hH26]; simp
  have d_u6 : H26.get H25.nxt = some (.cells [.int .i64 2, .int .i64 0, .int .i64 x23.op, .int .i64 x23.kd, .int .i64 x23.i, .str x23.s, .slc x23.la x23.ln x23.lc x23.lz, .int .i64 x23.oc, .int .i64 x23.at_, .slc x23.xa x23.xn x23.xc x23.xz, .int .i64 0, .int .i64 1, .int .i64 x24.op, .int .i64 x24.kd, .int .i64 x24.i, .str x24.s, .slc x24.la x24.ln x24.lc x24.lz, .int .i64 x24.oc, .int .i64 x24.at_, .slc x24.xa x24.xn x24.xc x24.xz, .int .i64 0, .int .i64 2, .int .i64 x25.op, .int .i64 x25.kd, .int .i64 x25.i, .str x25.s, .slc x25.la x25.ln x25.lc x25.lz, .int .i64 x25.oc, .int .i64 x25.at_, .slc x25.xa x25.xn x25.xc x25.xz] true) := by rw [hH26]; simp (disch := first | ((try simp only [heapN]) <;> omega) | fail) only [get_add_eq, get_add_lt, get_put_eq, get_put_ne]
  have d_ps : H26.get (H25.nxt + 1) = some (.cells [.int .i64 0, .slc (some (h.nxt + 1 + 1 + 1 + 1 + 1 + 1 + 1 + 1 + 1 + 1 + 1, 0)) 1 (some 1) 2, .slc (some (H5.nxt + 1, 0)) 3 (some 3) 10, .int .i64 1, .slc (some (H5.nxt + 1 + 1, 0)) 2 (some 2) 2, .slc (some (H9.nxt, 0)) 4 (some 4) 10, .int .i64 2, .slc (some (H10.nxt, 0)) 3 (some 3) 2, .slc (some (H15.nxt, 0)) 4 (some 4) 10, .int .i64 2, .slc none 0 (some 0) 0, .slc (some (H16.nxt, 0)) 1 (some 1) 10, .int .i64 3, .slc (some (H17.nxt, 0)) 1 (some 1) 2, .slc (some (H18.nxt, 0)) 2 (some 2) 10, .int .i64 3, .slc (some (H19.nxt, 0)) 1 (some 1) 2, .slc (some (H20.nxt + 1 + 1, 0)) 2 (some 2) 10, .int .i64 3, .slc (some (H22.nxt, 0)) 3 (some 3) 2, .slc (some (H25.nxt, 0)) 3 (some 3) 10] true) := by rw [hH26]; simp (disch := first | ((try simp only [heapN]) <;> omega) | fail) only [get_add_eq, get_add_lt, get_put_eq, get_put_ne]
  have d_bx : H26.get (h.nxt + 1 + 1) = some (.cells [.slc (some (h.nxt + 1, 0)) 8 (some 8) 3, .slc (some (h.nxt + 1 + 1 + 1 + 1 + 1 + 1 + 1 + 1 + 1 + 1, 0)) 4 (some 4) 3, .slc (some (H25.nxt + 1, 0)) 7 (some 7) 3] true) := by rw [hH26]; simp (disch := first | ((try simp only [heapN]) <;> omega) | fail) only [get_add_eq, get_add_lt, get_put_eq, get_put_ne]
  have k26 : ∀ b, b < H25.nxt → b ≠ h.nxt + 1 + 1 → H26.get b = H25.get b := fun b h1 h2 => by rw [hH26]; simp (disch := first | ((try simp only [heapN]) <;> omega) | fail) only [get_add_eq, get_add_lt, get_put_eq, get_put_ne]
  have x26 : Ext h H26 := ⟨by have := X1.nxt; have := Y1.nxt; omega, fun b hb => (k26 b (by omega) (by omega)).trans ((X1.trans Y1).get b hb)⟩
  clear hH26 s25
  have d_bT := (k26 (h.nxt + 1) (by omega) (by omega)).trans ((Y1.get (h.nxt + 1) (by omega)).trans b1)
  have d_bA := (k26 (h.nxt + 1 + 1 + 1) (by omega) (by omega)).trans ((Y1.get (h.nxt + 1 + 1 + 1) (by omega)).trans b3)
  have d_bB := (k26 (h.nxt + 1 + 1 + 1 + 1) (by omega) (by omega)).trans ((Y1.get (h.nxt + 1 + 1 + 1 + 1) (by omega)).trans b4)
  have d_bC := (k26 (h.nxt + 1 + 1 + 1 + 1 + 1) (by omega) (by omega)).trans ((Y1.get (h.nxt + 1 + 1 + 1 + 1 + 1) (by omega)).trans b5)
  have d_bD := (k26 (h.nxt + 1 + 1 + 1 + 1 + 1 + 1) (by omega) (by omega)).trans ((Y1.get (h.nxt + 1 + 1 + 1 + 1 + 1 + 1) (by omega)).trans b6)
  have d_bE := (k26 (h.nxt + 1 + 1 + 1 + 1 + 1 + 1 + 1) (by omega) (by omega)).trans ((Y1.get (h.nxt + 1 + 1 + 1 + 1 + 1 + 1 + 1) (by omega)).trans b7)
  have d_bF := (k26 (h.nxt + 1 + 1 + 1 + 1 + 1 + 1 + 1 + 1) (by omega) (by omega)).trans ((Y1.get (h.nxt + 1 + 1 + 1 + 1 + 1 + 1 + 1 + 1) (by omega)).trans b8)
  have d_bG := (k26 (h.nxt + 1 + 1 + 1 + 1 + 1 + 1 + 1 + 1 + 1) (by omega) (by omega)).trans ((Y1.get (h.nxt + 1 + 1 + 1 + 1 + 1 + 1 + 1 + 1 + 1) (by omega)).trans b9)
  have d_bN := (k26 (h.nxt + 1 + 1 + 1 + 1 + 1 + 1 + 1 + 1 + 1 + 1) (by omega) (by omega)).trans ((Y1.get (h.nxt + 1 + 1 + 1 + 1 + 1 + 1 + 1 + 1 + 1 + 1) (by omega)).trans b10)
  have d_b0 := (k26 (h.nxt + 1 + 1 + 1 + 1 + 1 + 1 + 1 + 1 + 1 + 1 + 1) (by omega) (by omega)).trans ((Y1.get (h.nxt + 1 + 1 + 1 + 1 + 1 + 1 + 1 + 1 + 1 + 1 + 1) (by omega)).trans b11)
  have d_u0 := (k26 (H5.nxt + 1) (by omega) (by omega)).trans ((Y6.get (H5.nxt + 1) (by omega)).trans c6_1)
  have d_b1 := (k26 (H5.nxt + 1 + 1) (by omega) (by omega)).trans ((Y6.get (H5.nxt + 1 + 1) (by omega)).trans c6_2)
  have d_u1 := (k26 (H9.nxt) (by omega) (by omega)).trans ((Y10.get (H9.nxt) (by omega)).trans c10_0)
  have d_b2 := (k26 (H10.nxt) (by omega) (by omega)).trans ((Y11.get (H10.nxt) (by omega)).trans c11_0)
  have d_u2 := (k26 (H15.nxt) (by omega) (by omega)).trans ((Y16.get (H15.nxt) (by omega)).trans c16_0)
  have d_u3 := (k26 (H16.nxt) (by omega) (by omega)).trans ((Y17.get (H16.nxt) (by omega)).trans c17_0)
  have d_b4 := (k26 (H17.nxt) (by omega) (by omega)).trans ((Y18.get (H17.nxt) (by omega)).trans c18_0)
  have d_u4 := (k26 (H18.nxt) (by omega) (by omega)).trans ((Y19.get (H18.nxt) (by omega)).trans c19_0)
  have d_b5 := (k26 (H19.nxt) (by omega) (by omega)).trans ((Y20.get (H19.nxt) (by omega)).trans c20_0)
  have d_u5 := (k26 (H20.nxt + 1 + 1) (by omega) (by omega)).trans ((Y21.get (H20.nxt + 1 + 1) (by omega)).trans c21_2)
  have d_b6 := (k26 (H22.nxt) (by omega) (by omega)).trans ((Y23.get (H22.nxt) (by omega)).trans c23_0)
  have d_z := (k26 h.nxt (by omega) (by omega)).trans z25
  clear E1 E2 E3 E4 E5 E6 E7 E8 E9 E10 E11 E12 E13 E14 E15 E16 E17 E18 E19 E20 E21 E22 E23 E24 E25
  obtain ⟨r, hr⟩ : ∃ r : Nat, r = w % 4 := ⟨_, rfl⟩
  have ta : ((w : Nat) : Int).tmod 4 = (r : Nat) := by rw [hr]; exact (Int.ofNat_tmod w 4).symm
  have hr4 : r = 0 ∨ r = 1 ∨ r = 2 ∨ r = 3 := by omega
  rcases hr4 with rfl | rfl | rfl | rfl
  · simp (disch := first | ((try simp only [heapN]) <;> omega) | fail) only [go_sem, seval, ta, d_bx, d_z]
    obtain ⟨HF, hHF⟩ : ∃ HF, HF = H26.put h.nxt (.cells [.slc (some (h.nxt + 1, 0)) 8 (some 8) 3, .slc (some (h.nxt + 1 + 1 + 1 + 1 + 1 + 1 + 1 + 1 + 1 + 1, 0)) 4 (some 4) 3, .slc (some (H25.nxt + 1, 0)) 7 (some 7) 3] true) := ⟨_, rfl⟩
    rw [← hHF]
    have k9 : ∀ b, b ≠ h.nxt → b ≠ h.nxt → HF.get b = H26.get b := fun b h1 _ => by rw [hHF]; exact get_put_ne (fun e => h1 e.symm)
    have n9 : HF.nxt = H26.nxt := by rw [hHF]; simp
    have xF : Ext h HF := by rw [hHF]; exact x26.put (Nat.le_refl _)
    clear hHF
    have f_bT := (k9 (h.nxt + 1) (by omega) (by omega)).trans d_bT
    have f_bA := (k9 (h.nxt + 1 + 1 + 1) (by omega) (by omega)).trans d_bA
    have f_bB := (k9 (h.nxt + 1 + 1 + 1 + 1) (by omega) (by omega)).trans d_bB
    have f_bC := (k9 (h.nxt + 1 + 1 + 1 + 1 + 1) (by omega) (by omega)).trans d_bC
    have f_bD := (k9 (h.nxt + 1 + 1 + 1 + 1 + 1 + 1) (by omega) (by omega)).trans d_bD
    have f_bE := (k9 (h.nxt + 1 + 1 + 1 + 1 + 1 + 1 + 1) (by omega) (by omega)).trans d_bE
    have f_bF := (k9 (h.nxt + 1 + 1 + 1 + 1 + 1 + 1 + 1 + 1) (by omega) (by omega)).trans d_bF
    have f_bG := (k9 (h.nxt + 1 + 1 + 1 + 1 + 1 + 1 + 1 + 1 + 1) (by omega) (by omega)).trans d_bG
    have f_bN := (k9 (h.nxt + 1 + 1 + 1 + 1 + 1 + 1 + 1 + 1 + 1 + 1) (by omega) (by omega)).trans d_bN
    have f_b0 := (k9 (h.nxt + 1 + 1 + 1 + 1 + 1 + 1 + 1 + 1 + 1 + 1 + 1) (by omega) (by omega)).trans d_b0
    have f_b1 := (k9 (H5.nxt + 1 + 1) (by omega) (by omega)).trans d_b1
    have f_b2 := (k9 (H10.nxt) (by omega) (by omega)).trans d_b2
    have f_b4 := (k9 (H17.nxt) (by omega) (by omega)).trans d_b4
    have f_b5 := (k9 (H19.nxt) (by omega) (by omega)).trans d_b5
    have f_b6 := (k9 (H22.nxt) (by omega) (by omega)).trans d_b6
    have f_u0 := (k9 (H5.nxt + 1) (by omega) (by omega)).trans d_u0
    have f_u1 := (k9 (H9.nxt) (by omega) (by omega)).trans d_u1
    have f_u2 := (k9 (H15.nxt) (by omega) (by omega)).trans d_u2
    have f_u3 := (k9 (H16.nxt) (by omega) (by omega)).trans d_u3
    have f_u4 := (k9 (H18.nxt) (by omega) (by omega)).trans d_u4
    have f_u5 := (k9 (H20.nxt + 1 + 1) (by omega) (by omega)).trans d_u5
    have f_u6 := (k9 (H25.nxt) (by omega) (by omega)).trans d_u6
    have f_ps := (k9 (H25.nxt + 1) (by omega) (by omega)).trans d_ps
    obtain ⟨lT, lN, r0, r1, r2, r3, r4, r5, r6, RP⟩ := sums_fin (lo := h.nxt) (HF := HF) (bT := h.nxt + 1) (bA := h.nxt + 1 + 1 + 1) (bB := h.nxt + 1 + 1 + 1 + 1) (bC := h.nxt + 1 + 1 + 1 + 1 + 1) (bD := h.nxt + 1 + 1 + 1 + 1 + 1 + 1) (bE := h.nxt + 1 + 1 + 1 + 1 + 1 + 1 + 1) (bF := h.nxt + 1 + 1 + 1 + 1 + 1 + 1 + 1 + 1) (bG := h.nxt + 1 + 1 + 1 + 1 + 1 + 1 + 1 + 1 + 1) (bN := h.nxt + 1 + 1 + 1 + 1 + 1 + 1 + 1 + 1 + 1 + 1) (b0 := h.nxt + 1 + 1 + 1 + 1 + 1 + 1 + 1 + 1 + 1 + 1 + 1) (b1 := H5.nxt + 1 + 1) (b2 := H10.nxt) (b4 := H17.nxt) (b5 := H19.nxt) (b6 := H22.nxt) (u0 := H5.nxt + 1) (u1 := H9.nxt) (u2 := H15.nxt) (u3 := H16.nxt) (u4 := H18.nxt) (u5 := H20.nxt + 1 + 1) (u6 := H25.nxt) (fun b hb => by
      simp only [List.mem_cons, List.not_mem_nil, or_false] at hb
      omega) f_bT f_bA f_bB f_bC f_bD f_bE f_bF f_bG f_bN f_b0 f_b1 f_b2 f_b4 f_b5 f_b6 f_u0 ⟨rfl, rfl⟩ f_u1 ⟨rfl, rfl⟩ f_u2 ⟨rfl, rfl⟩ f_u3 ⟨rfl, rfl⟩ f_u4 ⟨rfl, rfl⟩ f_u5 ⟨rfl, rfl⟩ f_u6 ⟨rfl, rfl⟩
    have nF := frzF_nxt h.nxt HF
    refine hQ _ _ (frzF h.nxt HF) (frzF_le _ _) ⟨frzF_ext xF (Nat.le_refl _), ⟨sumsT, sumsN, sumsP r0 r1 r2 r3 r4 r5 r6⟩, ⟨_, _, _, rfl, lT, lN, lst_lit (ls := [[.int .i64 0, .slc (some (h.nxt + 1 + 1 + 1 + 1 + 1 + 1 + 1 + 1 + 1 + 1 + 1, 0)) 1 (some 1) 2, .slc (some (H5.nxt + 1, 0)) 3 (some 3) 10], [.int .i64 1, .slc (some (H5.nxt + 1 + 1, 0)) 2 (some 2) 2, .slc (some (H9.nxt, 0)) 4 (some 4) 10], [.int .i64 2, .slc (some (H10.nxt, 0)) 3 (some 3) 2, .slc (some (H15.nxt, 0)) 4 (some 4) 10], [.int .i64 2, .slc none 0 (some 0) 0, .slc (some (H16.nxt, 0)) 1 (some 1) 10], [.int .i64 3, .slc (some (H17.nxt, 0)) 1 (some 1) 2, .slc (some (H18.nxt, 0)) 2 (some 2) 10], [.int .i64 3, .slc (some (H19.nxt, 0)) 1 (some 1) 2, .slc (some (H20.nxt + 1 + 1, 0)) 2 (some 2) 10], [.int .i64 3, .slc (some (H22.nxt, 0)) 3 (some 3) 2, .slc (some (H25.nxt, 0)) 3 (some 3) 10]]) (by rw [nF]; omega) (frzF_get (by omega) (by omega) f_ps) rfl RP rfl rfl⟩, sums_may (by simp [sumsP]) fun p hp => ?_⟩
    simp only [sumsP, List.mem_cons, List.not_mem_nil, or_false] at hp
    rcases hp with rfl | rfl | rfl | rfl | rfl | rfl | rfl
    · exact prk0
    · exact prk1
    · exact prk2
    · exact prk3
    · exact prk4
    · exact prk5
    · exact prk6
  · simp (disch := first | ((try simp only [heapN]) <;> omega) | fail) only [go_sem, seval, ta, d_bx, d_z]
    refine DrawZ_of' (fun b => b = h.nxt + 1 + 1) [0, 1, 0, 4, 0, 0, 60, 12, 140, 140, 0, 652, 3724, 7820, 16012, 2700, 35468, 35468, 166540, 428684, 952972, 2001548, 4194188, 8388604, 16777212, 33554431, 67108863, 134217727] (by rfl) (by rfl) (fun b hb => by subst hb; omega) ?_
    simp (disch := first | ((try simp only [heapN]) <;> omega) | fail) only [go_sem, seval]
    refine LoadK_ofZ rfl rfl ?_
    simp (disch := first | ((try simp only [heapN]) <;> omega) | fail) only [go_sem, seval, d_bx]
    refine callV_ofU F_64 rfl ((tok_uf).mono ?_)
    rintro _ G1 ⟨y1, rfl⟩
    have j1 := y1.nxt
    simp only [bump_nxt] at j1
    have q1 : ∀ b, b < H26.nxt → G1.get b = H26.get b := fun b hb => (y1.get b (by simp; omega)).trans (bump_get ..)
    refine ⟨.inl fun b hb => q1 b (by subst hb; omega), ?_⟩
    simp (disch := first | ((try simp only [heapN]) <;> omega) | fail) only [go_sem, seval]
    refine callV_ofU F_64 rfl ((tok_uf).mono ?_)
    rintro _ G2 ⟨y2, rfl⟩
    have j2 := y2.nxt
    have q2 : ∀ b, b < H26.nxt → G2.get b = G1.get b := fun b hb => y2.get b (by omega)
    refine ⟨.inl fun b hb => q2 b (by subst hb; omega), ?_⟩
    simp (disch := first | ((try simp only [heapN]) <;> omega) | fail) only [go_sem, seval]
    refine callV_ofU F_63 rfl ((ref_uf).mono ?_)
    rintro _ G3 ⟨y3, z3, rfl⟩
    have j3 := y3.nxt
    have q3 : ∀ b, b < H26.nxt → G3.get b = G2.get b := fun b hb => y3.get b (by omega)
    refine ⟨.inl fun b hb => q3 b (by subst hb; omega), ?_⟩
    simp only [GEx.cells]
    simp (disch := first | ((try simp only [heapN]) <;> omega) | fail) only [go_sem, seval]
    refine callV_ofU F_63 rfl ((ref_uf).mono ?_)
    rintro _ G4 ⟨y4, z4, rfl⟩
    have j4 := y4.nxt
    have q4 : ∀ b, b < H26.nxt → G4.get b = G3.get b := fun b hb => y4.get b (by omega)
    refine ⟨.inl fun b hb => q4 b (by subst hb; omega), ?_⟩
    simp only [GEx.cells]
    simp (disch := first | ((try simp only [heapN]) <;> omega) | fail) only [go_sem, seval]
    refine callV_ofU F_63 rfl ((ref_uf).mono ?_)
    rintro _ G5 ⟨y5, z5, rfl⟩
    have j5 := y5.nxt
    have q5 : ∀ b, b < H26.nxt → G5.get b = G4.get b := fun b hb => y5.get b (by omega)
    refine ⟨.inl fun b hb => q5 b (by subst hb; omega), ?_⟩
    simp only [GEx.cells]
    simp (disch := first | ((try simp only [heapN]) <;> omega) | fail) only [go_sem, seval]
    refine callV_ofU F_63 rfl ((ref_uf).mono ?_)
    rintro _ G6 ⟨y6, z6, rfl⟩
    have j6 := y6.nxt
    have q6 : ∀ b, b < H26.nxt → G6.get b = G5.get b := fun b hb => y6.get b (by omega)
    refine ⟨.inl fun b hb => q6 b (by subst hb; omega), ?_⟩
    simp only [GEx.cells]
    simp (disch := first | ((try simp only [heapN]) <;> omega) | fail) only [go_sem, seval]
    refine callV_ofU F_63 rfl ((ref_uf).mono ?_)
    rintro _ G7 ⟨y7, z7, rfl⟩
    have j7 := y7.nxt
    have q7 : ∀ b, b < H26.nxt → G7.get b = G6.get b := fun b hb => y7.get b (by omega)
    refine ⟨.inl fun b hb => q7 b (by subst hb; omega), ?_⟩
    simp only [GEx.cells]
    simp (disch := first | ((try simp only [heapN]) <;> omega) | fail) only [go_sem, seval]
    refine callV_ofU F_63 rfl ((ref_uf).mono ?_)
    rintro _ G8 ⟨y8, z8, rfl⟩
    have j8 := y8.nxt
    have q8 : ∀ b, b < H26.nxt → G8.get b = G7.get b := fun b hb => y8.get b (by omega)
    refine ⟨.inl fun b hb => q8 b (by subst hb; omega), ?_⟩
    simp only [GEx.cells]
    simp (disch := first | ((try simp only [heapN]) <;> omega) | fail) only [go_sem, seval]
    obtain ⟨GA, hGA⟩ : ∃ GA, GA = ((((G8.put (H26.nxt + 6) (.cells [.bool true, .int .i64 7, .bool true, .int .i64 1, .bool false, .int .i64 3, .bool false, .int .i64 3] true)).put (H26.nxt + 12) (.cells [.int .i64 z4.op, .int .i64 z4.kd, .int .i64 z4.i, .str z4.s, .slc z4.la z4.ln z4.lc z4.lz, .int .i64 z4.oc, .int .i64 z4.at_, .slc z4.xa z4.xn z4.xc z4.xz, .int .i64 2, .int .i64 0, .int .i64 0, .str [], .slc none 0 (some 0) 0, .int .i64 2, .int .i64 0, .slc none 0 (some 0) 0, .int .i64 z5.op, .int .i64 z5.kd, .int .i64 z5.i, .str z5.s, .slc z5.la z5.ln z5.lc z5.lz, .int .i64 z5.oc, .int .i64 z5.at_, .slc z5.xa z5.xn z5.xc z5.xz] true)).put (H26.nxt + 19) (.cells [.int .i64 z7.op, .int .i64 z7.kd, .int .i64 z7.i, .str z7.s, .slc z7.la z7.ln z7.lc z7.lz, .int .i64 z7.oc, .int .i64 z7.at_, .slc z7.xa z7.xn z7.xc z7.xz, .int .i64 z8.op, .int .i64 z8.kd, .int .i64 z8.i, .str z8.s, .slc z8.la z8.ln z8.lc z8.lz, .int .i64 z8.oc, .int .i64 z8.at_, .slc z8.xa z8.xn z8.xc z8.xz] true)).put (H26.nxt + 22) (.cells [.int .i64 3, .int .i64 0, .int .i64 z3.op, .int .i64 z3.kd, .int .i64 z3.i, .str z3.s, .slc z3.la z3.ln z3.lc z3.lz, .int .i64 z3.oc, .int .i64 z3.at_, .slc z3.xa z3.xn z3.xc z3.xz, .int .i64 4, .int .i64 0, .int .i64 16, .int .i64 0, .int .i64 0, .str [], .slc none 0 (some 0) 0, .int .i64 0, .int .i64 0, .slc (some (H26.nxt + 12, 0)) 3 (some 3) 8, .int .i64 0, .int .i64 1, .int .i64 z6.op, .int .i64 z6.kd, .int .i64 z6.i, .str z6.s, .slc z6.la z6.ln z6.lc z6.lz, .int .i64 z6.oc, .int .i64 z6.at_, .slc z6.xa z6.xn z6.xc z6.xz, .int .i64 0, .int .i64 2, .int .i64 4, .int .i64 0, .int .i64 0, .str [], .slc none 0 (some 0) 0, .int .i64 0, .int .i64 0, .slc (some (H26.nxt + 19, 0)) 2 (some 2) 8] true)).put (H26.nxt + 24) (.cells [.int .i64 3, .slc (some (H26.nxt + 6, 0)) 4 (some 4) 2, .slc (some (H26.nxt + 22, 0)) 4 (some 4) 10] true) := ⟨_, rfl⟩
    rw [← hGA]
    have nA : GA.nxt = G8.nxt := by rw [hGA]; simp
    have kA : ∀ b, b < H26.nxt → GA.get b = H26.get b := fun b hb => by
      rw [hGA, get_put_ne (by omega), get_put_ne (by omega), get_put_ne (by omega), get_put_ne (by omega), get_put_ne (by omega), q8 b hb, q7 b hb, q6 b hb, q5 b hb, q4 b hb, q3 b hb, q2 b hb, q1 b hb]
    have a6 : GA.get (H26.nxt + 6) = some (.cells [.bool true, .int .i64 7, .bool true, .int .i64 1, .bool false, .int .i64 3, .bool false, .int .i64 3] true) := by rw [hGA, get_put_ne (by omega), get_put_ne (by omega), get_put_ne (by omega), get_put_ne (by omega), get_put_self]
    have a22 : GA.get (H26.nxt + 22) = some (.cells [.int .i64 3, .int .i64 0, .int .i64 z3.op, .int .i64 z3.kd, .int .i64 z3.i, .str z3.s, .slc z3.la z3.ln z3.lc z3.lz, .int .i64 z3.oc, .int .i64 z3.at_, .slc z3.xa z3.xn z3.xc z3.xz, .int .i64 4, .int .i64 0, .int .i64 16, .int .i64 0, .int .i64 0, .str [], .slc none 0 (some 0) 0, .int .i64 0, .int .i64 0, .slc (some (H26.nxt + 12, 0)) 3 (some 3) 8, .int .i64 0, .int .i64 1, .int .i64 z6.op, .int .i64 z6.kd, .int .i64 z6.i, .str z6.s, .slc z6.la z6.ln z6.lc z6.lz, .int .i64 z6.oc, .int .i64 z6.at_, .slc z6.xa z6.xn z6.xc z6.xz, .int .i64 0, .int .i64 2, .int .i64 4, .int .i64 0, .int .i64 0, .str [], .slc none 0 (some 0) 0, .int .i64 0, .int .i64 0, .slc (some (H26.nxt + 19, 0)) 2 (some 2) 8] true) := by rw [hGA, get_put_ne (by omega), get_put_self]
    have a24 : GA.get (H26.nxt + 24) = some (.cells [.int .i64 3, .slc (some (H26.nxt + 6, 0)) 4 (some 4) 2, .slc (some (H26.nxt + 22, 0)) 4 (some 4) 10] true) := by rw [hGA, get_put_self]
    clear hGA
    have aps := (kA (H25.nxt + 1) (by omega)).trans d_ps
    have rps : Reps GA (([[.int .i64 0, .slc (some (h.nxt + 1 + 1 + 1 + 1 + 1 + 1 + 1 + 1 + 1 + 1 + 1, 0)) 1 (some 1) 2, .slc (some (H5.nxt + 1, 0)) 3 (some 3) 10], [.int .i64 1, .slc (some (H5.nxt + 1 + 1, 0)) 2 (some 2) 2, .slc (some (H9.nxt, 0)) 4 (some 4) 10], [.int .i64 2, .slc (some (H10.nxt, 0)) 3 (some 3) 2, .slc (some (H15.nxt, 0)) 4 (some 4) 10], [.int .i64 2, .slc none 0 (some 0) 0, .slc (some (H16.nxt, 0)) 1 (some 1) 10], [.int .i64 3, .slc (some (H17.nxt, 0)) 1 (some 1) 2, .slc (some (H18.nxt, 0)) 2 (some 2) 10], [.int .i64 3, .slc (some (H19.nxt, 0)) 1 (some 1) 2, .slc (some (H20.nxt + 1 + 1, 0)) 2 (some 2) 10], [.int .i64 3, .slc (some (H22.nxt, 0)) 3 (some 3) 2, .slc (some (H25.nxt, 0)) 3 (some 3) 10]] : List (List AV)).map (Opq.mk (n := 3))) [[.int .i64 0, .slc (some (h.nxt + 1 + 1 + 1 + 1 + 1 + 1 + 1 + 1 + 1 + 1 + 1, 0)) 1 (some 1) 2, .slc (some (H5.nxt + 1, 0)) 3 (some 3) 10], [.int .i64 1, .slc (some (H5.nxt + 1 + 1, 0)) 2 (some 2) 2, .slc (some (H9.nxt, 0)) 4 (some 4) 10], [.int .i64 2, .slc (some (H10.nxt, 0)) 3 (some 3) 2, .slc (some (H15.nxt, 0)) 4 (some 4) 10], [.int .i64 2, .slc none 0 (some 0) 0, .slc (some (H16.nxt, 0)) 1 (some 1) 10], [.int .i64 3, .slc (some (H17.nxt, 0)) 1 (some 1) 2, .slc (some (H18.nxt, 0)) 2 (some 2) 10], [.int .i64 3, .slc (some (H19.nxt, 0)) 1 (some 1) 2, .slc (some (H20.nxt + 1 + 1, 0)) 2 (some 2) 10], [.int .i64 3, .slc (some (H22.nxt, 0)) 3 (some 3) 2, .slc (some (H25.nxt, 0)) 3 (some 3) 10]] := .cons (α := Opq 3) ⟨rfl, rfl, rfl⟩ (.cons (α := Opq 3) ⟨rfl, rfl, rfl⟩ (.cons (α := Opq 3) ⟨rfl, rfl, rfl⟩ (.cons (α := Opq 3) ⟨rfl, rfl, rfl⟩ (.cons (α := Opq 3) ⟨rfl, rfl, rfl⟩ (.cons (α := Opq 3) ⟨rfl, rfl, rfl⟩ (.cons (α := Opq 3) ⟨rfl, rfl, rfl⟩ (.nil)))))))
    refine lappend (α := Opq 3) (m := H26.nxt) (xs := ([[.int .i64 0, .slc (some (h.nxt + 1 + 1 + 1 + 1 + 1 + 1 + 1 + 1 + 1 + 1 + 1, 0)) 1 (some 1) 2, .slc (some (H5.nxt + 1, 0)) 3 (some 3) 10], [.int .i64 1, .slc (some (H5.nxt + 1 + 1, 0)) 2 (some 2) 2, .slc (some (H9.nxt, 0)) 4 (some 4) 10], [.int .i64 2, .slc (some (H10.nxt, 0)) 3 (some 3) 2, .slc (some (H15.nxt, 0)) 4 (some 4) 10], [.int .i64 2, .slc none 0 (some 0) 0, .slc (some (H16.nxt, 0)) 1 (some 1) 10], [.int .i64 3, .slc (some (H17.nxt, 0)) 1 (some 1) 2, .slc (some (H18.nxt, 0)) 2 (some 2) 10], [.int .i64 3, .slc (some (H19.nxt, 0)) 1 (some 1) 2, .slc (some (H20.nxt + 1 + 1, 0)) 2 (some 2) 10], [.int .i64 3, .slc (some (H22.nxt, 0)) 3 (some 3) 2, .slc (some (H25.nxt, 0)) 3 (some 3) 10]] : List (List AV)).map Opq.mk) (ys := [⟨[.int .i64 3, .slc (some (H26.nxt + 6, 0)) 4 (some 4) 2, .slc (some (H26.nxt + 22, 0)) 4 (some 4) 10]⟩]) T_48 rfl T_63 rfl (by decide) (by decide) ⟨[[.int .i64 0, .slc (some (h.nxt + 1 + 1 + 1 + 1 + 1 + 1 + 1 + 1 + 1 + 1 + 1, 0)) 1 (some 1) 2, .slc (some (H5.nxt + 1, 0)) 3 (some 3) 10], [.int .i64 1, .slc (some (H5.nxt + 1 + 1, 0)) 2 (some 2) 2, .slc (some (H9.nxt, 0)) 4 (some 4) 10], [.int .i64 2, .slc (some (H10.nxt, 0)) 3 (some 3) 2, .slc (some (H15.nxt, 0)) 4 (some 4) 10], [.int .i64 2, .slc none 0 (some 0) 0, .slc (some (H16.nxt, 0)) 1 (some 1) 10], [.int .i64 3, .slc (some (H17.nxt, 0)) 1 (some 1) 2, .slc (some (H18.nxt, 0)) 2 (some 2) 10], [.int .i64 3, .slc (some (H19.nxt, 0)) 1 (some 1) 2, .slc (some (H20.nxt + 1 + 1, 0)) 2 (some 2) 10], [.int .i64 3, .slc (some (H22.nxt, 0)) 3 (some 3) 2, .slc (some (H25.nxt, 0)) 3 (some 3) 10]], .inr (.inl ⟨by simp, Slc.lit' (ls := [[.int .i64 0, .slc (some (h.nxt + 1 + 1 + 1 + 1 + 1 + 1 + 1 + 1 + 1 + 1 + 1, 0)) 1 (some 1) 2, .slc (some (H5.nxt + 1, 0)) 3 (some 3) 10], [.int .i64 1, .slc (some (H5.nxt + 1 + 1, 0)) 2 (some 2) 2, .slc (some (H9.nxt, 0)) 4 (some 4) 10], [.int .i64 2, .slc (some (H10.nxt, 0)) 3 (some 3) 2, .slc (some (H15.nxt, 0)) 4 (some 4) 10], [.int .i64 2, .slc none 0 (some 0) 0, .slc (some (H16.nxt, 0)) 1 (some 1) 10], [.int .i64 3, .slc (some (H17.nxt, 0)) 1 (some 1) 2, .slc (some (H18.nxt, 0)) 2 (some 2) 10], [.int .i64 3, .slc (some (H19.nxt, 0)) 1 (some 1) 2, .slc (some (H20.nxt + 1 + 1, 0)) 2 (some 2) 10], [.int .i64 3, .slc (some (H22.nxt, 0)) 3 (some 3) 2, .slc (some (H25.nxt, 0)) 3 (some 3) 10]]) (by omega) aps rps.lens, _, _, rfl⟩), rps⟩ (LSlc.lit (b := H26.nxt + 24) (ls := [[.int .i64 3, .slc (some (H26.nxt + 6, 0)) 4 (some 4) 2, .slc (some (H26.nxt + 22, 0)) 4 (some 4) 10]]) (by omega) a24 rfl (Reps.one (α := Opq 3) ⟨rfl, rfl, rfl⟩) rfl rfl) (by omega) (by simp [roomA]) ?_
    intro v9 h9 n9' g9 _ c9 _
    rcases c9 with ⟨c9, _⟩ | ⟨LF, bF⟩
    · cases c9
    obtain ⟨va, vn, vc, vz, rfl, _⟩ := LF.form
    have k9' : ∀ b, b < GA.nxt → h9.get b = GA.get b := fun b hb => g9 b hb (by simp [AV.blk])
    have bx9 := (k9' (h.nxt + 1 + 1) (by omega)).trans ((kA _ (by omega)).trans d_bx)
    have dz9 := (k9' h.nxt (by omega)).trans ((kA _ (by omega)).trans d_z)
    simp (disch := first | ((try simp only [heapN]) <;> omega) | fail) only [go_sem, seval]
    refine ⟨.inl fun b hb => by subst hb; exact (k9' _ (by omega)).trans ((kA _ (by omega)).trans (by rw [q8 _ (by omega), q7 _ (by omega), q6 _ (by omega), q5 _ (by omega), q4 _ (by omega), q3 _ (by omega), q2 _ (by omega), q1 _ (by omega)])), ?_⟩
    simp (disch := first | ((try simp only [heapN]) <;> omega) | fail) only [go_sem, seval, bx9, dz9]
    refine ⟨.inr (by rfl), ?_⟩
    try simp (disch := first | ((try simp only [heapN]) <;> omega) | fail) only [go_sem, seval, dz9]
    obtain ⟨HF, hHF⟩ : ∃ HF, HF = (h9.put (h.nxt + 1 + 1) (.cells [.slc (some (h.nxt + 1, 0)) 8 (some 8) 3, .slc (some (h.nxt + 1 + 1 + 1 + 1 + 1 + 1 + 1 + 1 + 1 + 1, 0)) 4 (some 4) 3, .slc va vn vc vz] true)).put h.nxt (.cells [.slc (some (h.nxt + 1, 0)) 8 (some 8) 3, .slc (some (h.nxt + 1 + 1 + 1 + 1 + 1 + 1 + 1 + 1 + 1 + 1, 0)) 4 (some 4) 3, .slc va vn vc vz] true) := ⟨_, rfl⟩
    rw [← hHF]
    have k9 : ∀ b, b ≠ h.nxt → b ≠ h.nxt + 1 + 1 → b < GA.nxt → HF.get b = GA.get b := fun b h1 h2 h3 => by rw [hHF]; exact ((get_put_ne (fun e => h1 e.symm)).trans (get_put_ne (fun e => h2 e.symm))).trans (k9' b h3)
    have nF9 : HF.nxt = h9.nxt := by rw [hHF]; simp
    have uF : Upd (fun b => b = h.nxt ∨ b = h.nxt + 1 + 1) h9 HF := by
      rw [hHF]
      exact (Upd.put _ (.inr rfl) fun cs e => by rw [bx9] at e; simp at e).trans (Upd.put _ (.inl rfl) fun cs e => by rw [get_put_ne (by omega), dz9] at e; simp at e)
    have xF : Ext h HF := ⟨by omega, fun b hb => (uF.get b (by omega) (by omega)).trans ((k9' b (by omega)).trans ((kA b (by omega)).trans (x26.get b hb)))⟩
    have LFF : LFresh H26.nxt HF (.slc va vn vc vz) _ := LF.upd uF fun b hb _ e => by omega
    clear hHF
    have f_bT := (k9 (h.nxt + 1) (by omega) (by omega) (by omega)).trans ((kA _ (by omega)).trans d_bT)
    have f_bA := (k9 (h.nxt + 1 + 1 + 1) (by omega) (by omega) (by omega)).trans ((kA _ (by omega)).trans d_bA)
    have f_bB := (k9 (h.nxt + 1 + 1 + 1 + 1) (by omega) (by omega) (by omega)).trans ((kA _ (by omega)).trans d_bB)
    have f_bC := (k9 (h.nxt + 1 + 1 + 1 + 1 + 1) (by omega) (by omega) (by omega)).trans ((kA _ (by omega)).trans d_bC)
    have f_bD := (k9 (h.nxt + 1 + 1 + 1 + 1 + 1 + 1) (by omega) (by omega) (by omega)).trans ((kA _ (by omega)).trans d_bD)
    have f_bE := (k9 (h.nxt + 1 + 1 + 1 + 1 + 1 + 1 + 1) (by omega) (by omega) (by omega)).trans ((kA _ (by omega)).trans d_bE)
    have f_bF := (k9 (h.nxt + 1 + 1 + 1 + 1 + 1 + 1 + 1 + 1) (by omega) (by omega) (by omega)).trans ((kA _ (by omega)).trans d_bF)
    have f_bG := (k9 (h.nxt + 1 + 1 + 1 + 1 + 1 + 1 + 1 + 1 + 1) (by omega) (by omega) (by omega)).trans ((kA _ (by omega)).trans d_bG)
    have f_bN := (k9 (h.nxt + 1 + 1 + 1 + 1 + 1 + 1 + 1 + 1 + 1 + 1) (by omega) (by omega) (by omega)).trans ((kA _ (by omega)).trans d_bN)
    have f_b0 := (k9 (h.nxt + 1 + 1 + 1 + 1 + 1 + 1 + 1 + 1 + 1 + 1 + 1) (by omega) (by omega) (by omega)).trans ((kA _ (by omega)).trans d_b0)
    have f_b1 := (k9 (H5.nxt + 1 + 1) (by omega) (by omega) (by omega)).trans ((kA _ (by omega)).trans d_b1)
    have f_b2 := (k9 (H10.nxt) (by omega) (by omega) (by omega)).trans ((kA _ (by omega)).trans d_b2)
    have f_b4 := (k9 (H17.nxt) (by omega) (by omega) (by omega)).trans ((kA _ (by omega)).trans d_b4)
    have f_b5 := (k9 (H19.nxt) (by omega) (by omega) (by omega)).trans ((kA _ (by omega)).trans d_b5)
    have f_b6 := (k9 (H22.nxt) (by omega) (by omega) (by omega)).trans ((kA _ (by omega)).trans d_b6)
    have f_u0 := (k9 (H5.nxt + 1) (by omega) (by omega) (by omega)).trans ((kA _ (by omega)).trans d_u0)
    have f_u1 := (k9 (H9.nxt) (by omega) (by omega) (by omega)).trans ((kA _ (by omega)).trans d_u1)
    have f_u2 := (k9 (H15.nxt) (by omega) (by omega) (by omega)).trans ((kA _ (by omega)).trans d_u2)
    have f_u3 := (k9 (H16.nxt) (by omega) (by omega) (by omega)).trans ((kA _ (by omega)).trans d_u3)
    have f_u4 := (k9 (H18.nxt) (by omega) (by omega) (by omega)).trans ((kA _ (by omega)).trans d_u4)
    have f_u5 := (k9 (H20.nxt + 1 + 1) (by omega) (by omega) (by omega)).trans ((kA _ (by omega)).trans d_u5)
    have f_u6 := (k9 (H25.nxt) (by omega) (by omega) (by omega)).trans ((kA _ (by omega)).trans d_u6)
    have f6 := (k9 _ (by omega) (by omega) (by omega)).trans a6
    have f22 := (k9 _ (by omega) (by omega) (by omega)).trans a22
    obtain ⟨lT, lN, r0, r1, r2, r3, r4, r5, r6, RP⟩ := sums_fin (lo := h.nxt) (HF := HF) (bT := h.nxt + 1) (bA := h.nxt + 1 + 1 + 1) (bB := h.nxt + 1 + 1 + 1 + 1) (bC := h.nxt + 1 + 1 + 1 + 1 + 1) (bD := h.nxt + 1 + 1 + 1 + 1 + 1 + 1) (bE := h.nxt + 1 + 1 + 1 + 1 + 1 + 1 + 1) (bF := h.nxt + 1 + 1 + 1 + 1 + 1 + 1 + 1 + 1) (bG := h.nxt + 1 + 1 + 1 + 1 + 1 + 1 + 1 + 1 + 1) (bN := h.nxt + 1 + 1 + 1 + 1 + 1 + 1 + 1 + 1 + 1 + 1) (b0 := h.nxt + 1 + 1 + 1 + 1 + 1 + 1 + 1 + 1 + 1 + 1 + 1) (b1 := H5.nxt + 1 + 1) (b2 := H10.nxt) (b4 := H17.nxt) (b5 := H19.nxt) (b6 := H22.nxt) (u0 := H5.nxt + 1) (u1 := H9.nxt) (u2 := H15.nxt) (u3 := H16.nxt) (u4 := H18.nxt) (u5 := H20.nxt + 1 + 1) (u6 := H25.nxt) (fun b hb => by
      simp only [List.mem_cons, List.not_mem_nil, or_false] at hb
      omega) f_bT f_bA f_bB f_bC f_bD f_bE f_bF f_bG f_bN f_b0 f_b1 f_b2 f_b4 f_b5 f_b6 f_u0 ⟨rfl, rfl⟩ f_u1 ⟨rfl, rfl⟩ f_u2 ⟨rfl, rfl⟩ f_u3 ⟨rfl, rfl⟩ f_u4 ⟨rfl, rfl⟩ f_u5 ⟨rfl, rfl⟩ f_u6 ⟨rfl, rfl⟩
    have nF := frzF_nxt h.nxt HF
    have T7 : Lst (frzF h.nxt HF) (.slc (some (H26.nxt + 6, 0)) 4 (some 4) 2) ([⟨true, 7⟩, ⟨true, 1⟩, ⟨false, 3⟩, ⟨false, 3⟩] : List GSym) := lst_lit (ls := [[.bool true, .int .i64 7], [.bool true, .int .i64 1], [.bool false, .int .i64 3], [.bool false, .int .i64 3]]) (by rw [nF]; omega) (frzF_get (by omega) (by omega) f6) rfl (.cons rfl (.cons rfl (.cons rfl (.cons rfl .nil)))) rfl rfl
    obtain ⟨r7, U7⟩ := opq_lst (n := 4) (b := H26.nxt + 22) (by rw [nF]; omega) (frzF_get (by omega) (by omega) f22) rfl rfl
    refine hQ _ _ (frzF h.nxt HF) (frzF_le _ _) ⟨frzF_ext xF (Nat.le_refl _), ⟨sumsT, sumsN, sumsP r0 r1 r2 r3 r4 r5 r6 ++ [⟨3, [⟨true, 7⟩, ⟨true, 1⟩, ⟨false, 3⟩, ⟨false, 3⟩], r7⟩]⟩, ⟨_, _, _, rfl, lT, lN, lst_unopq (n := 3) (fresh_frz LFF (by omega)) (RP.app (Reps.one (x := (⟨3, [⟨true, 7⟩, ⟨true, 1⟩, ⟨false, 3⟩, ⟨false, 3⟩], r7⟩ : GProd)) ⟨_, _, rfl, T7, U7⟩)) rfl⟩, sums_may (by simp [sumsP]) fun p hp => ?_⟩
    simp only [sumsP, List.mem_append, List.mem_cons, List.not_mem_nil, or_false] at hp
    rcases hp with (rfl | rfl | rfl | rfl | rfl | rfl | rfl) | rfl
    · exact prk0
    · exact prk1
    · exact prk2
    · exact prk3
    · exact prk4
    · exact prk5
    · exact prk6
    · exact prk7
  · simp (disch := first | ((try simp only [heapN]) <;> omega) | fail) only [go_sem, seval, ta, d_bx, d_z, d_ps, d_u2]
    have key : ∀ C : List AV, C.length = 4 * 10 ∧ C.all AV.leaf = true → Q (.agg [.slc (some (h.nxt + 1, 0)) 8 (some 8) 3, .slc (some (h.nxt + 1 + 1 + 1 + 1 + 1 + 1 + 1 + 1 + 1 + 1, 0)) 4 (some 4) 3, .slc (some (H25.nxt + 1, 0)) 7 (some 7) 3]) ((H26.put (H15.nxt) (.cells C true)).put h.nxt (.cells [.slc (some (h.nxt + 1, 0)) 8 (some 8) 3, .slc (some (h.nxt + 1 + 1 + 1 + 1 + 1 + 1 + 1 + 1 + 1 + 1, 0)) 4 (some 4) 3, .slc (some (H25.nxt + 1, 0)) 7 (some 7) 3] true)) := fun C hC => by
      obtain ⟨HF, hHF⟩ : ∃ HF, HF = (H26.put (H15.nxt) (.cells C true)).put h.nxt (.cells [.slc (some (h.nxt + 1, 0)) 8 (some 8) 3, .slc (some (h.nxt + 1 + 1 + 1 + 1 + 1 + 1 + 1 + 1 + 1 + 1, 0)) 4 (some 4) 3, .slc (some (H25.nxt + 1, 0)) 7 (some 7) 3] true) := ⟨_, rfl⟩
      rw [← hHF]
      have k9 : ∀ b, b ≠ h.nxt → b ≠ H15.nxt → HF.get b = H26.get b := fun b h1 h2 => by rw [hHF]; exact (get_put_ne (fun e => h1 e.symm)).trans (get_put_ne (fun e => h2 e.symm))
      have f_u2 : HF.get (H15.nxt) = some (.cells C true) := by rw [hHF]; exact (get_put_ne (by omega)).trans get_put_self
      have n9 : HF.nxt = H26.nxt := by rw [hHF]; simp
      have xF : Ext h HF := by rw [hHF]; exact (x26.put (by omega)).put (Nat.le_refl _)
      clear hHF
      have f_bT := (k9 (h.nxt + 1) (by omega) (by omega)).trans d_bT
      have f_bA := (k9 (h.nxt + 1 + 1 + 1) (by omega) (by omega)).trans d_bA
      have f_bB := (k9 (h.nxt + 1 + 1 + 1 + 1) (by omega) (by omega)).trans d_bB
      have f_bC := (k9 (h.nxt + 1 + 1 + 1 + 1 + 1) (by omega) (by omega)).trans d_bC
      have f_bD := (k9 (h.nxt + 1 + 1 + 1 + 1 + 1 + 1) (by omega) (by omega)).trans d_bD
      have f_bE := (k9 (h.nxt + 1 + 1 + 1 + 1 + 1 + 1 + 1) (by omega) (by omega)).trans d_bE
      have f_bF := (k9 (h.nxt + 1 + 1 + 1 + 1 + 1 + 1 + 1 + 1) (by omega) (by omega)).trans d_bF
      have f_bG := (k9 (h.nxt + 1 + 1 + 1 + 1 + 1 + 1 + 1 + 1 + 1) (by omega) (by omega)).trans d_bG
      have f_bN := (k9 (h.nxt + 1 + 1 + 1 + 1 + 1 + 1 + 1 + 1 + 1 + 1) (by omega) (by omega)).trans d_bN
      have f_b0 := (k9 (h.nxt + 1 + 1 + 1 + 1 + 1 + 1 + 1 + 1 + 1 + 1 + 1) (by omega) (by omega)).trans d_b0
      have f_b1 := (k9 (H5.nxt + 1 + 1) (by omega) (by omega)).trans d_b1
      have f_b2 := (k9 (H10.nxt) (by omega) (by omega)).trans d_b2
      have f_b4 := (k9 (H17.nxt) (by omega) (by omega)).trans d_b4
      have f_b5 := (k9 (H19.nxt) (by omega) (by omega)).trans d_b5
      have f_b6 := (k9 (H22.nxt) (by omega) (by omega)).trans d_b6
      have f_u0 := (k9 (H5.nxt + 1) (by omega) (by omega)).trans d_u0
      have f_u1 := (k9 (H9.nxt) (by omega) (by omega)).trans d_u1
      have f_u3 := (k9 (H16.nxt) (by omega) (by omega)).trans d_u3
      have f_u4 := (k9 (H18.nxt) (by omega) (by omega)).trans d_u4
      have f_u5 := (k9 (H20.nxt + 1 + 1) (by omega) (by omega)).trans d_u5
      have f_u6 := (k9 (H25.nxt) (by omega) (by omega)).trans d_u6
      have f_ps := (k9 (H25.nxt + 1) (by omega) (by omega)).trans d_ps
      obtain ⟨lT, lN, r0, r1, r2, r3, r4, r5, r6, RP⟩ := sums_fin (lo := h.nxt) (HF := HF) (bT := h.nxt + 1) (bA := h.nxt + 1 + 1 + 1) (bB := h.nxt + 1 + 1 + 1 + 1) (bC := h.nxt + 1 + 1 + 1 + 1 + 1) (bD := h.nxt + 1 + 1 + 1 + 1 + 1 + 1) (bE := h.nxt + 1 + 1 + 1 + 1 + 1 + 1 + 1) (bF := h.nxt + 1 + 1 + 1 + 1 + 1 + 1 + 1 + 1) (bG := h.nxt + 1 + 1 + 1 + 1 + 1 + 1 + 1 + 1 + 1) (bN := h.nxt + 1 + 1 + 1 + 1 + 1 + 1 + 1 + 1 + 1 + 1) (b0 := h.nxt + 1 + 1 + 1 + 1 + 1 + 1 + 1 + 1 + 1 + 1 + 1) (b1 := H5.nxt + 1 + 1) (b2 := H10.nxt) (b4 := H17.nxt) (b5 := H19.nxt) (b6 := H22.nxt) (u0 := H5.nxt + 1) (u1 := H9.nxt) (u2 := H15.nxt) (u3 := H16.nxt) (u4 := H18.nxt) (u5 := H20.nxt + 1 + 1) (u6 := H25.nxt) (fun b hb => by
        simp only [List.mem_cons, List.not_mem_nil, or_false] at hb
        omega) f_bT f_bA f_bB f_bC f_bD f_bE f_bF f_bG f_bN f_b0 f_b1 f_b2 f_b4 f_b5 f_b6 f_u0 ⟨rfl, rfl⟩ f_u1 ⟨rfl, rfl⟩ f_u2 hC f_u3 ⟨rfl, rfl⟩ f_u4 ⟨rfl, rfl⟩ f_u5 ⟨rfl, rfl⟩ f_u6 ⟨rfl, rfl⟩
      have nF := frzF_nxt h.nxt HF
      refine hQ _ _ (frzF h.nxt HF) (frzF_le _ _) ⟨frzF_ext xF (Nat.le_refl _), ⟨sumsT, sumsN, sumsP r0 r1 r2 r3 r4 r5 r6⟩, ⟨_, _, _, rfl, lT, lN, lst_lit (ls := [[.int .i64 0, .slc (some (h.nxt + 1 + 1 + 1 + 1 + 1 + 1 + 1 + 1 + 1 + 1 + 1, 0)) 1 (some 1) 2, .slc (some (H5.nxt + 1, 0)) 3 (some 3) 10], [.int .i64 1, .slc (some (H5.nxt + 1 + 1, 0)) 2 (some 2) 2, .slc (some (H9.nxt, 0)) 4 (some 4) 10], [.int .i64 2, .slc (some (H10.nxt, 0)) 3 (some 3) 2, .slc (some (H15.nxt, 0)) 4 (some 4) 10], [.int .i64 2, .slc none 0 (some 0) 0, .slc (some (H16.nxt, 0)) 1 (some 1) 10], [.int .i64 3, .slc (some (H17.nxt, 0)) 1 (some 1) 2, .slc (some (H18.nxt, 0)) 2 (some 2) 10], [.int .i64 3, .slc (some (H19.nxt, 0)) 1 (some 1) 2, .slc (some (H20.nxt + 1 + 1, 0)) 2 (some 2) 10], [.int .i64 3, .slc (some (H22.nxt, 0)) 3 (some 3) 2, .slc (some (H25.nxt, 0)) 3 (some 3) 10]]) (by rw [nF]; omega) (frzF_get (by omega) (by omega) f_ps) rfl RP rfl rfl⟩, sums_may (by simp [sumsP]) fun p hp => ?_⟩
      simp only [sumsP, List.mem_cons, List.not_mem_nil, or_false] at hp
      rcases hp with rfl | rfl | rfl | rfl | rfl | rfl | rfl
      · exact prk0
      · exact prk1
      · exact prk2
      · exact prk3
      · exact prk4
      · exact prk5
      · exact prk6
    exact key _ ⟨rfl, rfl⟩
  · simp (disch := first | ((try simp only [heapN]) <;> omega) | fail) only [go_sem, seval, ta, d_bx, d_z, d_ps, d_u0]
    have key : ∀ C : List AV, C.length = 3 * 10 ∧ C.all AV.leaf = true → Q (.agg [.slc (some (h.nxt + 1, 0)) 8 (some 8) 3, .slc (some (h.nxt + 1 + 1 + 1 + 1 + 1 + 1 + 1 + 1 + 1 + 1, 0)) 4 (some 4) 3, .slc (some (H25.nxt + 1, 0)) 7 (some 7) 3]) ((H26.put (H5.nxt + 1) (.cells C true)).put h.nxt (.cells [.slc (some (h.nxt + 1, 0)) 8 (some 8) 3, .slc (some (h.nxt + 1 + 1 + 1 + 1 + 1 + 1 + 1 + 1 + 1 + 1, 0)) 4 (some 4) 3, .slc (some (H25.nxt + 1, 0)) 7 (some 7) 3] true)) := fun C hC => by
      obtain ⟨HF, hHF⟩ : ∃ HF, HF = (H26.put (H5.nxt + 1) (.cells C true)).put h.nxt (.cells [.slc (some (h.nxt + 1, 0)) 8 (some 8) 3, .slc (some (h.nxt + 1 + 1 + 1 + 1 + 1 + 1 + 1 + 1 + 1 + 1, 0)) 4 (some 4) 3, .slc (some (H25.nxt + 1, 0)) 7 (some 7) 3] true) := ⟨_, rfl⟩
      rw [← hHF]
      have k9 : ∀ b, b ≠ h.nxt → b ≠ H5.nxt + 1 → HF.get b = H26.get b := fun b h1 h2 => by rw [hHF]; exact (get_put_ne (fun e => h1 e.symm)).trans (get_put_ne (fun e => h2 e.symm))
      have f_u0 : HF.get (H5.nxt + 1) = some (.cells C true) := by rw [hHF]; exact (get_put_ne (by omega)).trans get_put_self
      have n9 : HF.nxt = H26.nxt := by rw [hHF]; simp
      have xF : Ext h HF := by rw [hHF]; exact (x26.put (by omega)).put (Nat.le_refl _)
      clear hHF
      have f_bT := (k9 (h.nxt + 1) (by omega) (by omega)).trans d_bT
      have f_bA := (k9 (h.nxt + 1 + 1 + 1) (by omega) (by omega)).trans d_bA
      have f_bB := (k9 (h.nxt + 1 + 1 + 1 + 1) (by omega) (by omega)).trans d_bB
      have f_bC := (k9 (h.nxt + 1 + 1 + 1 + 1 + 1) (by omega) (by omega)).trans d_bC
      have f_bD := (k9 (h.nxt + 1 + 1 + 1 + 1 + 1 + 1) (by omega) (by omega)).trans d_bD
      have f_bE := (k9 (h.nxt + 1 + 1 + 1 + 1 + 1 + 1 + 1) (by omega) (by omega)).trans d_bE
      have f_bF := (k9 (h.nxt + 1 + 1 + 1 + 1 + 1 + 1 + 1 + 1) (by omega) (by omega)).trans d_bF
      have f_bG := (k9 (h.nxt + 1 + 1 + 1 + 1 + 1 + 1 + 1 + 1 + 1) (by omega) (by omega)).trans d_bG
      have f_bN := (k9 (h.nxt + 1 + 1 + 1 + 1 + 1 + 1 + 1 + 1 + 1 + 1) (by omega) (by omega)).trans d_bN
      have f_b0 := (k9 (h.nxt + 1 + 1 + 1 + 1 + 1 + 1 + 1 + 1 + 1 + 1 + 1) (by omega) (by omega)).trans d_b0
      have f_b1 := (k9 (H5.nxt + 1 + 1) (by omega) (by omega)).trans d_b1
      have f_b2 := (k9 (H10.nxt) (by omega) (by omega)).trans d_b2
      have f_b4 := (k9 (H17.nxt) (by omega) (by omega)).trans d_b4
      have f_b5 := (k9 (H19.nxt) (by omega) (by omega)).trans d_b5
      have f_b6 := (k9 (H22.nxt) (by omega) (by omega)).trans d_b6
      have f_u1 := (k9 (H9.nxt) (by omega) (by omega)).trans d_u1
      have f_u2 := (k9 (H15.nxt) (by omega) (by omega)).trans d_u2
      have f_u3 := (k9 (H16.nxt) (by omega) (by omega)).trans d_u3
      have f_u4 := (k9 (H18.nxt) (by omega) (by omega)).trans d_u4
      have f_u5 := (k9 (H20.nxt + 1 + 1) (by omega) (by omega)).trans d_u5
      have f_u6 := (k9 (H25.nxt) (by omega) (by omega)).trans d_u6
      have f_ps := (k9 (H25.nxt + 1) (by omega) (by omega)).trans d_ps
      obtain ⟨lT, lN, r0, r1, r2, r3, r4, r5, r6, RP⟩ := sums_fin (lo := h.nxt) (HF := HF) (bT := h.nxt + 1) (bA := h.nxt + 1 + 1 + 1) (bB := h.nxt + 1 + 1 + 1 + 1) (bC := h.nxt + 1 + 1 + 1 + 1 + 1) (bD := h.nxt + 1 + 1 + 1 + 1 + 1 + 1) (bE := h.nxt + 1 + 1 + 1 + 1 + 1 + 1 + 1) (bF := h.nxt + 1 + 1 + 1 + 1 + 1 + 1 + 1 + 1) (bG := h.nxt + 1 + 1 + 1 + 1 + 1 + 1 + 1 + 1 + 1) (bN := h.nxt + 1 + 1 + 1 + 1 + 1 + 1 + 1 + 1 + 1 + 1) (b0 := h.nxt + 1 + 1 + 1 + 1 + 1 + 1 + 1 + 1 + 1 + 1 + 1) (b1 := H5.nxt + 1 + 1) (b2 := H10.nxt) (b4 := H17.nxt) (b5 := H19.nxt) (b6 := H22.nxt) (u0 := H5.nxt + 1) (u1 := H9.nxt) (u2 := H15.nxt) (u3 := H16.nxt) (u4 := H18.nxt) (u5 := H20.nxt + 1 + 1) (u6 := H25.nxt) (fun b hb => by
        simp only [List.mem_cons, List.not_mem_nil, or_false] at hb
        omega) f_bT f_bA f_bB f_bC f_bD f_bE f_bF f_bG f_bN f_b0 f_b1 f_b2 f_b4 f_b5 f_b6 f_u0 hC f_u1 ⟨rfl, rfl⟩ f_u2 ⟨rfl, rfl⟩ f_u3 ⟨rfl, rfl⟩ f_u4 ⟨rfl, rfl⟩ f_u5 ⟨rfl, rfl⟩ f_u6 ⟨rfl, rfl⟩
      have nF := frzF_nxt h.nxt HF
      refine hQ _ _ (frzF h.nxt HF) (frzF_le _ _) ⟨frzF_ext xF (Nat.le_refl _), ⟨sumsT, sumsN, sumsP r0 r1 r2 r3 r4 r5 r6⟩, ⟨_, _, _, rfl, lT, lN, lst_lit (ls := [[.int .i64 0, .slc (some (h.nxt + 1 + 1 + 1 + 1 + 1 + 1 + 1 + 1 + 1 + 1 + 1, 0)) 1 (some 1) 2, .slc (some (H5.nxt + 1, 0)) 3 (some 3) 10], [.int .i64 1, .slc (some (H5.nxt + 1 + 1, 0)) 2 (some 2) 2, .slc (some (H9.nxt, 0)) 4 (some 4) 10], [.int .i64 2, .slc (some (H10.nxt, 0)) 3 (some 3) 2, .slc (some (H15.nxt, 0)) 4 (some 4) 10], [.int .i64 2, .slc none 0 (some 0) 0, .slc (some (H16.nxt, 0)) 1 (some 1) 10], [.int .i64 3, .slc (some (H17.nxt, 0)) 1 (some 1) 2, .slc (some (H18.nxt, 0)) 2 (some 2) 10], [.int .i64 3, .slc (some (H19.nxt, 0)) 1 (some 1) 2, .slc (some (H20.nxt + 1 + 1, 0)) 2 (some 2) 10], [.int .i64 3, .slc (some (H22.nxt, 0)) 3 (some 3) 2, .slc (some (H25.nxt, 0)) 3 (some 3) 10]]) (by rw [nF]; omega) (frzF_get (by omega) (by omega) f_ps) rfl RP rfl rfl⟩, sums_may (by simp [sumsP]) fun p hp => ?_⟩
      simp only [sumsP, List.mem_cons, List.not_mem_nil, or_false] at hp
      rcases hp with rfl | rfl | rfl | rfl | rfl | rfl | rfl
      · exact prk0
      · exact prk1
      · exact prk2
      · exact prk3
      · exact prk4
      · exact prk5
      · exact prk6
    exact key _ ⟨rfl, rfl⟩

end Go.Proofs.Ytaockkmmjinhpaa
