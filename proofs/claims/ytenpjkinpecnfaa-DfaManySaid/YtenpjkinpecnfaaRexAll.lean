/-
  The law RexAll: what it comes to.
-/
import Derived.Test.YtenpjkinpecnfaaSame
import Derived.Test.YtenpjkinpecnfaaAmAu
namespace Go.Proofs.Ytenpjkinpecnfaa
open Go Go.Am
set_option maxRecDepth 100000
set_option maxHeartbeats 4000000
set_option linter.unusedSimpArgs false
set_option linter.unusedVariables false

theorem parse_ab : parse [97, 98, 42] = some [⟨1, [⟨97, 97⟩]⟩, ⟨1, [⟨98, 98⟩]⟩, ⟨4, []⟩, ⟨2, []⟩] := by kernel_rfl
theorem parse_open : parse [40] = none := by kernel_rfl

theorem begun3_uf {h : Heap} : UF T F 21 [] h fun v h' => Ext h h' ∧ v = .bool true := by
  refine UF.gen fun Q hQ => UF.of (F_21) (c := _) rfl ?_
  unfold Try.f21
  simp only [List.length, Nat.reduceSub, Nat.reduceAdd, List.replicate, List.cons_append, List.nil_append]
  simp (disch := first | ((try simp only [heapN]) <;> omega) | fail) only [go_sem, seval]
  refine callV_ofU F_24 rfl ((parse_uf (s := [97, 98, 42])).mono ?_)
  rintro v1 h1 ⟨e1, m1⟩
  simp (disch := first | ((try simp only [heapN]) <;> omega) | fail) only [go_sem, seval]
  rw [parse_ab] at m1
  obtain ⟨v, rfl, L⟩ := m1
  obtain ⟨a, n, c, z, rfl, hn⟩ := L.form
  have hn : n = 4 := hn
  subst hn
  obtain ⟨b1, o1, cs1, w1, l1, rfl, rfl, hb1, hg1, ⟨x0, rfl, s0⟩, hr1, ht1, hc0⟩ := L.slc.at_ (i := 0) (x := ⟨1, [⟨97, 97⟩]⟩) rfl (k := 2) rfl
  obtain ⟨b2, o2, cs2, w2, l2, e2, _, hb2, hg2, ⟨x2, rfl, s2⟩, hr2, ht2, hc2⟩ := L.slc.at_ (i := 2) (x := ⟨4, []⟩) rfl (k := 2) rfl
  obtain ⟨b3, o3, cs3, w3, l3, e3, _, hb3, hg3, ⟨x3, rfl, s3⟩, hr3, ht3, hc3⟩ := L.slc.at_ (i := 3) (x := ⟨2, []⟩) rfl (k := 2) rfl
  simp only [Option.some.injEq, Prod.mk.injEq] at e2 e3
  obtain ⟨rfl, rfl⟩ := e2
  obtain ⟨rfl, rfl⟩ := e3
  rw [hg1] at hg2 hg3
  simp only [Option.some.injEq, Blk.cells.injEq] at hg2 hg3
  obtain ⟨rfl, rfl⟩ := hg2
  obtain ⟨rfl, rfl⟩ := hg3
  have c0 : cs1[o1]? = some (.int .i64 1) := hc0 0 (by decide)
  have c2 : cs1[o1 + 4]? = some (.int .i64 4) := hc2 0 (by decide)
  have c3 : cs1[o1 + 6]? = some (.int .i64 2) := hc3 0 (by decide)
  simp (disch := first | ((try simp only [heapN]) <;> omega) | fail) only [go_sem, seval]
  refine callV_ofU F_24 rfl ((parse_uf (s := [40])).mono ?_)
  rintro v4 h4 ⟨e4, m4⟩
  simp (disch := first | ((try simp only [heapN]) <;> omega) | fail) only [go_sem, seval]
  rw [parse_open] at m4
  subst m4
  have g4 : h4.get b1 = _ := (e4.get _ hb1).trans hg1
  simp (disch := first | ((try simp only [heapN]) <;> omega) | fail) only [go_sem, seval, g4, c0, c2, c3]
  exact hQ _ _ ⟨e1.trans e4, rfl⟩

theorem conv_sb {h : Heap} {l : List UInt8} : convA T 9 22 (.str l) h = some (.slc (some (h.nxt, 0)) l.length none 1, h.add (.cells (l.map fun b => .int .u8 b.toNat) true)) := by
  simp only [convA, T_9, T_22, T_5, if_true]
theorem bytesOf_map : ∀ l : List UInt8, bytesOf (l.map fun b => .int .u8 b.toNat) = some l
  | [] => rfl
  | a :: l => by
    simp only [List.map_cons, bytesOf, bytesOf_map l, Int.toNat_natCast]
    simp
theorem conv_bs {h : Heap} {b n : Nat} {c : Option Nat} {l : List UInt8} {w : Bool} (hg : h.get b = some (.cells (l.map fun b => .int .u8 b.toNat) w)) (hn : n = l.length) : convA T 22 9 (.slc (some (b, 0)) n c 1) h = some (.str l, h) := by
  subst hn
  simp only [convA, T_9, T_22, T_5, if_true]
  by_cases h0 : l.length = 0
  · have : l = [] := by simpa using h0
    subst this; simp
  · simp only [h0, if_false, Am.loadCells, hg]
    have : (0 + l.length ≤ (l.map fun b => AV.int .u8 b.toNat).length) := by simp
    rw [if_pos this]
    have ht : ((l.map fun b => AV.int .u8 b.toNat).drop 0).take l.length = l.map fun b => AV.int .u8 b.toNat := by
      rw [List.drop_zero, List.take_of_length_le (by simp)]
    rw [ht]
    simp only [bytesOf_map]

theorem RexAll_uf {h : Heap} {s : List UInt8} {v : AV} {l : List UInt8} {at_ by_ : UInt8} (hv : Lst h v l) : UF T F 3 [.str s, v, .int .u8 at_.toNat, .int .u8 by_.toNat] h fun v' _ => v' = .bool true := by
  obtain ⟨a, n, c, z, rfl, hn⟩ := hv.form
  refine UF.gen fun Q hQ => UF.of (F_3) (c := _) rfl ?_
  unfold Try.f3
  simp only [List.length, Nat.reduceSub, Nat.reduceAdd, List.replicate, List.cons_append, List.nil_append]
  simp (disch := first | ((try simp only [heapN]) <;> omega) | fail) only [go_sem, seval]
  refine callV_ofU F_21 rfl ((begun3_uf).mono ?_)
  rintro v1 h1 ⟨e1, rfl⟩
  simp (disch := first | ((try simp only [heapN]) <;> omega) | fail) only [go_sem, seval]
  by_cases h30 : (s.length : Int) > 30
  · simp (disch := first | ((try simp only [heapN]) <;> omega) | fail) only [go_sem, seval, h30]
    exact hQ _ _ rfl
  by_cases h20 : (n : Int) > 20
  · simp (disch := first | ((try simp only [heapN]) <;> omega) | fail) only [go_sem, seval, h30, h20]
    exact hQ _ _ rfl
  simp (disch := first | ((try simp only [heapN]) <;> omega) | fail) only [go_sem, seval, h30, h20]
  refine callV_ofU F_22 rfl ((Made_uf (hv.ext e1)).mono ?_)
  rintro v2 h2 ⟨e2, rfl, P2⟩
  simp (disch := first | ((try simp only [heapN]) <;> omega) | fail) only [go_sem, seval]
  refine callV_ofU F_23 rfl ((Rex_uf P2 (by omega)).mono ?_)
  rintro v3 h3 ⟨u3, P3, m, rfl, hm⟩
  simp (disch := first | ((try simp only [heapN]) <;> omega) | fail) only [go_sem, seval]
  have hm1 : 1 ≤ m.length ∧ m.length ≤ 24 := by
    rcases hm with rfl | ⟨h24, ps, hp1, hp3, hps, hs⟩
    · simp
    · refine ⟨?_, h24⟩
      have := pstr_len ps hps
      rcases hs with rfl | ⟨c, _, _, rfl⟩
      · omega
      · rw [List.length_append, List.length_cons]; omega
  simp (disch := first | ((try simp only [heapN]) <;> omega) | fail) only [go_sem, seval, conv_sb]
  have hm0 : ¬ ((m.length : Int) = 0) := by omega
  have hw : IntKind.i64.wrap (at_.toNat : Int) = at_.toNat := wrap_i64 (by omega) (by have := at_.toNat_lt; omega)
  have ht : ((at_.toNat : Int).tmod (m.length : Int)) = ((at_.toNat % m.length : Nat) : Int) := by rw [Int.ofNat_tmod]
  have hlt : at_.toNat % m.length < m.length := Nat.mod_lt _ (by omega)
  have ha0 : (0 : Int) ≤ ((at_.toNat % m.length : Nat) : Int) := by omega
  have ha1 : ((at_.toNat % m.length : Nat) : Int) < (m.length : Int) := by omega
  have hle : at_.toNat % m.length + 1 ≤ m.length := hlt
  simp (disch := first | ((try simp only [heapN]) <;> omega) | fail) only [go_sem, seval, hw, ht, ha0, ha1, Int.toNat_natCast]
  simp only [Nat.mul_one, List.length_map, hle, if_true, ← List.map_set (f := fun b : UInt8 => AV.int .u8 b.toNat)]
  obtain ⟨hA, eA⟩ : ∃ hA, hA = (h3.add (Blk.cells (m.map fun b => AV.int .u8 b.toNat) true)).put h3.nxt (Blk.cells ((m.set (at_.toNat % m.length) by_).map fun b => AV.int .u8 b.toNat) true) := ⟨_, rfl⟩
  rw [← eA]
  have gA : hA.get h3.nxt = some (.cells ((m.set (at_.toNat % m.length) by_).map fun b => AV.int .u8 b.toNat) true) := by subst eA; exact get_put_self
  simp (disch := first | ((try simp only [heapN]) <;> omega) | fail) only [go_sem, seval, conv_bs gA (show m.length = (m.set (at_.toNat % m.length) by_).length by simp)]
  generalize hb : m.set (at_.toNat % m.length) by_ = mb
  have hmb : mb.length ≤ 24 := by rw [← hb]; simp; omega
  obtain ⟨hB, eB⟩ : ∃ hB, hB = hA.add (Blk.cells [AV.str s, AV.str m, AV.str mb] true) := ⟨_, rfl⟩
  rw [← eB]
  have gB : hB.get hA.nxt = some (.cells [AV.str s, AV.str m, AV.str mb] true) := by subst eB; exact get_add_self
  have nB : hA.nxt < hB.nxt := by subst eB; simp
  refine LoopU_while (fun q st hh => ∃ i : Nat, Ext hB hh ∧ i ≤ 3 ∧ q = 3 - i ∧ Keep st 74 [(8, .bool false), (11, .slc (some (hA.nxt, 0)) 3 (some 3) 1), (12, .int .i64 (i : Nat))]) 3 ⟨0, Ext.refl _, by omega, rfl, rfl, by simp [Has]⟩ ?_
  rintro q st hh ⟨i, eh, hi, rfl, hk⟩
  rw [hk.eq]
  obtain ⟨k8, k11, k12, -⟩ := hk.2
  simp only [slotsFrom, Nat.reduceAdd] at k8 k11 k12 ⊢
  simp only [k8, k11, k12]
  simp (disch := first | ((try simp only [heapN]) <;> omega) | fail) only [go_sem, seval]
  by_cases h3 : (i : Int) < 3
  · have hi3 : i < 3 := by omega
    have gH := (eh.get _ nB).trans gB
    obtain ⟨w, hw1⟩ : ∃ w : List UInt8, [AV.str s, AV.str m, AV.str mb][i]? = some (.str w) := by
      have : i = 0 ∨ i = 1 ∨ i = 2 := by omega
      rcases this with rfl | rfl | rfl
      · exact ⟨s, rfl⟩
      · exact ⟨m, rfl⟩
      · exact ⟨mb, rfl⟩
    simp (disch := first | ((try simp only [heapN]) <;> omega) | fail) only [go_sem, seval, h3, gH, Int.toNat_natCast, Nat.mul_one, hw1]
    refine callV_ofU F_24 rfl ((parse_uf (s := w)).mono ?_)
    rintro v5 h5 ⟨e5, m5⟩
    simp (disch := first | ((try simp only [heapN]) <;> omega) | fail) only [go_sem, seval]
    have g5 := (e5.get _ (Nat.lt_of_lt_of_le nB eh.nxt)).trans gH
    have eh5 := eh.trans e5
    cases hp : parse w with
    | none =>
      rw [hp] at m5
      subst m5
      simp (disch := first | ((try simp only [heapN]) <;> omega) | fail) only [go_sem, seval, g5, Int.toNat_natCast, Nat.mul_one, hw1]
      refine callV_ofU F_25 rfl ((refParse_uf (s := w)).mono ?_)
      rintro v6 h6 ⟨e6, m6⟩
      simp (disch := first | ((try simp only [heapN]) <;> omega) | fail) only [go_sem, seval]
      rw [hp] at m6
      subst m6
      simp (disch := first | ((try simp only [heapN]) <;> omega) | fail) only [go_sem, seval]
      refine callV_ofU F_26 rfl ((SameItems_uf (xs := []) (ys := []) Lst.nil.slc Lst.nil.slc (by simp) (by simp) (by simp)).mono ?_)
      rintro v7 h7 ⟨e7, rfl⟩
      simp (disch := first | ((try simp only [heapN]) <;> omega) | fail) only [go_sem, seval]
      exact AgainK.mk (3 - (i + 1)) (by simp only; omega) ⟨i + 1, (eh5.trans e6).trans e7, by omega, rfl, rfl, by simp [Has]⟩
    | some l1 =>
      obtain ⟨f1, f2, _⟩ := parse_few hp
      rw [hp] at m5
      obtain ⟨x, rfl, L5⟩ := m5
      simp (disch := first | ((try simp only [heapN]) <;> omega) | fail) only [go_sem, seval, g5, Int.toNat_natCast, Nat.mul_one, hw1]
      refine callV_ofU F_25 rfl ((refParse_uf (s := w)).mono ?_)
      rintro v6 h6 ⟨e6, m6⟩
      simp (disch := first | ((try simp only [heapN]) <;> omega) | fail) only [go_sem, seval]
      rw [hp] at m6
      obtain ⟨y, rfl, L6⟩ := m6
      obtain ⟨xa, xn, xc, xz, rfl, hxn⟩ := L5.form
      obtain ⟨ya, yn, yc, yz, rfl, hyn⟩ := L6.form
      simp (disch := first | ((try simp only [heapN]) <;> omega) | fail) only [go_sem, seval]
      refine callV_ofU F_26 rfl ((SameItems_uf (L5.ext e6).slc L6.own.slc (by omega) (by omega) (fun x hx => by have := (f2 x hx).1; omega)).mono ?_)
      rintro v7 h7 ⟨e7, rfl⟩
      simp (disch := first | ((try simp only [heapN]) <;> omega) | fail) only [go_sem, seval]
      exact AgainK.mk (3 - (i + 1)) (by simp only; omega) ⟨i + 1, (eh5.trans e6).trans e7, by omega, rfl, rfl, by simp [Has]⟩
  · simp (disch := first | ((try simp only [heapN]) <;> omega) | fail) only [go_sem, seval, h3]
    exact hQ _ _ rfl

theorem RexAll_law {h : Heap} {s : List UInt8} {v : AV} {zs : List Int} {a b : Int} (hv : Slc h v 1 (zs.map fun z => [.int .u8 z])) (hb : ∀ z ∈ zs, IntKind.u8.min ≤ z ∧ z ≤ IntKind.u8.max) (w2 : (Lit.int .u8 a).wf = true) (w3 : (Lit.int .u8 b).wf = true) :
    WF T F 3 [.str s, v, .int .u8 a, .int .u8 b] h fun v' h' => v' = .bool true := by
  obtain ⟨a, rfl⟩ := u8_lit w2
  obtain ⟨b, rfl⟩ := u8_lit w3
  obtain ⟨l, _, L⟩ := bytes_lst hv hb
  exact UF.toW (UF.less (frzV_le h v) (RexAll_uf L))

end Go.Proofs.Ytenpjkinpecnfaa
