/-
  Rules that are made: whatever they are, there are some.
-/
import Derived.Test.YtaockkmmjinhpaaGData
namespace Go.Proofs.Ytaockkmmjinhpaa
open Go Go.Am
set_option maxRecDepth 100000
set_option maxHeartbeats 4000000
set_option linter.unusedSimpArgs false
set_option linter.unusedVariables false

section
variable {α : Type} [Rep α]
/-- Something is put behind a slice of our own that grows by moving. -/
theorem fappend {T : TT} {K : KH} {m : Nat} {h : Heap} {v x : AV} {t e : Nat} {ti te : TI} {xs : List α} {y : α} (ht : T t = some ti) (hk : ti.kind = .slc e) (he : T e = some te) (hsz : te.size = Rep.sz α) (hb0 : te.bytes ≠ 0) (hb1 : te.bytes ≤ 1048576)
    (s : LFresh m h v xs) (sx : LSlc h x [y]) (hm : m ≤ h.nxt) (hr : (xs.length + 1) * te.bytes ≤ roomA)
    (k : ∀ v' h', LFresh m h' v' (xs ++ [y]) → Upd (fun b => v.blk = some b) h h' → (∀ b, v'.blk = some b → h.nxt ≤ b) → K.k v' h') :
    @OBk (appendA T t v x h) K := by
  refine lappend ht hk he hsz hb0 hb1 s.own sx hm hr fun v' h' n1 g1 o1 c1 p1 => ?_
  rcases c1 with ⟨e, _⟩ | ⟨L, b⟩
  · cases e
  · exact k _ _ L ⟨n1, fun b hb hne => g1 b hb hne, p1.frz⟩ b
end

theorem LoopU_less {T : TT} {F : Nat → Option Func} {s : List AV} {ms : List Nat} {h h0 : Heap} {K : KF} (l : Le h0 h) (w : @LoopU T F ⟨s, ms, h0⟩ K) : @LoopU T F ⟨s, ms, h⟩ K := UC.less l w

theorem chunks_flat (sz : Nat) : ∀ (n : Nat) (cs : List AV), n * sz ≤ cs.length → ((List.range n).map fun j => (cs.drop (j * sz)).take sz).flatten = cs.take (n * sz)
  | 0, cs, _ => by simp
  | n + 1, cs, h => by
    rw [Nat.succ_mul] at h
    have ih := chunks_flat sz n (cs.drop sz) (by rw [List.length_drop]; omega)
    rw [List.range_succ_eq_map, List.map_cons, List.flatten_cons, List.map_map]
    have : ((fun j => (cs.drop (j * sz)).take sz) ∘ Nat.succ) = fun j => ((cs.drop sz).drop (j * sz)).take sz := by
      funext j
      simp only [Function.comp, List.drop_drop, Nat.succ_mul, Nat.add_comm]
    rw [this, ih, Nat.zero_mul, List.drop_zero, Nat.succ_mul, Nat.add_comm (n * sz) sz, List.take_add]

/-- Cells are written over. -/
theorem opq_set {m : Nat} {h : Heap} {a : Option (Nat × Nat)} {n : Nat} {c : Option Nat} {z : Nat} {xs : List (Opq 10)} {i : Nat} {vs : List AV} (S : LFresh m h (.slc a n c z) xs) (hi : i < xs.length) (hv : vs.length = 8) (hvl : vs.all AV.leaf = true) :
    ∃ b o cs, a = some (b, o) ∧ z = 10 ∧ m ≤ b ∧ b < h.nxt ∧ h.get b = some (.cells cs true) ∧ o + i * 10 + 10 ≤ cs.length ∧ ∃ xs' : List (Opq 10), xs'.length = xs.length ∧ LFresh m (h.put b (.cells (setCells cs (o + i * 10 + 2) vs) true)) (.slc a n c z) xs' := by
  obtain ⟨ls, F, R⟩ := S
  have hl := R.length
  rcases F with ⟨rfl, _⟩ | ⟨b, o, cs, e, hm, B⟩
  · simp at hl; omega
  · simp only [AV.slc.injEq] at e
    obtain ⟨rfl, rfl, rfl, rfl⟩ := e
    have hroom := B.room
    have hsz : Rep.sz (Opq 10) = 10 := rfl
    rw [hsz] at hroom
    have hwin := B.win
    rw [hsz] at hwin
    have hleaf : ∀ x ∈ (cs.drop o).take (ls.length * 10), x.leaf = true := by
      rw [hwin]
      intro x hx
      obtain ⟨l, hl, hx⟩ := List.mem_flatten.1 hx
      exact List.all_eq_true.1 (R.leafs l hl) x hx
    have hlen : (setCells cs (o + i * 10 + 2) vs).length = cs.length := setCells_len _ _ _
    have hleaf' : ∀ x ∈ ((setCells cs (o + i * 10 + 2) vs).drop o).take (ls.length * 10), x.leaf = true := by
      intro x hx
      obtain ⟨p, hp, rfl⟩ := List.getElem_of_mem hx
      have hp' := hp
      rw [List.length_take, List.length_drop] at hp'
      have hg : (((setCells cs (o + i * 10 + 2) vs).drop o).take (ls.length * 10))[p]? = (setCells cs (o + i * 10 + 2) vs)[o + p]? := by
        rw [List.getElem?_take_of_lt (by omega), List.getElem?_drop]
      rw [List.getElem?_eq_getElem hp, setCells_get _ _ _ _ (by omega)] at hg
      split at hg
      · exact List.all_eq_true.1 hvl _ (List.mem_of_getElem? hg.symm)
      · refine hleaf _ (List.mem_of_getElem? (i := p) ?_)
        rw [List.getElem?_take_of_lt (by omega), List.getElem?_drop]
        exact hg.symm
    have hflat := chunks_flat 10 ls.length ((setCells cs (o + i * 10 + 2) vs).drop o) (by rw [List.length_drop]; omega)
    refine ⟨b, o, cs, rfl, hsz, hm, B.lt, B.get, by omega, (List.range ls.length).map fun j => ⟨(((setCells cs (o + i * 10 + 2) vs).drop o).drop (j * 10)).take 10⟩, by simp [hl], (List.range ls.length).map fun j => (((setCells cs (o + i * 10 + 2) vs).drop o).drop (j * 10)).take 10, .inr ⟨b, o, setCells cs (o + i * 10 + 2) vs, by simp, hm, ?_⟩, ?_⟩
    · refine ⟨by simpa using B.lt, get_put_self, ?_, ?_, ?_⟩
      · intro l hl'
        obtain ⟨j, hj, rfl⟩ := List.mem_map.1 hl'
        have := List.mem_range.1 hj
        rw [List.length_take, List.length_drop, List.length_drop, hsz]; omega
      · simp only [List.length_map, List.length_range, hsz]; omega
      · simp only [List.length_map, List.length_range, hsz]; exact hflat.symm
    · have : ∀ js : List Nat, (∀ j ∈ js, j < ls.length) → Reps (h.put b (.cells (setCells cs (o + i * 10 + 2) vs) true)) (js.map fun j => (⟨(((setCells cs (o + i * 10 + 2) vs).drop o).drop (j * 10)).take 10⟩ : Opq 10)) (js.map fun j => (((setCells cs (o + i * 10 + 2) vs).drop o).drop (j * 10)).take 10) := by
        intro js
        induction js with
        | nil => exact fun _ => .nil
        | cons j js ih =>
          intro hj
          refine .cons ⟨rfl, ?_, ?_⟩ (ih fun x hx => hj x (by simp [hx]))
          · have := hj j (by simp)
            rw [List.length_take, List.length_drop, List.length_drop]; omega
          · refine List.all_eq_true.2 fun x hx => hleaf' x ?_
            rw [← hflat]
            exact List.mem_flatten.2 ⟨_, List.mem_map.2 ⟨j, List.mem_range.2 (hj j (by simp)), rfl⟩, hx⟩
      exact this _ fun j hj => List.mem_range.1 hj

theorem rules_uf {h : Heap} {k : Nat} {pk nv rv : AV} {l : List UInt8} {ta pa ua : Option (Nat × Nat)} {tn pn un : Nat} {tc pc uc : Option Nat} {tz pz uz : Nat} {ns : List GNt} {rs : List GSym} {left : Int}
    (P : Pk h k pk l) (hl : l.length ≤ 1000) (sn : Lst h nv ns) (hn : ns.length ≤ 1000) (hf : FewA ns) (sr : Lst h rv rs) (hr : rs.length ≤ 10) :
    UF T F 61 [.ptr (some (k, 0)), .agg [.slc ta tn tc tz, nv, .slc pa pn pc pz], .agg [.int .i64 left, rv, .slc ua un uc uz]] h fun v' h' => Upd (· = k) h h' ∧ Pk h' k pk l ∧ ∃ xs : List (Opq 10), Lst h' v' xs := by
  obtain ⟨na, nn, nc, nz, rfl, hnn⟩ := sn.form
  obtain ⟨ra, rn, rc, rz, rfl, hrn⟩ := sr.form
  refine UF.genq fun Q hQ => UF.of (F_61) (c := _) rfl ?_
  unfold Try.f61
  simp only [List.length, Nat.reduceSub, Nat.reduceAdd, List.replicate, List.cons_append, List.nil_append]
  simp (disch := first | ((try simp only [heapN]) <;> omega) | fail) only [go_sem, seval]
  have e1 : Ext h ((h.add (.cells [.slc ta tn tc tz, .slc na nn nc nz, .slc pa pn pc pz] true)).add (.cells [.int .i64 left, .slc ra rn rc rz, .slc ua un uc uz] true)) := (Ext.add _ _).trans (Ext.add _ _)
  have g4 : ((h.add (.cells [.slc ta tn tc tz, .slc na nn nc nz, .slc pa pn pc pz] true)).add (.cells [.int .i64 left, .slc ra rn rc rz, .slc ua un uc uz] true)).get h.nxt = some (.cells [.slc ta tn tc tz, .slc na nn nc nz, .slc pa pn pc pz] true) := by rw [get_add_lt (by simp), get_add_self]
  have g5 : ((h.add (.cells [.slc ta tn tc tz, .slc na nn nc nz, .slc pa pn pc pz] true)).add (.cells [.int .i64 left, .slc ra rn rc rz, .slc ua un uc uz] true)).get (h.nxt + 1) = some (.cells [.int .i64 left, .slc ra rn rc rz, .slc ua un uc uz] true) := get_add_self
  have n1 : ((h.add (.cells [.slc ta tn tc tz, .slc na nn nc nz, .slc pa pn pc pz] true)).add (.cells [.int .i64 left, .slc ra rn rc rz, .slc ua un uc uz] true)).nxt = h.nxt + 2 := by simp
  generalize ((h.add (.cells [.slc ta tn tc tz, .slc na nn nc nz, .slc pa pn pc pz] true)).add (.cells [.int .i64 left, .slc ra rn rc rz, .slc ua un uc uz] true)) = h1 at *
  refine LoopU_while (fun m st hh => ∃ (occ : Nat) (ov iv : AV) (os : List (Opq 10)) (is : List GEx), occ ≤ rs.length + 1 ∧ m = rs.length + 1 - occ ∧ Ext h1 hh ∧ LFresh (h.nxt + 2) hh ov os ∧ LFresh (h.nxt + 2) hh iv is ∧ (∀ b, ov.blk = some b → iv.blk ≠ some b) ∧ os.length ≤ 4 * occ ∧ is.length ≤ 5 * occ ∧
      Keep st 113 [(0, .ptr (some (k, 0))), (4, .ptr (some (h.nxt, 0))), (5, .ptr (some (h.nxt + 1, 0))), (7, ov), (8, iv), (9, .int .i64 (occ : Nat))]) (rs.length + 1)
    ⟨0, _, _, [], [], by omega, by omega, Ext.refl _, LFresh.nil, LFresh.nil, by simp [AV.blk], by simp, by simp, rfl, by simp [Has]⟩ ?_
  rintro m st hh ⟨occ, ov, iv, os, is, hocc, rfl, eh, O, I, hsep, hol, hil, hk⟩
  obtain ⟨oa, on, oc, oz, rfl, hon⟩ := O.form
  obtain ⟨ia, iln, ic, iz, rfl, hin⟩ := I.form
  rw [hk.eq]
  obtain ⟨k0, k4, k5, k7, k8, k9, -⟩ := hk.2
  simp only [slotsFrom, Nat.reduceAdd] at k0 k4 k5 k7 k8 k9 ⊢
  simp only [k0, k4, k5, k7, k8, k9]
  have g5h := (eh.get _ (by omega)).trans g5
  have hnh := eh.nxt
  simp (disch := first | ((try simp only [heapN]) <;> omega) | fail) only [go_sem, seval, g5h]
  by_cases hlt : (occ : Int) ≤ (rn : Int)
  · by_cases hpos : (occ : Int) > 0
    · obtain ⟨p, rfl⟩ : ∃ p, occ = p + 1 := ⟨occ - 1, by omega⟩
      have hp : p < rs.length := by omega
      have hpi : ((p + 1 : Nat) : Int) - 1 = (p : Nat) := by omega
      have hpr : (p : Int) < (rn : Int) := by omega
      obtain ⟨b1, o1, cs1, l1, rfl, rfl, hb1, hg1, rfl, hr1, ht1, hc1⟩ := ((sr.ext e1).ext eh).at_ (i := p) (x := rs[p]) (List.getElem?_eq_getElem hp) (k := 2) rfl
      have c0 : cs1[o1 + p * 2]? = some (.bool rs[p].tok) := hc1 0 (by decide)
      have c1 : cs1[o1 + p * 2 + 1]? = some (.int .i64 rs[p].at_) := hc1 1 (by decide)
      generalize rs[p] = sy at *
      simp (disch := first | ((try simp only [heapN]) <;> omega) | fail) only [go_sem, seval, hlt, hpos, g5h, hpi, hpr, hg1, c0, c1, Int.toNat_natCast]
      cases htk : sy.tok with
      | true =>
        simp (disch := first | ((try simp only [heapN]) <;> omega) | fail) only [go_sem, seval]
        have hpn : ((p + 1 : Nat) : Int) = (p : Int) + 1 := by omega
        refine fappend (m := h.nxt + 2) (xs := is) (y := (⟨2, 0, 0, [], none, 0, some 0, 0, (p + 1 : Nat), 0, none, 0, some 0, 0⟩ : GEx)) T_130 rfl T_132 rfl (by decide) (by decide) (I.ext (Ext.add _ _)) (LSlc.lit (b := hh.nxt) (ls := [[.int .i64 2, .int .i64 0, .int .i64 0, .str [], .slc none 0 (some 0) 0, .int .i64 (p + 1 : Nat), .int .i64 0, .slc none 0 (some 0) 0]]) (by simp) get_add_self rfl (Reps.one (x := (⟨2, 0, 0, [], none, 0, some 0, 0, (p + 1 : Nat), 0, none, 0, some 0, 0⟩ : GEx)) rfl) rfl rfl) (by simp; omega) (by simp [roomA]; omega) ?_
        intro v6 h6 I6 u6 b6
        simp (disch := first | ((try simp only [heapN]) <;> omega) | fail) only [go_sem, seval]
        exact AgainK.mk (rs.length + 1 - (p + 1 + 1)) (by simp only; omega) ⟨p + 1 + 1, _, v6, os, is ++ [_], by omega, rfl, (((eh.trans (Ext.add _ _)).upd (h.nxt + 2 ≤ ·)).trans' u6 fun b h1 h2 => I.blk h1).ext fun b hb => by omega, (O.ext (Ext.add _ _)).upd u6 fun b _ e e2 => hsep b e e2, I6, fun b e e2 => by have := O.lt e; have := b6 b e2; simp at this; omega, by omega, by simp; omega, rfl, by simp [Has]⟩
      | false =>
        simp (disch := first | ((try simp only [heapN]) <;> omega) | fail) only [go_sem, seval]
        have hocc0 : ¬ ((p + 1 : Nat) : Int) = 0 := by omega
        refine LoopU_while (fun m st h2 => ∃ (a : Nat) (ov iv : AV) (os : List (Opq 10)) (is : List GEx), a ≤ cntA ns sy.at_ ∧ m = cntA ns sy.at_ - a ∧ Ext h1 h2 ∧ LFresh (h.nxt + 2) h2 ov os ∧ LFresh (h.nxt + 2) h2 iv is ∧ (∀ b, ov.blk = some b → iv.blk ≠ some b) ∧ os.length ≤ 4 * (p + 1) + a ∧ is.length ≤ 5 * (p + 1) + a ∧
            Keep st 113 [(0, .ptr (some (k, 0))), (4, .ptr (some (h.nxt, 0))), (5, .ptr (some (h.nxt + 1, 0))), (7, ov), (8, iv), (9, .int .i64 (((p + 1 : Nat) : Int))), (10, .int .i64 (sy.at_)), (11, .int .i64 (a : Nat))]) (cntA ns sy.at_)
          ⟨0, _, _, os, is, by omega, by omega, eh, O, I, hsep, by omega, by omega, rfl, by simp [Has]⟩ ?_
        clear k0 k4 k5 k7 k8 k9 hk
        rintro m st h2 ⟨a, ov, iv, os, is, ha, rfl, eh, O, I, hsep, hol, hil, hk⟩
        obtain ⟨oa, on, oc, oz, rfl, hon⟩ := O.form
        obtain ⟨ia, iln, ic, iz, rfl, hin⟩ := I.form
        rw [hk.eq]
        obtain ⟨k0, k4, k5, k7, k8, k9, k10, k11, -⟩ := hk.2
        simp only [slotsFrom, Nat.reduceAdd] at k0 k4 k5 k7 k8 k9 k10 k11 ⊢
        simp only [k0, k4, k5, k7, k8, k9, k10, k11]
        have g4h := (eh.get _ (by omega)).trans g4
        have hnh := eh.nxt
        simp (disch := first | ((try simp only [heapN]) <;> omega) | fail) only [go_sem, seval, g4h]
        refine callV_ofU F_101 rfl ((Count_uf ((sn.ext e1).ext eh) hn hf).mono ?_)
        rintro v3 h3 ⟨e3, rfl⟩
        simp (disch := first | ((try simp only [heapN]) <;> omega) | fail) only [go_sem, seval]
        have hn3 := e3.nxt
        by_cases hlta : (a : Int) < (cntA ns sy.at_ : Nat)
        · obtain ⟨q, hq, hqn⟩ := cntA_pos (show 0 < cntA ns sy.at_ by omega)
          have g4i := (e3.get _ (by omega)).trans g4h
          have c4 := cntA_le hf (sy.at_)
          simp (disch := first | ((try simp only [heapN]) <;> omega) | fail) only [go_sem, seval, hlta, g4i]
          refine callV_ofU F_102 rfl ((IsInh_uf hq (((sn.ext e1).ext eh).ext e3) hqn hn).mono ?_)
          rintro v4 h4 ⟨e4, b, rfl⟩
          simp (disch := first | ((try simp only [heapN]) <;> omega) | fail) only [go_sem, seval]
          have e34 := e3.trans e4
          cases b with
          | true =>
            simp (disch := first | ((try simp only [heapN]) <;> omega) | fail) only [go_sem, seval, hocc0]
            have hn5 := e34.nxt
            refine fappend (m := h.nxt + 2) (xs := os) (y := (⟨[.int .i64 (((p + 1 : Nat) : Int)), .int .i64 (a : Nat), .int .i64 0, .int .i64 0, .int .i64 0, .str [], .slc none 0 (some 0) 0, .int .i64 0, .int .i64 0, .slc none 0 (some 0) 0]⟩ : Opq 10)) T_61 rfl T_135 rfl (by decide) (by decide) ((O.ext e34).ext (Ext.add _ _)) (LSlc.lit (b := h4.nxt) (ls := [[.int .i64 (((p + 1 : Nat) : Int)), .int .i64 (a : Nat), .int .i64 0, .int .i64 0, .int .i64 0, .str [], .slc none 0 (some 0) 0, .int .i64 0, .int .i64 0, .slc none 0 (some 0) 0]]) (by simp) get_add_self rfl (Reps.one (x := (⟨[.int .i64 (((p + 1 : Nat) : Int)), .int .i64 (a : Nat), .int .i64 0, .int .i64 0, .int .i64 0, .str [], .slc none 0 (some 0) 0, .int .i64 0, .int .i64 0, .slc none 0 (some 0) 0]⟩ : Opq 10)) ⟨rfl, rfl, rfl⟩) rfl rfl) (by simp; omega) (by simp [roomA]; omega) ?_
            intro v6 h6 O6 u6 b6
            simp (disch := first | ((try simp only [heapN]) <;> omega) | fail) only [go_sem, seval]
            exact AgainK.mk (cntA ns (sy.at_) - (a + 1)) (by simp only; omega) ⟨a + 1, v6, _, os ++ [_], is, by omega, rfl, ((((eh.trans e34).trans (Ext.add _ _)).upd (h.nxt + 2 ≤ ·)).trans' u6 fun b h1 h2 => O.blk h1).ext fun b hb => by omega, O6, (I.ext (e34.trans (Ext.add _ _))).upd u6 fun b _ e e2 => hsep b e2 e, fun b e e2 => by have := I.lt e2; have := b6 b e; simp at this; omega, by simp; omega, by omega, rfl, by simp [Has]⟩
          | false =>
            simp (disch := first | ((try simp only [heapN]) <;> omega) | fail) only [go_sem, seval, hocc0]
            refine callV_ofU F_63 rfl ((ref_uf).mono ?_)
            rintro v5 h5 ⟨e5, ex, rfl⟩
            simp (disch := first | ((try simp only [heapN]) <;> omega) | fail) only [go_sem, seval]
            simp only [GEx.cells]
            simp (disch := first | ((try simp only [heapN]) <;> omega) | fail) only [go_sem, seval]
            have e25 := e34.trans e5
            have hn5 := e25.nxt
            refine fappend (m := h.nxt + 2) (xs := is) (y := ex) T_130 rfl T_132 rfl (by decide) (by decide) ((I.ext e25).ext (Ext.add _ _)) (LSlc.lit (b := h5.nxt) (ls := [ex.cells]) (by simp) get_add_self rfl (Reps.one (x := ex) rfl) rfl rfl) (by simp; omega) (by simp [roomA]; omega) ?_
            intro v6 h6 I6 u6 b6
            simp (disch := first | ((try simp only [heapN]) <;> omega) | fail) only [go_sem, seval]
            exact AgainK.mk (cntA ns (sy.at_) - (a + 1)) (by simp only; omega) ⟨a + 1, _, v6, os, is ++ [ex], by omega, rfl, ((((eh.trans e25).trans (Ext.add _ _)).upd (h.nxt + 2 ≤ ·)).trans' u6 fun b h1 h2 => I.blk h1).ext fun b hb => by omega, (O.ext (e25.trans (Ext.add _ _))).upd u6 fun b _ e e2 => hsep b e e2, I6, fun b e e2 => by have := O.lt e; have := b6 b e2; simp at this; omega, by omega, by simp; omega, rfl, by simp [Has]⟩
        · simp (disch := first | ((try simp only [heapN]) <;> omega) | fail) only [go_sem, seval, hlta]
          have c4 := cntA_le hf (sy.at_)
          refine AgainK.mk (rs.length + 1 - (p + 1 + 1)) (by simp only; omega) ⟨p + 1 + 1, _, _, os, is, by omega, rfl, eh.trans e3, O.ext e3, I.ext e3, hsep, by omega, by omega, rfl, by simp [Has]⟩
    · have hocc0 : ((occ : Int) = 0) = True := by simp; omega
      simp (disch := first | ((try simp only [heapN]) <;> omega) | fail) only [go_sem, seval, hlt, hpos, g5h]
      refine LoopU_while (fun m st h2 => ∃ (a : Nat) (ov iv : AV) (os : List (Opq 10)) (is : List GEx), a ≤ cntA ns left ∧ m = cntA ns left - a ∧ Ext h1 h2 ∧ LFresh (h.nxt + 2) h2 ov os ∧ LFresh (h.nxt + 2) h2 iv is ∧ (∀ b, ov.blk = some b → iv.blk ≠ some b) ∧ os.length ≤ 4 * (occ) + a ∧ is.length ≤ 5 * (occ) + a ∧
          Keep st 113 [(0, .ptr (some (k, 0))), (4, .ptr (some (h.nxt, 0))), (5, .ptr (some (h.nxt + 1, 0))), (7, ov), (8, iv), (9, .int .i64 ((occ : Nat))), (10, .int .i64 (left)), (11, .int .i64 (a : Nat))]) (cntA ns left)
        ⟨0, _, _, os, is, by omega, by omega, eh, O, I, hsep, by omega, by omega, rfl, by simp [Has]⟩ ?_
      clear k0 k4 k5 k7 k8 k9 hk
      rintro m st h2 ⟨a, ov, iv, os, is, ha, rfl, eh, O, I, hsep, hol, hil, hk⟩
      obtain ⟨oa, on, oc, oz, rfl, hon⟩ := O.form
      obtain ⟨ia, iln, ic, iz, rfl, hin⟩ := I.form
      rw [hk.eq]
      obtain ⟨k0, k4, k5, k7, k8, k9, k10, k11, -⟩ := hk.2
      simp only [slotsFrom, Nat.reduceAdd] at k0 k4 k5 k7 k8 k9 k10 k11 ⊢
      simp only [k0, k4, k5, k7, k8, k9, k10, k11]
      have g4h := (eh.get _ (by omega)).trans g4
      have hnh := eh.nxt
      simp (disch := first | ((try simp only [heapN]) <;> omega) | fail) only [go_sem, seval, g4h]
      refine callV_ofU F_101 rfl ((Count_uf ((sn.ext e1).ext eh) hn hf).mono ?_)
      rintro v3 h3 ⟨e3, rfl⟩
      simp (disch := first | ((try simp only [heapN]) <;> omega) | fail) only [go_sem, seval]
      have hn3 := e3.nxt
      by_cases hlta : (a : Int) < (cntA ns left : Nat)
      · obtain ⟨q, hq, hqn⟩ := cntA_pos (show 0 < cntA ns left by omega)
        have g4i := (e3.get _ (by omega)).trans g4h
        have c4 := cntA_le hf (left)
        simp (disch := first | ((try simp only [heapN]) <;> omega) | fail) only [go_sem, seval, hlta, g4i]
        refine callV_ofU F_102 rfl ((IsInh_uf hq (((sn.ext e1).ext eh).ext e3) hqn hn).mono ?_)
        rintro v4 h4 ⟨e4, b, rfl⟩
        simp (disch := first | ((try simp only [heapN]) <;> omega) | fail) only [go_sem, seval]
        have e34 := e3.trans e4
        cases b with
        | true =>
          simp (disch := first | ((try simp only [heapN]) <;> omega) | fail) only [go_sem, seval, hocc0]
          refine callV_ofU F_63 rfl ((ref_uf).mono ?_)
          rintro v5 h5 ⟨e5, ex, rfl⟩
          simp (disch := first | ((try simp only [heapN]) <;> omega) | fail) only [go_sem, seval]
          simp only [GEx.cells]
          simp (disch := first | ((try simp only [heapN]) <;> omega) | fail) only [go_sem, seval]
          have e25 := e34.trans e5
          have hn5 := e25.nxt
          refine fappend (m := h.nxt + 2) (xs := is) (y := ex) T_130 rfl T_132 rfl (by decide) (by decide) ((I.ext e25).ext (Ext.add _ _)) (LSlc.lit (b := h5.nxt) (ls := [ex.cells]) (by simp) get_add_self rfl (Reps.one (x := ex) rfl) rfl rfl) (by simp; omega) (by simp [roomA]; omega) ?_
          intro v6 h6 I6 u6 b6
          simp (disch := first | ((try simp only [heapN]) <;> omega) | fail) only [go_sem, seval]
          exact AgainK.mk (cntA ns (left) - (a + 1)) (by simp only; omega) ⟨a + 1, _, v6, os, is ++ [ex], by omega, rfl, ((((eh.trans e25).trans (Ext.add _ _)).upd (h.nxt + 2 ≤ ·)).trans' u6 fun b h1 h2 => I.blk h1).ext fun b hb => by omega, (O.ext (e25.trans (Ext.add _ _))).upd u6 fun b _ e e2 => hsep b e e2, I6, fun b e e2 => by have := O.lt e; have := b6 b e2; simp at this; omega, by omega, by simp; omega, rfl, by simp [Has]⟩
        | false =>
          simp (disch := first | ((try simp only [heapN]) <;> omega) | fail) only [go_sem, seval, hocc0]
          have hn5 := e34.nxt
          refine fappend (m := h.nxt + 2) (xs := os) (y := (⟨[.int .i64 ((occ : Nat)), .int .i64 (a : Nat), .int .i64 0, .int .i64 0, .int .i64 0, .str [], .slc none 0 (some 0) 0, .int .i64 0, .int .i64 0, .slc none 0 (some 0) 0]⟩ : Opq 10)) T_61 rfl T_135 rfl (by decide) (by decide) ((O.ext e34).ext (Ext.add _ _)) (LSlc.lit (b := h4.nxt) (ls := [[.int .i64 ((occ : Nat)), .int .i64 (a : Nat), .int .i64 0, .int .i64 0, .int .i64 0, .str [], .slc none 0 (some 0) 0, .int .i64 0, .int .i64 0, .slc none 0 (some 0) 0]]) (by simp) get_add_self rfl (Reps.one (x := (⟨[.int .i64 ((occ : Nat)), .int .i64 (a : Nat), .int .i64 0, .int .i64 0, .int .i64 0, .str [], .slc none 0 (some 0) 0, .int .i64 0, .int .i64 0, .slc none 0 (some 0) 0]⟩ : Opq 10)) ⟨rfl, rfl, rfl⟩) rfl rfl) (by simp; omega) (by simp [roomA]; omega) ?_
          intro v6 h6 O6 u6 b6
          simp (disch := first | ((try simp only [heapN]) <;> omega) | fail) only [go_sem, seval]
          exact AgainK.mk (cntA ns (left) - (a + 1)) (by simp only; omega) ⟨a + 1, v6, _, os ++ [_], is, by omega, rfl, ((((eh.trans e34).trans (Ext.add _ _)).upd (h.nxt + 2 ≤ ·)).trans' u6 fun b h1 h2 => O.blk h1).ext fun b hb => by omega, O6, (I.ext (e34.trans (Ext.add _ _))).upd u6 fun b _ e e2 => hsep b e2 e, fun b e e2 => by have := I.lt e2; have := b6 b e; simp at this; omega, by simp; omega, by omega, rfl, by simp [Has]⟩
      · simp (disch := first | ((try simp only [heapN]) <;> omega) | fail) only [go_sem, seval, hlta]
        have c4 := cntA_le hf (left)
        refine AgainK.mk (rs.length + 1 - (occ + 1)) (by simp only; omega) ⟨occ + 1, _, _, os, is, by omega, rfl, eh.trans e3, O.ext e3, I.ext e3, hsep, by omega, by omega, rfl, by simp [Has]⟩
  · simp (disch := first | ((try simp only [heapN]) <;> omega) | fail) only [go_sem, seval, hlt]
    obtain ⟨h9, l9, n9, I9, u9⟩ := I.frz
    refine LoopU_less l9 ?_
    have O9 := O.upd u9 fun b _ e e2 => hsep b e e2.2
    have e9 : Ext h h9 := (((e1.trans eh).upd (h.nxt ≤ ·)).trans' u9 fun b e _ => by have := e.1; omega).ext fun b hb => by omega
    have P9 := P.ext e9
    have hkn := P.lt
    refine LoopU_while (fun m st h2 => ∃ (i : Nat) (xs : List (Opq 10)), i ≤ xs.length ∧ m = xs.length - i ∧ xs.length = os.length ∧ Upd (· = k) h h2 ∧ Pk h2 k pk l ∧ LFresh (h.nxt + 2) h2 (.slc oa on oc oz) xs ∧ Lst h2 (.slc ia iln ic iz) is ∧
        Keep st 113 [(0, .ptr (some (k, 0))), (7, .slc oa on oc oz), (8, .slc ia iln ic iz), (12, .int .i64 (i : Nat))]) os.length
      ⟨0, os, by omega, by omega, rfl, e9.upd _, P9, O9, I9, rfl, by simp [Has]⟩ ?_
    clear hk k0 k4 k5 k7 k8 k9
    rintro m st h2 ⟨i, xs, hi, rfl, hxl, u2, P2, O2, I2, hk⟩
    rw [hk.eq]
    obtain ⟨k0, k7, k8, k12, -⟩ := hk.2
    simp only [slotsFrom, Nat.reduceAdd] at k0 k7 k8 k12 ⊢
    simp only [k0, k7, k8, k12]
    have hn2 := u2.nxt
    simp (disch := first | ((try simp only [heapN]) <;> omega) | fail) only [go_sem, seval]
    by_cases hlti : (i : Int) < (on : Int)
    · simp (disch := first | ((try simp only [heapN]) <;> omega) | fail) only [go_sem, seval, hlti]
      refine callV_ofU F_47 rfl ((Num_uf (m := 5) P2 hl (by omega)).mono ?_)
      rintro v3 h3 ⟨u3, P3, x, hx, rfl⟩
      simp (disch := first | ((try simp only [heapN]) <;> omega) | fail) only [go_sem, seval]
      refine callV_ofU F_62 rfl ((con_uf).mono ?_)
      rintro v4 h4 ⟨e4, ex, rfl⟩
      simp (disch := first | ((try simp only [heapN]) <;> omega) | fail) only [go_sem, seval]
      simp only [GEx.cells]
      simp (disch := first | ((try simp only [heapN]) <;> omega) | fail) only [go_sem, seval]
      have hn3 := u3.nxt
      have hn4 := e4.nxt
      have e5 : Ext h4 ((h4.add (.cells [.int .i64 0, .int .i64 0, .int .i64 0, .str [], .slc none 0 (some 0) 0, .int .i64 0, .int .i64 0, .slc none 0 (some 0) 0] true)).put h4.nxt (.cells ex.cells true)) := (Ext.add _ _).put (Nat.le_refl _)
      have g5 : ((h4.add (.cells [.int .i64 0, .int .i64 0, .int .i64 0, .str [], .slc none 0 (some 0) 0, .int .i64 0, .int .i64 0, .slc none 0 (some 0) 0] true)).put h4.nxt (.cells ex.cells true)).get h4.nxt = some (.cells ex.cells true) := get_put_self
      have n5 : ((h4.add (.cells [.int .i64 0, .int .i64 0, .int .i64 0, .str [], .slc none 0 (some 0) 0, .int .i64 0, .int .i64 0, .slc none 0 (some 0) 0] true)).put h4.nxt (.cells ex.cells true)).nxt = h4.nxt + 1 := by simp
      simp only [GEx.cells] at e5 g5 n5
      generalize ((h4.add (.cells [.int .i64 0, .int .i64 0, .int .i64 0, .str [], .slc none 0 (some 0) 0, .int .i64 0, .int .i64 0, .slc none 0 (some 0) 0] true)).put h4.nxt _) = h5 at *
      refine callV_ofU F_47 rfl ((Num_uf (m := 3) (P3.ext (e4.trans e5)) hl (by omega)).mono ?_)
      rintro v6 h6 ⟨u6, P6, y, hy, rfl⟩
      simp (disch := first | ((try simp only [heapN]) <;> omega) | fail) only [go_sem, seval]
      have hn6 := u6.nxt
      have g6 := (u6.get _ (by omega) (by omega : h4.nxt ≠ k)).trans g5
      have u26 : Upd (· = k) h2 h6 := (u3.trans ((e4.trans e5).upd _)).trans u6
      have O6 : LFresh (h.nxt + 2) h6 (.slc oa on oc oz) xs := O2.upd u26 fun b hb _ e => by omega
      have I6 := I2.pst u26.pst
      refine LoopU_while (fun m st hd => ∃ (j : Nat) (ex : GEx), j ≤ 3 ∧ j = m ∧ Upd (fun b => b = k ∨ b = h4.nxt) h6 hd ∧ Pk hd k pk l ∧ hd.get h4.nxt = some (.cells ex.cells true) ∧
          Keep st 113 [(0, .ptr (some (k, 0))), (7, .slc oa on oc oz), (8, .slc ia iln ic iz), (12, .int .i64 (i : Nat)), (13, .ptr (some (h4.nxt, 0))), (14, .int .i64 (j : Nat))]) y
        ⟨y, ex, by omega, rfl, Upd.refl _ _, P6, g6, rfl, by simp [Has]⟩ ?_
      clear hk k0 k7 k8 k12
      rintro m st hd ⟨j, ex, hj, rfl, ud, Pd, gd, hk⟩
      rw [hk.eq]
      obtain ⟨k0, k7, k8, k12, k13, k14, -⟩ := hk.2
      simp only [slotsFrom, Nat.reduceAdd] at k0 k7 k8 k12 k13 k14 ⊢
      simp only [k0, k7, k8, k12, k13, k14]
      simp (disch := first | ((try simp only [heapN]) <;> omega) | fail) only [go_sem, seval]
      by_cases hj0 : (j : Int) > 0
      · by_cases hi0 : (iln : Int) > 0
        · have hil0 : 0 < is.length := by omega
          have Id := I6.pst ud.pst
          obtain ⟨b1, o1, cs1, l1, rfl, rfl, hb1, hg1, rfl, hr1, ht1, hc1⟩ := Id.at_ (i := 0) (x := is[0]) (List.getElem?_eq_getElem hil0) (k := 8) rfl
          have hnd := ud.nxt
          have hkb : b1 ≠ k := fun e => by
            obtain ⟨_, ⟨_, gk, _⟩, _⟩ := Pd
            rw [← e, hg1] at gk; simp at gk
          simp (disch := first | ((try simp only [heapN]) <;> omega) | fail) only [go_sem, seval, hj0, hi0]
          refine DrawZ_of' (fun b => b = h4.nxt ∨ b = b1) [0, 0, 2, 7, 15, 0, 0, 0, 0, 256, 902, 1990, 4038, 8166, 16383, 32767] (by rfl) (by rfl) (fun b hb => by rcases hb with rfl | rfl <;> omega) ?_
          simp (disch := first | ((try simp only [heapN]) <;> omega) | fail) only [go_sem, seval]
          refine callV_ofU F_47 rfl ((Num_uf (m := 4) (Pd.ext (Ext.bump _ _)) hl (by omega)).mono ?_)
          rintro v7 h7 ⟨u7, P7, w, hw, rfl⟩
          simp (disch := first | ((try simp only [heapN]) <;> omega) | fail) only [go_sem, seval]
          have hn7 := u7.nxt
          simp only [bump_nxt] at hn7
          have k7 : ∀ b, b = h4.nxt ∨ b = b1 → h7.get b = hd.get b := fun b hb => (u7.get b (by rcases hb with rfl | rfl <;> simp <;> omega) (by rcases hb with rfl | rfl <;> omega)).trans (by simp)
          refine ⟨.inl k7, ?_⟩
          have hw4 : (w : Int) < (4 : Nat) := by omega
          obtain ⟨op, hop⟩ : ∃ op : Int, ([.int .i64 4, .int .i64 7, .int .i64 13, .int .i64 14] : List AV)[w * 1]? = some (.int .i64 op) := by
            obtain rfl | rfl | rfl | rfl : w = 0 ∨ w = 1 ∨ w = 2 ∨ w = 3 := by omega
            · exact ⟨4, rfl⟩
            · exact ⟨7, rfl⟩
            · exact ⟨13, rfl⟩
            · exact ⟨14, rfl⟩
          refine LoadK_newJZ (a := 0) rfl (by rfl) (.head _) (by rfl) ?_
          simp (disch := first | ((try simp only [heapN]) <;> omega) | fail) only [go_sem, seval, hop, Int.toNat_natCast]
          refine LoadK_ofZ rfl (.inl rfl) ?_
          have gd7 := (k7 _ (.inl rfl)).trans gd
          simp only [GEx.cells] at gd7
          simp (disch := first | ((try simp only [heapN]) <;> omega) | fail) only [go_sem, seval, gd7]
          refine callV_ofU F_47 rfl ((Num_uf (m := iln) P7 hl (by omega)).mono ?_)
          rintro v8 h8 ⟨u8, P8, q, hq, rfl⟩
          simp (disch := first | ((try simp only [heapN]) <;> omega) | fail) only [go_sem, seval]
          have hn8 := u8.nxt
          have k8 : ∀ b, b = h4.nxt ∨ b = b1 → h8.get b = h7.get b := fun b hb => u8.get b (by rcases hb with rfl | rfl <;> omega) (by rcases hb with rfl | rfl <;> omega)
          refine ⟨.inl k8, ?_⟩
          have hqn : (q : Int) < (iln : Int) := by omega
          have hql : q < is.length := by omega
          obtain ⟨b2, o2, cs2, l2, e2', _, hb2, hg2, rfl, hr2, ht2, hc2⟩ := Id.at_ (i := q) (x := is[q]) (List.getElem?_eq_getElem hql) (k := 8) rfl
          simp only [Option.some.injEq, Prod.mk.injEq] at e2'
          obtain ⟨rfl, rfl⟩ := e2'
          rw [hg1] at hg2
          simp only [Option.some.injEq, Blk.cells.injEq, and_true] at hg2
          subst hg2
          have g8 := ((k8 _ (.inr rfl)).trans (k7 _ (.inr rfl))).trans hg1
          generalize is[q] = eq at *
          refine LoadK_ofZ rfl (.inr rfl) ?_
          simp only [GEx.cells] at ht2
          have gd8 := (k8 _ (.inl rfl)).trans gd7
          simp (disch := first | ((try simp only [heapN]) <;> omega) | fail) only [go_sem, seval, g8, gd8, hr2, ht2, Int.toNat_natCast]
          refine ⟨.inr (by rfl), ?_⟩
          have hjj : (j : Int) - 1 = ((j - 1 : Nat) : Int) := by omega
          have uE : Upd (· = k) hd h8 := (((Ext.bump hd 16).upd _).trans u7).trans u8
          rw [hjj]
          have uN := fun x y => (uE.putNew (b := hd.nxt) (Nat.le_refl _) x).putNew (b := hd.nxt + 13) (by omega) y
          have gN : ∀ x y, ((h8.put hd.nxt x).put (hd.nxt + 13) y).get h4.nxt = _ := fun x y => ((get_put_ne (by omega)).trans (get_put_ne (by omega))).trans gd8
          have uL : ∀ x y w, Upd (· = h4.nxt) ((h8.put hd.nxt x).put (hd.nxt + 13) y) (((h8.put hd.nxt x).put (hd.nxt + 13) y).put h4.nxt w) := fun x y w => Upd.put _ rfl fun cs e => by rw [gN] at e; simp at e
          refine AgainK.mk (j - 1) (by simp only; omega) ⟨j - 1, ⟨op, 0, 0, [], none, 0, some 0, 0, 0, 0, some (hd.nxt + 13, 0), 2, some 2, 8⟩, by omega, rfl, (ud.trans ((uN _ _).weak fun b _ e => .inl e)).trans ((uL _ _ _).weak fun b _ e => .inr e), ?_, get_put_self, rfl, by simp [Has]⟩
          exact (Pd.putNew P8 (uN _ _) (by rw [get_put_ne (by omega), get_put_ne (by omega)])).upd (uL _ _ _) (by omega)
        · simp (disch := first | ((try simp only [heapN]) <;> omega) | fail) only [go_sem, seval, hj0, hi0]
          have Od : LFresh (h.nxt + 2) hd (.slc oa on oc oz) xs := O6.upd ud fun b hb e e2 => by have := O2.lt e; omega
          have hnd := ud.nxt
          obtain ⟨ob, oo, ocs, rfl, rfl, hob1, hob2, hog, horoom, xs', hxl', Ox⟩ := opq_set (vs := ex.cells) Od (i := i) (by omega) rfl (by simp [GEx.cells, AV.leaf])
          simp only [GEx.cells] at gd
          have hor : oo + i * 10 + 2 + 8 ≤ ocs.length := by omega
          simp (disch := first | ((try simp only [heapN]) <;> omega) | fail) only [go_sem, seval, gd, hlti, hog, hor, Int.toNat_natCast]
          have uo : Upd (· = ob) hd (hd.put ob (.cells (setCells ocs (oo + i * 10 + 2) ex.cells) true)) := Upd.put _ rfl fun cs e => by rw [hog] at e; simp at e
          exact AgainK.mk (xs.length - (i + 1)) (by simp only; omega) ⟨i + 1, xs', by omega, by omega, by omega, ((u2.trans u26).trans' ud fun b e hb => by rcases e with e | e; exact e; omega).trans' uo fun b e hb => by omega, Pd.upd uo (by omega), Ox, (I6.pst ud.pst).pst uo.pst, rfl, by simp [Has]⟩
      · simp (disch := first | ((try simp only [heapN]) <;> omega) | fail) only [go_sem, seval, hj0]
        have Od : LFresh (h.nxt + 2) hd (.slc oa on oc oz) xs := O6.upd ud fun b hb e e2 => by have := O2.lt e; omega
        have hnd := ud.nxt
        obtain ⟨ob, oo, ocs, rfl, rfl, hob1, hob2, hog, horoom, xs', hxl', Ox⟩ := opq_set (vs := ex.cells) Od (i := i) (by omega) rfl (by simp [GEx.cells, AV.leaf])
        simp only [GEx.cells] at gd
        have hor : oo + i * 10 + 2 + 8 ≤ ocs.length := by omega
        simp (disch := first | ((try simp only [heapN]) <;> omega) | fail) only [go_sem, seval, gd, hlti, hog, hor, Int.toNat_natCast]
        have uo : Upd (· = ob) hd (hd.put ob (.cells (setCells ocs (oo + i * 10 + 2) ex.cells) true)) := Upd.put _ rfl fun cs e => by rw [hog] at e; simp at e
        exact AgainK.mk (xs.length - (i + 1)) (by simp only; omega) ⟨i + 1, xs', by omega, by omega, by omega, ((u2.trans u26).trans' ud fun b e hb => by rcases e with e | e; exact e; omega).trans' uo fun b e hb => by omega, Pd.upd uo (by omega), Ox, (I6.pst ud.pst).pst uo.pst, rfl, by simp [Has]⟩
    · simp (disch := first | ((try simp only [heapN]) <;> omega) | fail) only [go_sem, seval, hlti]
      obtain ⟨hf', lf, nf, Of, uf⟩ := O2.frz
      exact hQ _ _ hf' lf ⟨u2.trans' uf fun b e hb => by have := e.1; omega, P2.upd uf fun e => by have := e.1; omega, xs, Of⟩

end Go.Proofs.Ytaockkmmjinhpaa
