/- Each production of a grammar is one nonterminal's, at its place. For numbers (150) of which the grammar is made. -/
import Derived.Test.YtaockkmmjinhpaaGGram
import Derived.Test.YtaockkmmjinhpaaGBeg
import Derived.KernelRfl
namespace Go.Proofs.Ytaockkmmjinhpaa
open Go Go.Am
set_option maxRecDepth 100000
set_option maxHeartbeats 4000000
set_option linter.unusedSimpArgs false
set_option linter.unusedVariables false

/-- The places of a nonterminal's productions, of the first so many. -/
def offs (ps : List GProd) (n : Int) : Nat → List Int
  | 0 => []
  | i + 1 => offs ps n i ++ (match ps[i]? with | some p => if p.left = n then [(i : Int)] else [] | none => [])
theorem offs_len (ps : List GProd) (n : Int) : ∀ i, (offs ps n i).length ≤ i
  | 0 => by simp [offs]
  | i + 1 => by
    have := offs_len ps n i
    rw [offs, List.length_append]
    split
    · split <;> simp <;> omega
    · simp; omega
theorem offs_mem (ps : List GProd) (n : Int) : ∀ i, ∀ e ∈ offs ps n i, ∃ k : Nat, e = k ∧ k < i ∧ ∃ p, ps[k]? = some p ∧ p.left = n
  | 0, e, h => by simp [offs] at h
  | i + 1, e, h => by
    rw [offs] at h
    rcases List.mem_append.1 h with h | h
    · obtain ⟨k, h1, h2, h3⟩ := offs_mem ps n i e h
      exact ⟨k, h1, by omega, h3⟩
    · split at h
      · rename_i p hp
        split at h
        · simp only [List.mem_singleton] at h
          rename_i hl
          exact ⟨i, h, by omega, p, hp, hl⟩
        · cases h
      · cases h
theorem offs_up (ps : List GProd) (n : Int) : ∀ i, (offs ps n i).Pairwise (· < ·)
  | 0 => by simp [offs]
  | i + 1 => by
    rw [offs, List.pairwise_append]
    refine ⟨offs_up ps n i, ?_, fun a ha b hb => ?_⟩
    · split
      · split <;> simp
      · simp
    · obtain ⟨k, rfl, hk, _⟩ := offs_mem ps n i a ha
      split at hb
      · split at hb
        · simp only [List.mem_singleton] at hb; subst hb; omega
        · cases hb
      · cases hb
def tot (ps : List GProd) (i : Nat) : Nat → Nat
  | 0 => 0
  | n + 1 => tot ps i n + (offs ps (n : Nat) i).length
theorem tot_succ {ps : List GProd} {i : Nat} {p : GProd} (hp : ps[i]? = some p) (h0 : 0 ≤ p.left) : ∀ n : Nat, tot ps (i + 1) n = tot ps i n + if p.left < n then 1 else 0
  | 0 => by rw [tot, tot, if_neg (by omega)]
  | n + 1 => by
    rw [tot, tot, tot_succ hp h0 n, offs, hp, List.length_append]
    simp only
    by_cases h1 : p.left = (n : Nat)
    · rw [if_pos h1, if_neg (by omega), if_pos (by omega)]; simp; omega
    · rw [if_neg h1]
      by_cases h2 : p.left < (n : Nat)
      · rw [if_pos h2, if_pos (by omega)]; simp; omega
      · rw [if_neg h2, if_neg (by omega)]; simp
theorem tot_all {ps : List GProd} {n : Nat} (h : ∀ p ∈ ps, 0 ≤ p.left ∧ p.left < n) : ∀ i, i ≤ ps.length → tot ps i n = i
  | 0, _ => by
    have : ∀ m, tot ps 0 m = 0 := fun m => by
      induction m with
      | zero => rfl
      | succ m ih => rw [tot, ih]; rfl
    exact this n
  | i + 1, hi => by
    have hp := h ps[i] (List.getElem_mem hi)
    rw [tot_succ (List.getElem?_eq_getElem hi) hp.1, tot_all h i (by omega), if_pos hp.2]
theorem offs_none {ps : List GProd} {n : Int} (h : ∀ p ∈ ps, p.left < n) (i : Nat) : offs ps n i = [] := by
  cases ho : offs ps n i with
  | nil => rfl
  | cons e l =>
    obtain ⟨k, _, _, p, hp, hl⟩ := offs_mem ps n i e (by rw [ho]; simp)
    have := h p (List.mem_of_getElem? hp)
    omega

theorem Offset_uf {h : Heap} {pv : AV} {ta na : Option (Nat × Nat)} {tn nn : Nat} {tc nc : Option Nat} {tz nz : Nat} {ps : List GProd} {n : Int} (sp : Lst h pv ps) (hl : ps.length ≤ 1000) : UF T F 32 [.agg [.slc ta tn tc tz, .slc na nn nc nz, pv], .int .i64 n] h fun v' h' => Ext h h' ∧ Lst h' v' (offs ps n ps.length) := by
  obtain ⟨pa, pn, pc, pz, rfl, hpn⟩ := sp.form
  refine UF.genq fun Q hQ => UF.of (F_32) (c := _) rfl ?_
  unfold Try.f32
  simp only [List.length, Nat.reduceSub, Nat.reduceAdd, List.replicate, List.cons_append, List.nil_append]
  simp (disch := omega) only [go_sem, seval]
  have e1 : Ext h (h.add (.cells [.slc ta tn tc tz, .slc na nn nc nz, .slc pa pn pc pz] true)) := Ext.add _ _
  have g1 : (h.add (.cells [.slc ta tn tc tz, .slc na nn nc nz, .slc pa pn pc pz] true)).get h.nxt = some (.cells [.slc ta tn tc tz, .slc na nn nc nz, .slc pa pn pc pz] true) := get_add_self
  have n1 : (h.add (.cells [.slc ta tn tc tz, .slc na nn nc nz, .slc pa pn pc pz] true)).nxt = h.nxt + 1 := by simp
  generalize (h.add (.cells [.slc ta tn tc tz, .slc na nn nc nz, .slc pa pn pc pz] true)) = h1 at *
  refine LoopU_while (fun m st hh => ∃ (i : Nat) (ov : AV), i ≤ ps.length ∧ m = ps.length - i ∧ Ext h1 hh ∧ LFresh (h.nxt + 1) hh ov (offs ps n i) ∧
      Keep st 25 [(1, .int .i64 n), (4, ov), (8, .slc pa pn pc pz), (9, .int .i64 (pn : Nat)), (10, .int .i64 (i : Nat))]) ps.length
    ⟨0, _, by omega, by omega, Ext.refl _, LFresh.nil, rfl, by simp [Has]⟩ ?_
  rintro m st hh ⟨i, ov, hi, rfl, eh, O, hk⟩
  obtain ⟨oa, on, oc, oz, rfl, hon⟩ := O.form
  rw [hk.eq]
  obtain ⟨k1, k4, k8, k9, k10, -⟩ := hk.2
  simp only [slotsFrom, Nat.reduceAdd] at k1 k4 k8 k9 k10 ⊢
  simp only [k1, k4, k8, k9, k10]
  have hnh := eh.nxt
  have hlo := offs_len ps n i
  simp (disch := omega) only [go_sem, seval]
  by_cases hlt : (i : Int) < (pn : Int)
  · have hil : i < ps.length := by omega
    obtain ⟨b1, o1, cs1, l1, rfl, rfl, hb1, hg1, ⟨ra, xa, rfl, sr, sx⟩, hr1, ht1, hc1⟩ := ((sp.ext e1).ext eh).at_ (i := i) (x := ps[i]) (List.getElem?_eq_getElem hil) (k := 3) rfl
    have hof : offs ps n (i + 1) = offs ps n i ++ if ps[i].left = n then [(i : Int)] else [] := by rw [offs, List.getElem?_eq_getElem hil]
    generalize ps[i] = p at *
    obtain ⟨ra, rn, rc, rz, rfl, hrn⟩ := sr.form
    obtain ⟨xa, xn, xc, xz, rfl, hxn⟩ := sx.form
    have e2 : Ext hh ((hh.add (.cells [.int .i64 0, .slc none 0 (some 0) 0, .slc none 0 (some 0) 0] true)).put hh.nxt (.cells [.int .i64 p.left, .slc ra rn rc rz, .slc xa xn xc xz] true)) := (Ext.add _ _).put (Nat.le_refl _)
    have g2 : ((hh.add (.cells [.int .i64 0, .slc none 0 (some 0) 0, .slc none 0 (some 0) 0] true)).put hh.nxt (.cells [.int .i64 p.left, .slc ra rn rc rz, .slc xa xn xc xz] true)).get hh.nxt = some (.cells [.int .i64 p.left, .slc ra rn rc rz, .slc xa xn xc xz] true) := get_put_self
    have n2 : ((hh.add (.cells [.int .i64 0, .slc none 0 (some 0) 0, .slc none 0 (some 0) 0] true)).put hh.nxt (.cells [.int .i64 p.left, .slc ra rn rc rz, .slc xa xn xc xz] true)).nxt = hh.nxt + 1 := by simp
    simp (disch := omega) only [go_sem, seval, hlt, hg1, hr1, ht1, Int.toNat_natCast]
    generalize ((hh.add (.cells [.int .i64 0, .slc none 0 (some 0) 0, .slc none 0 (some 0) 0] true)).put hh.nxt (.cells [.int .i64 p.left, .slc ra rn rc rz, .slc xa xn xc xz] true)) = h2 at *
    by_cases hp : p.left = n
    · rw [if_pos hp] at hof
      simp (disch := omega) only [go_sem, seval, hp]
      refine fappend (m := h.nxt + 1) (xs := offs ps n i) (y := (i : Int)) T_42 rfl T_3 rfl (by decide) (by decide) ((O.ext e2).ext (Ext.add _ _)) (LSlc.lit (b := h2.nxt) (ls := [[.int .i64 (i : Nat)]]) (by simp) get_add_self rfl (Reps.one (x := (i : Int)) rfl) rfl rfl) (by simp; omega) (by simp [roomA]; omega) ?_
      intro v5 h5 O5 u5 b5
      simp (disch := omega) only [go_sem, seval]
      exact AgainK.mk (ps.length - (i + 1)) (by simp only; omega) ⟨i + 1, v5, by omega, rfl, ((((eh.trans e2).trans (Ext.add _ _)).upd (h.nxt + 1 ≤ ·)).trans' u5 fun b h1 h2 => O.blk h1).ext fun b hb => by omega, by rw [hof]; exact O5, rfl, by simp [Has]⟩
    · rw [if_neg hp, List.append_nil] at hof
      simp (disch := omega) only [go_sem, seval, hp]
      exact AgainK.mk (ps.length - (i + 1)) (by simp only; omega) ⟨i + 1, _, by omega, rfl, eh.trans e2, by rw [hof]; exact O.ext e2, rfl, by simp [Has]⟩
  · simp (disch := omega) only [go_sem, seval, hlt]
    have hie : i = ps.length := by omega
    subst hie
    obtain ⟨h9, l9, n9, O9, u9⟩ := O.frz
    exact hQ _ _ h9 l9 ⟨(((e1.trans eh).upd (h.nxt ≤ ·)).trans' u9 fun b e _ => by have := e.1; omega).ext fun b hb => by omega, O9⟩

theorem GramOffset_uf {h : Heap} {v : AV} {l : List UInt8} (hn : h.nxt = 16) (hv : Lst h v l) : UF T F 8 [v] h fun v' _ => v' = .bool true := by
  obtain ⟨a, n, c, z, rfl, hln⟩ := hv.form
  refine UF.gen fun Q hQ => UF.of (F_8) (c := _) rfl ?_
  unfold Try.f8
  simp only [List.length, Nat.reduceSub, Nat.reduceAdd, List.replicate, List.cons_append, List.nil_append]
  simp (disch := omega) only [go_sem, seval]
  refine callV_ofU F_23 rfl ((begun11_uf hn).mono ?_)
  rintro v1 h1 ⟨e1, rfl⟩
  simp (disch := omega) only [go_sem, seval]
  by_cases h150 : (n : Int) > 150
  · simp (disch := omega) only [go_sem, seval, h150]
    exact hQ _ _ rfl
  simp (disch := omega) only [go_sem, seval, h150]
  refine callV_ofU F_25 rfl ((Made_uf (hv.ext e1)).mono ?_)
  rintro v2 h2 ⟨e2, rfl, P2⟩
  simp (disch := omega) only [go_sem, seval]
  refine callV_ofU F_26 rfl ((Grammar_uf P2 (by omega)).mono ?_)
  rintro v3 h3 ⟨u3, ⟨ts, ns, ps⟩, ⟨ga, gb, gc, rfl, Lt, Ln, Lp⟩, M⟩
  simp (disch := omega) only [go_sem, seval]
  obtain ⟨ta, tn, tc, tz, rfl, htn⟩ := Lt.form
  obtain ⟨na, nn, nc, nz, rfl, hnn⟩ := Ln.form
  obtain ⟨pa, pn, pc, pz, rfl, hpn⟩ := Lp.form
  simp only at htn hnn hpn Lp
  have hpl := M.pl
  have hnl := M.nl
  simp only at hpl hnl
  have hle : ∀ p ∈ ps, 0 ≤ p.left ∧ p.left < (nn : Nat) := fun p hp => by rw [hnn]; exact (M.prods p hp).1
  simp (disch := omega) only [go_sem, seval]
  have e4 : Ext h3 ((h3.add (.cells [.slc none 0 (some 0) 0, .slc none 0 (some 0) 0, .slc none 0 (some 0) 0] true)).put h3.nxt (.cells [.slc ta tn tc tz, .slc na nn nc nz, .slc pa pn pc pz] true)) := (Ext.add _ _).put (Nat.le_refl _)
  have g4 : ((h3.add (.cells [.slc none 0 (some 0) 0, .slc none 0 (some 0) 0, .slc none 0 (some 0) 0] true)).put h3.nxt (.cells [.slc ta tn tc tz, .slc na nn nc nz, .slc pa pn pc pz] true)).get h3.nxt = some (.cells [.slc ta tn tc tz, .slc na nn nc nz, .slc pa pn pc pz] true) := get_put_self
  have n4 : ((h3.add (.cells [.slc none 0 (some 0) 0, .slc none 0 (some 0) 0, .slc none 0 (some 0) 0] true)).put h3.nxt (.cells [.slc ta tn tc tz, .slc na nn nc nz, .slc pa pn pc pz] true)).nxt = h3.nxt + 1 := by simp
  generalize ((h3.add (.cells [.slc none 0 (some 0) 0, .slc none 0 (some 0) 0, .slc none 0 (some 0) 0] true)).put h3.nxt (.cells [.slc ta tn tc tz, .slc na nn nc nz, .slc pa pn pc pz] true)) = h4 at *
  have Lp4 := Lp.ext e4
  have htot : ∀ m, m ≤ nn → tot ps ps.length m ≤ 28 := fun m hm => by
    have : ∀ m, tot ps ps.length m ≤ m * 7 := fun m => by
      induction m with
      | zero => simp [tot]
      | succ m ih => have := offs_len ps (m : Nat) ps.length; rw [tot]; omega
    have := this m; omega
  refine LoopU_while (fun m st hh => ∃ (q : Nat), q ≤ nn ∧ m = nn - q ∧ Ext h4 hh ∧ Keep st 94 [(3, .ptr (some (h3.nxt, 0))), (4, .int .i64 (tot ps ps.length q : Nat)), (5, .int .i64 (q : Nat))]) nn
    ⟨0, by omega, by omega, Ext.refl _, rfl, by simp [Has, tot]⟩ ?_
  rintro m st hh ⟨q, hq, rfl, eh, hk⟩
  rw [hk.eq]
  obtain ⟨k3, k4, k5, -⟩ := hk.2
  simp only [slotsFrom, Nat.reduceAdd] at k3 k4 k5 ⊢
  simp only [k3, k4, k5]
  have gh := (eh.get _ (by omega)).trans g4
  have hnh := eh.nxt
  simp (disch := omega) only [go_sem, seval]
  by_cases hlt : (q : Int) < (nn : Int)
  · simp (disch := omega) only [go_sem, seval, gh, hlt]
    refine callV_ofU F_32 rfl ((Offset_uf (n := (q : Nat)) (Lp4.ext eh) (by omega)).mono ?_)
    rintro v5 h5 ⟨e5, L5⟩
    simp (disch := omega) only [go_sem, seval]
    obtain ⟨oa, on, oc, oz, rfl, hon⟩ := L5.form
    have hol := offs_len ps (q : Nat) ps.length
    have hom := offs_mem ps (q : Nat) ps.length
    have hou := offs_up ps (q : Nat) ps.length
    have htq : tot ps ps.length (q + 1) = tot ps ps.length q + on := by rw [tot, hon]
    have ht1 := htot q (by omega)
    have g5 := (e5.get _ (by omega)).trans gh
    have hn5 := e5.nxt
    generalize offs ps (q : Nat) ps.length = os at *
    refine LoopU_while (fun m st hx => ∃ (i : Nat), i ≤ os.length ∧ m = os.length - i ∧ Ext h5 hx ∧ Keep st 94 [(3, .ptr (some (h3.nxt, 0))), (4, .int .i64 (tot ps ps.length q : Nat)), (5, .int .i64 (q : Nat)), (6, .slc oa on oc oz), (7, .int .i64 (i : Nat))]) os.length
      ⟨0, by omega, by omega, Ext.refl _, rfl, by simp [Has]⟩ ?_
    clear hk k3 k4 k5
    rintro m st hx ⟨i, hi, rfl, ex, hk⟩
    rw [hk.eq]
    obtain ⟨k3, k4, k5, k6, k7, -⟩ := hk.2
    simp only [slotsFrom, Nat.reduceAdd] at k3 k4 k5 k6 k7 ⊢
    simp only [k3, k4, k5, k6, k7]
    have gx := (ex.get _ (by omega)).trans g5
    simp (disch := omega) only [go_sem, seval]
    by_cases hlti : (i : Int) < (on : Int)
    · have hil : i < os.length := by omega
      obtain ⟨k, hk1, hk2, p, hp1, hp2⟩ := hom os[i] (List.getElem_mem hil)
      obtain ⟨b1, o1, cs1, l1, rfl, rfl, hb1, hg1, rfl, hr1, ht1, hc1⟩ := (L5.ext ex).at_ (i := i) (x := os[i]) (List.getElem?_eq_getElem hil) (k := 1) rfl
      obtain ⟨b2, o2, cs2, l2, rfl, rfl, hb2, hg2, ⟨ra, xa, rfl, sr, sx⟩, hr2, ht2, hc2⟩ := ((Lp4.ext eh).ext (e5.trans ex)).at_ (i := k) (x := p) hp1 (k := 3) rfl
      have c1 : cs1[o1 + i * 1]? = some (.int .i64 (k : Nat)) := by rw [← hk1]; exact hc1 0 (by decide)
      have c2 : cs2[o2 + k * 3]? = some (.int .i64 (q : Nat)) := by rw [← hp2]; exact hc2 0 (by decide)
      have hk0 : ¬ (k : Int) < 0 := by omega
      have hk3 : ¬ (k : Int) ≥ (pn : Int) := by omega
      have hk4 : (k : Int) < (pn : Int) := by omega
      simp (disch := omega) only [go_sem, seval, hlti]
      by_cases hi0 : (i : Int) > 0
      · obtain ⟨i', rfl⟩ : ∃ i', i = i' + 1 := ⟨i - 1, by omega⟩
        have hil' : i' < os.length := by omega
        obtain ⟨b3, o3, cs3, l3, e3', _, hb3, hg3, rfl, hr3, ht3, hc3⟩ := (L5.ext ex).at_ (i := i') (x := os[i']) (List.getElem?_eq_getElem hil') (k := 1) rfl
        simp only [Option.some.injEq, Prod.mk.injEq] at e3'
        obtain ⟨rfl, rfl⟩ := e3'
        rw [hg1] at hg3
        simp only [Option.some.injEq, Blk.cells.injEq, and_true] at hg3
        subst hg3
        have c3 : cs1[o1 + i' * 1]? = some (.int .i64 os[i']) := hc3 0 (by decide)
        have hord : os[i'] < os[i' + 1] := List.pairwise_iff_getElem.1 hou i' (i' + 1) hil' hil (by omega)
        rw [hk1] at hord
        have hno : ¬ (k : Int) ≤ os[i'] := by omega
        have hi1 : ((i' + 1 : Nat) : Int) - 1 = (i' : Nat) := by omega
        have hi2 : (i' : Int) < (on : Int) := by omega
        generalize os[i'] = w at *
        refine DrawU_quiet (by rfl) ?_
        simp (disch := omega) only [go_sem, seval, hlti, hi0, hi1, hi2, hg1, c1, c3, hk0, hk3, hk4, gx, hg2, c2, hno, Int.toNat_natCast]
        exact AgainK.mk (os.length - (i' + 1 + 1)) (by simp only; omega) ⟨i' + 1 + 1, by omega, rfl, ex.trans (Ext.bump _ _), rfl, by simp [Has]⟩
      · skip
        refine DrawU_quiet (by rfl) ?_
        simp (disch := omega) only [go_sem, seval, hlti, hi0, hg1, c1, hk0, hk3, hk4, gx, hg2, c2, Int.toNat_natCast]
        exact AgainK.mk (os.length - (i + 1)) (by simp only; omega) ⟨i + 1, by omega, rfl, ex.trans (Ext.bump _ _), rfl, by simp [Has]⟩
    · simp (disch := omega) only [go_sem, seval, hlti]
      have htt : ((tot ps ps.length q : Nat) : Int) + (on : Nat) = ((tot ps ps.length (q + 1) : Nat) : Int) := by rw [htq]; simp
      simp (disch := omega) only [go_sem, seval, htt]
      exact AgainK.mk (nn - (q + 1)) (by simp only; omega) ⟨q + 1, by omega, rfl, (eh.trans e5).trans ex, rfl, by simp [Has]⟩
  · have hqe : q = nn := by omega
    have htt : ((tot ps ps.length q : Nat) : Int) = (pn : Nat) := by rw [hqe, tot_all hle ps.length (Nat.le_refl _)]; omega
    simp (disch := omega) only [go_sem, seval, gh, hlt, htt]
    refine callV_ofU F_32 rfl ((Offset_uf (n := (nn : Nat)) (Lp4.ext eh) (by omega)).mono ?_)
    rintro v5 h5 ⟨e5, L5⟩
    simp (disch := omega) only [go_sem, seval]
    rw [offs_none (fun p hp => (hle p hp).2)] at L5
    obtain ⟨oa, on, oc, oz, rfl, hon⟩ := L5.form
    have hon0 : (on : Int) = 0 := by simp at hon; omega
    simp (disch := omega) only [go_sem, seval, hon0]
    exact hQ _ _ rfl

theorem GramOffset_law {h : Heap} {v : AV} {zs : List Int} (hn : h.nxt = 16) (hv : Slc h v 1 (zs.map fun z => [.int .u8 z])) (hb : ∀ z ∈ zs, IntKind.u8.min ≤ z ∧ z ≤ IntKind.u8.max) :
    WF T F 8 [v] h fun v' h' => v' = .bool true := by
  obtain ⟨l, _, L⟩ := bytes_lst hv hb
  exact (UF.less (frzV_le _ _) (GramOffset_uf ((frzV_le h v).nxt.symm.trans hn) L)).toW

end Go.Proofs.Ytaockkmmjinhpaa
