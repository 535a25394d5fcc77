/- Each production of a grammar is one nonterminal's, at its place. For numbers (150) of which the grammar is made. -/
import Derived.Test.YtaockkmmjinhpaaGGram
import Derived.Test.YtaockkmmjinhpaaGBeg
import Derived.KernelRfl
namespace Go.Proofs.Ytaockkmmjinhpaa
open Go Go.Am
set_option maxRecDepth 100000
set_option maxHeartbeats 4000000
set_option linter.unusedSimpArgs false
set_option linter.unusedVariables false

/-- The places of a nonterminal's productions, of the first so many. -/
def offs (ps : List GProd) (n : Int) : Nat → List Int
  | 0 => []
  | i + 1 => offs ps n i ++ (match ps[i]? with | some p => if p.left = n then [(i : Int)] else [] | none => [])
theorem offs_len (ps : List GProd) (n : Int) : ∀ i, (offs ps n i).length ≤ i
  | 0 => by simp [offs]
  | i + 1 => by
    have := offs_len ps n i
    rw [offs, List.length_append]
    split
    · split <;> simp <;> omega
    · simp; omega
theorem offs_mem (ps : List GProd) (n : Int) : ∀ i, ∀ e ∈ offs ps n i, ∃ k : Nat, e = k ∧ k < i ∧ ∃ p, ps[k]? = some p ∧ p.left = n
  | 0, e, h => by simp [offs] at h
  | i + 1, e, h => by
    rw [offs] at h
    rcases List.mem_append.1 h with h | h
    · obtain ⟨k, h1, h2, h3⟩ := offs_mem ps n i e h
      exact ⟨k, h1, by omega, h3⟩
    · split at h
      · rename_i p hp
        split at h
        · simp only [List.mem_singleton] at h
          rename_i hl
          exact ⟨i, h, by omega, p, hp, hl⟩
        · cases h
      · cases h
theorem offs_up (ps : List GProd) (n : Int) : ∀ i, (offs ps n i).Pairwise (· < ·)
  | 0 => by simp [offs]
  | i + 1 => by
    rw [offs, List.pairwise_append]
    refine ⟨offs_up ps n i, ?_, fun a ha b hb => ?_⟩
    · split
      · split <;> simp
      · simp
    · obtain ⟨k, rfl, hk, _⟩ := offs_mem ps n i a ha
      split at hb
      · split at hb
        · simp only [List.mem_singleton] at hb; subst hb; omega
        · cases hb
      · cases hb
def tot (ps : List GProd) (i : Nat) : Nat → Nat
  | 0 => 0
  | n + 1 => tot ps i n + (offs ps (n : Nat) i).length
theorem Offset_uf {h : Heap} {pv : AV} {ta na : Option (Nat × Nat)} {tn nn : Nat} {tc nc : Option Nat} {tz nz : Nat} {ps : List GProd} {n : Int} (sp : Lst h pv ps) (hl : ps.length ≤ 1000) : UF T F 32 [.agg [.slc ta tn tc tz, .slc na nn nc nz, pv], .int .i64 n] h fun v' h' => Ext h h' ∧ Lst h' v' (offs ps n ps.length) := by
  obtain ⟨pa, pn, pc, pz, rfl, hpn⟩ := sp.form
  refine UF.genq fun Q hQ => UF.of (F_32) (c := _) rfl ?_
  unfold Try.f32
  simp only [List.length, Nat.reduceSub, Nat.reduceAdd, List.replicate, List.cons_append, List.nil_append]
  simp (disch := omega) only [go_sem, seval]
  have e1 : Ext h (h.add (.cells [.slc ta tn tc tz, .slc na nn nc nz, .slc pa pn pc pz] true)) := Ext.add _ _
  have g1 : (h.add (.cells [.slc ta tn tc tz, .slc na nn nc nz, .slc pa pn pc pz] true)).get h.nxt = some (.cells [.slc ta tn tc tz, .slc na nn nc nz, .slc pa pn pc pz] true) := get_add_self
  have n1 : (h.add (.cells [.slc ta tn tc tz, .slc na nn nc nz, .slc pa pn pc pz] true)).nxt = h.nxt + 1 := by simp
  generalize (h.add (.cells [.slc ta tn tc tz, .slc na nn nc nz, .slc pa pn pc pz] true)) = h1 at *
  refine LoopU_while (fun m st hh => ∃ (i : Nat) (ov : AV), i ≤ ps.length ∧ m = ps.length - i ∧ Ext h1 hh ∧ LFresh (h.nxt + 1) hh ov (offs ps n i) ∧
      Keep st 25 [(1, .int .i64 n), (4, ov), (8, .slc pa pn pc pz), (9, .int .i64 (pn : Nat)), (10, .int .i64 (i : Nat))]) ps.length
    ⟨0, _, by omega, by omega, Ext.refl _, LFresh.nil, rfl, by simp [Has]⟩ ?_
  rintro m st hh ⟨i, ov, hi, rfl, eh, O, hk⟩
  obtain ⟨oa, on, oc, oz, rfl, hon⟩ := O.form
  rw [hk.eq]
  obtain ⟨k1, k4, k8, k9, k10, -⟩ := hk.2
  simp only [slotsFrom, Nat.reduceAdd] at k1 k4 k8 k9 k10 ⊢
  simp only [k1, k4, k8, k9, k10]
  have hnh := eh.nxt
  have hlo := offs_len ps n i
  simp (disch := omega) only [go_sem, seval]
  by_cases hlt : (i : Int) < (pn : Int)
  · have hil : i < ps.length := by omega
    obtain ⟨b1, o1, cs1, l1, rfl, rfl, hb1, hg1, ⟨ra, xa, rfl, sr, sx⟩, hr1, ht1, hc1⟩ := ((sp.ext e1).ext eh).at_ (i := i) (x := ps[i]) (List.getElem?_eq_getElem hil) (k := 3) rfl
    have hof : offs ps n (i + 1) = offs ps n i ++ if ps[i].left = n then [(i : Int)] else [] := by rw [offs, List.getElem?_eq_getElem hil]
    generalize ps[i] = p at *
    obtain ⟨ra, rn, rc, rz, rfl, hrn⟩ := sr.form
    obtain ⟨xa, xn, xc, xz, rfl, hxn⟩ := sx.form
    have e2 : Ext hh ((hh.add (.cells [.int .i64 0, .slc none 0 (some 0) 0, .slc none 0 (some 0) 0] true)).put hh.nxt (.cells [.int .i64 p.left, .slc ra rn rc rz, .slc xa xn xc xz] true)) := (Ext.add _ _).put (Nat.le_refl _)
    have g2 : ((hh.add (.cells [.int .i64 0, .slc none 0 (some 0) 0, .slc none 0 (some 0) 0] true)).put hh.nxt (.cells [.int .i64 p.left, .slc ra rn rc rz, .slc xa xn xc xz] true)).get hh.nxt = some (.cells [.int .i64 p.left, .slc ra rn rc rz, .slc xa xn xc xz] true) := get_put_self
    have n2 : ((hh.add (.cells [.int .i64 0, .slc none 0 (some 0) 0, .slc none 0 (some 0) 0] true)).put hh.nxt (.cells [.int .i64 p.left, .slc ra rn rc rz, .slc xa xn xc xz] true)).nxt = hh.nxt + 1 := by simp
    simp (disch := omega) only [go_sem, seval, hlt, hg1, hr1, ht1, Int.toNat_natCast]
    generalize ((hh.add (.cells [.int .i64 0, .slc none 0 (some 0) 0, .slc none 0 (some 0) 0] true)).put hh.nxt (.cells [.int .i64 p.left, .slc ra rn rc rz, .slc xa xn xc xz] true)) = h2 at *
    by_cases hp : p.left = n
    · rw [if_pos hp] at hof
      simp (disch := omega) only [go_sem, seval, hp]
      refine fappend (m := h.nxt + 1) (xs := offs ps n i) (y := (i : Int)) T_42 rfl T_3 rfl (by decide) (by decide) ((O.ext e2).ext (Ext.add _ _)) (LSlc.lit (b := h2.nxt) (ls := [[.int .i64 (i : Nat)]]) (by simp) get_add_self rfl (Reps.one (x := (i : Int)) rfl) rfl rfl) (by simp; omega) (by simp [roomA]; omega) ?_
      intro v5 h5 O5 u5 b5
      simp (disch := omega) only [go_sem, seval]
      exact AgainK.mk (ps.length - (i + 1)) (by simp only; omega) ⟨i + 1, v5, by omega, rfl, ((((eh.trans e2).trans (Ext.add _ _)).upd (h.nxt + 1 ≤ ·)).trans' u5 fun b h1 h2 => O.blk h1).ext fun b hb => by omega, by rw [hof]; exact O5, rfl, by simp [Has]⟩
    · rw [if_neg hp, List.append_nil] at hof
      simp (disch := omega) only [go_sem, seval, hp]
      exact AgainK.mk (ps.length - (i + 1)) (by simp only; omega) ⟨i + 1, _, by omega, rfl, eh.trans e2, by rw [hof]; exact O.ext e2, rfl, by simp [Has]⟩
  · simp (disch := omega) only [go_sem, seval, hlt]
    have hie : i = ps.length := by omega
    subst hie
    obtain ⟨h9, l9, n9, O9, u9⟩ := O.frz
    exact hQ _ _ h9 l9 ⟨(((e1.trans eh).upd (h.nxt ≤ ·)).trans' u9 fun b e _ => by have := e.1; omega).ext fun b hb => by omega, O9⟩

end Go.Proofs.Ytaockkmmjinhpaa
