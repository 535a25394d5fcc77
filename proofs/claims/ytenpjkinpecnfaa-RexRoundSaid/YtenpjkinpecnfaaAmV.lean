/-
  The abstract machine: a region whose order is drawn: whatever the order, it is as in the text's.
-/
import Derived.Test.YtenpjkinpecnfaaAmU
namespace Go.Am
variable {P : Program} {T : TT} {F : Nat → Option Func} {n0 base : Nat} {ops : Array Oper} {s0 : List AV} {h0 : Heap} {st : DSt}

theorem draw_go (hT : TypesOk P T) (hS : ∀ m, m ≤ n0 → SoundS P T F m) (D : DFin T F n0 ops base s0 h0 st) {z : Frz} (hz : ∀ b, z.res b = true → b < base) (b : Frame) (kk : List Item) (cs : List Frame) (hkn : b.kind = .normal) :
    ∀ (suf pre : List Nat) (k : Nat) (μ : Mu) (w : World) (t : List AV) (act : Act), Keeps ops (pre ++ suf) → InvD T z ops base s0 st pre k μ w t act →
    ∃ k' μ' w' t' act', μ.le μ' ∧ InvD T z ops base s0 st (pre ++ suf) k' μ' w' t' act' ∧ act'.defers = act.defers ∧
      Steps P (lone (b.atR act (.inRegion ops suf :: kk)) cs w) (lone (b.atR act' kk) cs w')
  | [], pre, k, μ, w, t, act, _, I => ⟨k, μ, w, t, act, Mu.le_refl _, by rw [List.append_nil]; exact I, rfl, .one stepR_region_end⟩
  | i :: suf, pre, k, μ, w, t, act, hK, I => by
    obtain ⟨h1, h2, h3⟩ := hK pre i suf rfl
    obtain ⟨k1, μ1, w1, t1, act1, a1, a2, a3, a4⟩ := draw_step hT hS D I hz h1 h2 h3 b kk cs suf hkn
    obtain ⟨k2, μ2, w2, t2, act2, b1, b2, b3, b4⟩ := draw_go hT hS D hz b kk cs hkn suf (pre ++ [i]) k1 μ1 w1 t1 act1 (by simpa using hK) a2
    exact ⟨k2, μ2, w2, t2, act2, Mu.le_trans a1 b1, by simpa using b2, b3.trans a3, Steps.trans a4 b4⟩

theorem draw_sim (hT : TypesOk P T) (hS : ∀ m, m ≤ n0 → SoundS P T F m) (hok : DOk T ops) {s : List AV} {h : Heap}
    (e : evalDs T F n0 ops.toList (befores ops.toList []) h.nxt (List.range ops.size) ⟨[], s, [], 0, ⟨h.nxt + ops.size, h.l⟩, []⟩ = some st) (hc : drawChk T ops.toList h.nxt st = true)
    {L : List Nat} (hK : Keeps ops L) (hL : ∀ i, i < ops.size → i ∈ L) {z : Frz} {μ : Mu} {w : World} {act : Act} (S : Sim z μ h w) (hs : VRs μ s act.tmps.toList) (b : Frame) (kk : List Item) (cs : List Frame) (hkn : b.kind = .normal) :
    ∃ μ' w' act', μ.le μ' ∧ Sim z μ' (putsA h.nxt (st.nb.filter fun p => !st.msk.testBit p.1) st.h) w' ∧ VRs μ' st.s act'.tmps.toList ∧ act'.defers = act.defers ∧
      Steps P (lone (b.atR act (.inRegion ops L :: kk)) cs w) (lone (b.atR act' kk) cs w') := by
  have hinv : DInv T F n0 ops.toList h.nxt ops.size s ⟨h.nxt + ops.size, h.l⟩ st :=
    evalDs_inv hok n0 ops.size 0 _ st (Nat.le_refl _) (by omega) (by rw [← List.range_eq_range']; exact e)
      ⟨rfl, rfl, fun p hp => by simp at hp, fun j x y hx => by simp at hx, rfl, rfl, fun p hp => by simp at hp, fun j hj => by omega⟩
  have D : DFin T F n0 ops h.nxt s ⟨h.nxt + ops.size, h.l⟩ st := ⟨hok, hinv, hc, fun hpos => by
    match n0, e with
    | 0, e => simp [evalDs] at e
    | 1, e =>
      exfalso
      rw [List.range_eq_range'] at e
      obtain ⟨m, hm⟩ : ∃ m, ops.size = m + 1 := ⟨ops.size - 1, by omega⟩
      rw [hm] at e
      simp only [List.range', evalDs, evalOs] at e
      repeat' split at e
      all_goals simp_all
    | n + 2, _ => omega⟩
  have hz : ∀ c, z.res c = true → c < h.nxt := fun c hc => (S.rsv c hc).2
  have hnil : (st.nb.filter fun p => ([] : List Nat).contains p.1 && !(0 : Nat).testBit p.1) = [] := by
    rw [List.filter_eq_nil_iff]; intro p _; simp
  have I : InvD T z ops h.nxt s st [] 0 μ w s act := by
    refine ⟨fun e _ => by simp, fun x hx => by simp at hx, rfl, ?_, hs, 0, _, hinv.h0, fun j hj => by simp at hj, fun j b _ hj => by simp at hj, ?_⟩
    · intro x m sm hm hw
      have hms : m ≤ ops.size := by
        have := (List.getElem?_eq_some_iff.1 hm).1
        simp [hinv.ss] at this; omega
      exact D.const m 0 s sm (fun j _ hj hwj => by have := (hw j hwj).2 (by omega); simp at this) (by omega) hinv.s0 (by rw [Nat.zero_add]; exact hm)
    · rw [hnil]
      refine (S.bump ops.size).reres _ (fun c hc => ?_)
      unfold resP at hc
      simp only [List.contains_nil, Bool.not_false, Bool.and_true] at hc
      exact hc
  obtain ⟨k', μ', w', t', act', a1, a2, a3, a4⟩ := draw_go hT hS D hz b kk cs hkn L [] 0 μ w s act (by simpa using hK) I
  rw [List.nil_append] at a2
  obtain ⟨msk, hh, e1, e2, e3, S'⟩ := a2.heap
  have hk : k' = cnt T ops.toList ops.size := by
    have h1 : k' ≤ cnt T ops.toList ops.size := by
      have := (List.getElem?_eq_some_iff.1 e1).1
      simp [hinv.hs] at this; omega
    rcases Nat.lt_or_ge k' (cnt T ops.toList ops.size) with hlt | hge
    · obtain ⟨e, f1, f2, f3⟩ := cnt_ex hlt
      have := (a2.eff e f2).1 (hL e f1)
      omega
    · omega
  have hlast : (st.hs ++ [(st.msk, st.h)])[k']? = some (st.msk, st.h) := by rw [hk, ← hinv.hs]; exact get_end _ _
  rw [hlast] at e1; cases e1
  have ht : t' = st.s := by
    refine List.ext_getElem? fun x => ?_
    refine a2.slot x ops.size st.s (by rw [← hinv.ss]; exact get_end _ _) (fun j hj => ?_)
    obtain ⟨o, ho, _⟩ := hj
    have := (Array.getElem?_eq_some_iff.1 ho).1
    exact ⟨fun _ => this, fun _ => hL j this⟩
  have hfl : (st.nb.filter fun p => L.contains p.1 && !st.msk.testBit p.1) = (st.nb.filter fun p => !st.msk.testBit p.1) := by
    refine List.filter_congr fun p hp => ?_
    have : L.contains p.1 = true := by simpa using hL p.1 (hinv.nb p hp)
    rw [this]; rfl
  rw [hfl] at S'
  refine ⟨μ', w', act', a1, S'.reres z.res (fun c hc => by unfold resP; simp [hc]), by rw [← ht]; exact a2.rel, a3, a4⟩

end Go.Am
