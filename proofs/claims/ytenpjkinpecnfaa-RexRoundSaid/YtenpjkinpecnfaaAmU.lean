/-
  The abstract machine: a region whose order is drawn, step by step in the order that is drawn.
-/
import Derived.Test.YtenpjkinpecnfaaAmT
namespace Go.Am
variable {P : Program} {T : TT} {F : Nat → Option Func} {n0 base : Nat} {ops : Array Oper} {s0 : List AV} {h0 : Heap} {st : DSt}

theorem pf_in {nb : List (Nat × Blk)} (one : ∀ j x y, (j, x) ∈ nb → (j, y) ∈ nb → x = y) (q : Nat → Bool) {j : Nat} {x : Blk} (hm : (j, x) ∈ nb) (hq : q j = true) (h : Heap) :
    (putsA base (nb.filter fun p => q p.1) h).get (base + j) = some x :=
  putsA_get base _ h (fun y hy => one j y x (List.mem_filter.1 hy).1 hm) (List.mem_filter.2 ⟨hm, hq⟩)

theorem pf_out {nb : List (Nat × Blk)} (q : Nat → Bool) {b : Nat} (hn : ∀ j x, (j, x) ∈ nb → q j = true → base + j ≠ b) (h : Heap) :
    (putsA base (nb.filter fun p => q p.1) h).get b = h.get b :=
  putsA_get_ne base _ h fun p hp => hn p.1 p.2 (List.mem_filter.1 hp).1 (List.mem_filter.1 hp).2

/-- Numbers that are put by: those of what is not yet made. -/
def resP (z : Frz) (base N : Nat) (pre : List Nat) : Nat → Bool := fun b => z.res b || (decide (base ≤ b) && decide (b < base + N) && !pre.contains (b - base))

/-- Between two operations. -/
structure InvD (T : TT) (z : Frz) (ops : Array Oper) (base : Nat) (s0 : List AV) (st : DSt) (pre : List Nat) (k : Nat) (μ : Mu) (w : World) (t : List AV) (act : Act) : Prop where
  eff : ∀ e, isEff T ops.toList e = true → (e ∈ pre ↔ cnt T ops.toList e < k)
  cl : ∀ x ∈ pre, ∀ j, ((befores ops.toList []).getD x 0).testBit j = true → j ∈ pre
  len : t.length = s0.length
  slot : ∀ (x m : Nat) (s : List AV), (st.ss ++ [st.s])[m]? = some s → (∀ j, wr ops j x → (j ∈ pre ↔ j < m)) → t[x]? = s[x]?
  rel : VRs μ t act.tmps.toList
  heap : ∃ msk h, (st.hs ++ [(st.msk, st.h)])[k]? = some (msk, h) ∧ (∀ j, msk.testBit j = true → j ∈ pre) ∧
    (∀ j b, (j, b) ∈ st.nb → j ∈ pre → msk.testBit j = false → h.get (base + j) = none) ∧
    Sim { z with res := resP z base ops.size pre } μ (putsA base (st.nb.filter fun p => pre.contains p.1 && !msk.testBit p.1) h) w

theorem run_one (hS : ∀ m, m ≤ n0 → SoundS P T F m) (D : DFin T F n0 ops base s0 h0 st) {z : Frz} {pre : List Nat} {μ : Mu} {w : World} {t t' : List AV} {act : Act} {i m msk bi : Nat} {h h' : Heap}
    (hnone : ∀ j b, (j, b) ∈ st.nb → j ∈ pre → msk.testBit j = false → h.get (base + j) = none)
    (S : Sim z μ (putsA base (st.nb.filter fun p => pre.contains p.1 && !msk.testBit p.1) h) w) (hrel : VRs μ t act.tmps.toList)
    (hb : ∀ j, bi.testBit j = true → j ∈ pre) (hm : m ≤ n0) (ev : evalOs T F m ops.toList [i] t (heapFor base st.nb bi msk h) = some (t', h')) (b : Frame) (k : List Item) (cs : List Frame) (rest : List Nat) (hkn : b.kind = .normal) :
    ∃ μ1 w1 act1, μ.le μ1 ∧ Sim z μ1 (putsA base (st.nb.filter fun p => pre.contains p.1 && !msk.testBit p.1 && !bi.testBit p.1) h') w1 ∧ VRs μ1 t' act1.tmps.toList ∧ act1.defers = act.defers ∧
      Steps P (lone (b.atR act (.inRegion ops (i :: rest) :: k)) cs w) (lone (b.atR act1 (.inRegion ops rest :: k)) cs w1) ∧
      (∀ j b, (j, b) ∈ st.nb → j ∈ pre → msk.testBit j = false → bi.testBit j = false → h'.get (base + j) = none) := by
  let ids := (st.nb.filter fun p => pre.contains p.1 && !msk.testBit p.1 && !bi.testBit p.1).map fun p => base + p.1
  have hids : ∀ c, c ∈ ids ↔ ∃ j x, (j, x) ∈ st.nb ∧ j ∈ pre ∧ msk.testBit j = false ∧ bi.testBit j = false ∧ c = base + j := by
    intro c
    simp only [ids, List.mem_map, List.mem_filter, Bool.and_eq_true, Bool.not_eq_true', List.contains_iff_mem, Prod.exists]
    constructor
    · rintro ⟨j, x, ⟨h1, ⟨h2, h3⟩, h4⟩, rfl⟩; exact ⟨j, x, h1, h2, h3, h4, rfl⟩
    · rintro ⟨j, x, h1, h2, h3, h4, rfl⟩; exact ⟨j, x, ⟨h1, ⟨h2, h3⟩, h4⟩, rfl⟩
  have one := D.inv.one
  have hGin : ∀ {j x}, (j, x) ∈ st.nb → j ∈ pre → msk.testBit j = false → (putsA base (st.nb.filter fun p => pre.contains p.1 && !msk.testBit p.1) h).get (base + j) = some x := fun {j x} h1 h2 h3 =>
    pf_in one (fun j => pre.contains j && !msk.testBit j) h1 (by simp [h2, h3]) h
  have S2 := S.hide (h0 := heapFor base st.nb bi msk h) (ids := ids) (by simp [heapFor, putsA_nxt]) (fun c hc => by
      by_cases ex : ∃ j x, (j, x) ∈ st.nb ∧ base + j = c
      · obtain ⟨j, x, hjx, rfl⟩ := ex
        cases hq : (bi.testBit j && !msk.testBit j) with
        | true =>
          simp only [Bool.and_eq_true, Bool.not_eq_true'] at hq
          have e1 : (heapFor base st.nb bi msk h).get (base + j) = some x := pf_in one (fun j => bi.testBit j && !msk.testBit j) hjx (by simp [hq.1, hq.2]) h
          rw [e1, hGin hjx (hb j hq.1) hq.2]
        | false =>
          have e1 : (heapFor base st.nb bi msk h).get (base + j) = h.get (base + j) := pf_out (fun j => bi.testBit j && !msk.testBit j) (fun j' x' _ hq' e => by
            have : j' = j := by omega
            subst this
            rw [hq] at hq'; cases hq') h
          rw [e1]
          refine (pf_out (fun j => pre.contains j && !msk.testBit j) (fun j' x' _ hq' e => ?_) h).symm
          have : j' = j := by omega
          subst this
          simp only [Bool.and_eq_true, Bool.not_eq_true', List.contains_iff_mem] at hq'
          refine hc ((hids _).2 ⟨j', x, hjx, hq'.1, hq'.2, ?_, rfl⟩)
          cases hbi : bi.testBit j' with
          | false => rfl
          | true => rw [hbi, hq'.2] at hq; cases hq
      · have hne : ∀ j x, (j, x) ∈ st.nb → base + j ≠ c := fun j x hjx e => ex ⟨j, x, hjx, e⟩
        have e1 : (heapFor base st.nb bi msk h).get c = h.get c := pf_out (fun j => bi.testBit j && !msk.testBit j) (fun j' x' h1 _ => hne j' x' h1) h
        rw [e1]
        exact (pf_out (fun j => pre.contains j && !msk.testBit j) (fun j' x' h1 _ => hne j' x' h1) h).symm)
    (fun c hc => by
      obtain ⟨j, x, h1, h2, h3, h4, rfl⟩ := (hids c).1 hc
      refine ⟨?_, x, hGin h1 h2 h3, D.mine h1⟩
      have e1 : (heapFor base st.nb bi msk h).get (base + j) = h.get (base + j) := pf_out (fun j => bi.testBit j && !msk.testBit j) (fun j' x' _ hq' e => by
        have : j' = j := by omega
        subst this
        rw [h4] at hq'; cases hq') h
      rw [e1]; exact hnone j x h1 h2 h3)
  obtain ⟨m', s1, h1, _, e1, hst⟩ := hS m hm ops i [] t _ t' h' ev
  obtain ⟨q1, q2⟩ := evalOs_nil e1
  subst q1 q2
  obtain ⟨μ1, w1, act1, a1, a2, a3, a4, a5⟩ := hst _ μ w act b k cs rest S2 hrel hkn
  refine ⟨μ1, w1, act1, a1, ?_, a3, a4, a5, fun j x h1 h2 h3 h4 => S.hidden_none a1 a2 ((hids _).2 ⟨j, x, h1, h2, h3, h4, rfl⟩) (hGin h1 h2 h3)⟩
  refine S.unhide a1 a2 (putsA_nxt _ _ _) (fun c hc => ?_) (fun c hc => ?_)
  · refine pf_out (fun j => pre.contains j && !msk.testBit j && !bi.testBit j) (fun j' x' h1 hq' e => ?_) h'
    simp only [Bool.and_eq_true, Bool.not_eq_true', List.contains_iff_mem] at hq'
    exact hc ((hids _).2 ⟨j', x', h1, hq'.1.1, hq'.1.2, hq'.2, e.symm⟩)
  · obtain ⟨j, x, h1, h2, h3, h4, rfl⟩ := (hids c).1 hc
    exact ⟨x, pf_in one (fun j => pre.contains j && !msk.testBit j && !bi.testBit j) h1 (by simp [h2, h3, h4]) h', hGin h1 h2 h3, D.mine h1⟩

theorem resP_le {z : Frz} {N i : Nat} {pre : List Nat} (b : Nat) (h : resP z base N (pre ++ [i]) b = true) : resP z base N pre b = true := by
  unfold resP at h ⊢
  simp only [Bool.or_eq_true, Bool.and_eq_true, Bool.not_eq_true'] at h ⊢
  rcases h with h | ⟨h1, h2⟩
  · exact .inl h
  · refine .inr ⟨h1, ?_⟩
    cases hq : pre.contains (b - base) with
    | false => rfl
    | true =>
      have : b - base ∈ pre := by simpa using hq
      have h3 : (pre ++ [i]).contains (b - base) = true := by simp [this]
      rw [h3] at h2; cases h2

theorem draw_step (hT : TypesOk P T) (hS : ∀ m, m ≤ n0 → SoundS P T F m) (D : DFin T F n0 ops base s0 h0 st) {z : Frz} {pre : List Nat} {k : Nat} {μ : Mu} {w : World} {t : List AV} {act : Act} (I : InvD T z ops base s0 st pre k μ w t act)
    (hz : ∀ b, z.res b = true → b < base) {i : Nat} (hi : i < ops.size) (hni : i ∉ pre) (hedge : ∀ o, ops[i]? = some o → ∀ e ∈ edges o, e.on ∈ pre) (b : Frame) (kk : List Item) (cs : List Frame) (rest : List Nat) (hkn : b.kind = .normal) :
    ∃ k' μ' w' t' act', μ.le μ' ∧ InvD T z ops base s0 st (pre ++ [i]) k' μ' w' t' act' ∧ act'.defers = act.defers ∧
      Steps P (lone (b.atR act (.inRegion ops (i :: rest) :: kk)) cs w) (lone (b.atR act' (.inRegion ops rest :: kk)) cs w') := by
  obtain ⟨o, s, s', msk1, h1, p1, p2, p3, p4, p5⟩ := D.inv.all i hi
  have ho : ops[i]? = some o := by simpa using p1
  have hb : ∀ j, ((befores ops.toList []).getD i 0).testBit j = true → j ∈ pre := by
    intro j hj
    obtain ⟨e, he, hh⟩ := D.ok.pre i o j ho hj
    rcases hh with rfl | hh
    · exact hedge o ho e he
    · exact I.cl e.on (hedge o ho e he) j hh
  have hcl : ∀ x ∈ pre ++ [i], ∀ j, ((befores ops.toList []).getD x 0).testBit j = true → j ∈ pre ++ [i] := by
    intro x hx j hj
    simp only [List.mem_append, List.mem_singleton] at hx ⊢
    rcases hx with hx | rfl
    · exact .inl (I.cl x hx j hj)
    · exact .inl (hb j hj)
  have hmem : ∀ j, j ≠ i → (j ∈ pre ++ [i] ↔ j ∈ pre) := fun j hj => by simp [hj]
  -- what the operation looks at is as it was in the text's order
  have hread : ∀ r ∈ readsOf ops.toList o, t[r]? = s[r]? := by
    intro r hr
    refine I.slot r i s p2 ?_
    rintro j ⟨oj, hj, hd⟩
    constructor
    · intro hjp
      rcases Nat.lt_trichotomy j i with hlt | rfl | hgt
      · exact hlt
      · exact absurd hjp hni
      · exact absurd (I.cl j hjp i (D.ok.ord i j o oj hgt ho hj (clash_read hd hr).2)) hni
    · intro hlt
      exact hb j (D.ok.ord j i oj o hlt hj ho (clash_read hd hr).1)
  -- what it leaves, too
  have hslot : ∀ v, s' = putA s o.dst v → (putA t o.dst v).length = s0.length ∧ ∀ (x m : Nat) (sm : List AV), (st.ss ++ [st.s])[m]? = some sm → (∀ j, wr ops j x → (j ∈ pre ++ [i] ↔ j < m)) → (putA t o.dst v)[x]? = sm[x]? := by
    intro v hv
    refine ⟨by rw [putA_len]; exact I.len, fun x m sm hm hw => ?_⟩
    by_cases hdx : o.dst = some x
    · have him : i < m := (hw i ⟨o, ho, hdx⟩).1 (by simp)
      have hms : m ≤ ops.size := by
        have := (List.getElem?_eq_some_iff.1 hm).1
        simp [D.inv.ss] at this; omega
      have hc := D.const (t := x) (m - (i + 1)) (i + 1) s' sm (fun j hj1 hj2 hwj => by
        obtain ⟨oj, hj, hd⟩ := hwj
        have hjp : j ∈ pre := (hmem j (by omega)).1 ((hw j ⟨oj, hj, hd⟩).2 (by omega))
        exact hni (I.cl j hjp i (D.ok.ord i j o oj (by omega) ho hj (clash_write hdx hd)))) (by omega) p3 (by rw [show i + 1 + (m - (i + 1)) = m by omega]; exact hm)
      rw [← hc, hv, hdx]
      simp only [putA]
      have hl1 := I.len
      have hl2 := D.len i s (by omega) p2
      rw [List.getElem?_set, List.getElem?_set]
      simp [hl1, hl2]
    · rw [putA_ne hdx]
      refine I.slot x m sm hm (fun j hj => ?_)
      have hji : j ≠ i := by
        rintro rfl
        obtain ⟨oj, hj1, hj2⟩ := hj
        rw [ho] at hj1; cases hj1; exact hdx hj2
      rw [← hmem j hji]; exact hw j hj
  obtain ⟨msk, h, e1, e2, e3, S⟩ := I.heap
  have two := D.two (by omega)
  -- what changes something
  have effi : dkind T o.op = .eff → isEff T ops.toList i = true := fun hk => by simp [isEff, p1, hk]
  have neffi : dkind T o.op ≠ .eff → isEff T ops.toList i = false := fun hk => by simp [isEff, p1, hk]
  have newi : ∀ x, (i, x) ∈ st.nb → dkind T o.op = .new := fun x hx => by
    obtain ⟨o', k1, k2⟩ := D.inv.knd _ hx
    simp only at k1
    rw [p1] at k1; cases k1; exact k2
  have heffs : ∀ e, isEff T ops.toList e = true → e ≠ i → isEff T ops.toList i = true → (e ∈ pre ↔ e < i) := by
    intro e he hne hii
    constructor
    · intro hep
      rcases Nat.lt_trichotomy e i with hlt | rfl | hgt
      · exact hlt
      · exact absurd rfl hne
      · exact absurd (I.cl e hep i (D.effOrd hgt hii he)) hni
    · intro hlt; exact hb e (D.effOrd hlt he hii)
  have hmskf : msk.testBit i = false := by
    cases hq : msk.testBit i with
    | false => rfl
    | true => exact absurd (e2 i hq) hni
  -- an operation that is not new leaves what was newly made
  have hsame : ∀ (M : Nat) (H : Heap), (∀ x, (i, x) ∉ st.nb) → Heap.Same (putsA base (st.nb.filter fun p => pre.contains p.1 && !msk.testBit p.1 && !M.testBit p.1) H) (putsA base (st.nb.filter fun p => (pre ++ [i]).contains p.1 && !(msk ||| M).testBit p.1) H) := by
    intro M H hno
    have : (st.nb.filter fun p => pre.contains p.1 && !msk.testBit p.1 && !M.testBit p.1) = (st.nb.filter fun p => (pre ++ [i]).contains p.1 && !(msk ||| M).testBit p.1) := by
      refine List.filter_congr fun p hp => ?_
      have hpi : p.1 ≠ i := fun e => hno p.2 (by rw [← e]; exact hp)
      have hc : (pre ++ [i]).contains p.1 = pre.contains p.1 := by
        rw [Bool.eq_iff_iff]; simp [hpi]
      rw [hc, Nat.testBit_or]
      cases pre.contains p.1 <;> cases msk.testBit p.1 <;> cases M.testBit p.1 <;> rfl
    rw [this]
    exact ⟨rfl, fun _ => rfl⟩
  -- operations that change nothing, from what they tell
  have plain : ∀ v, dkind T o.op ≠ .eff → (∀ x, (i, x) ∉ st.nb) → s' = putA s o.dst v → evalOs T F 2 ops.toList [i] s (heapFor base st.nb ((befores ops.toList []).getD i 0) msk h) = some (s', heapFor base st.nb ((befores ops.toList []).getD i 0) msk h) →
      ∃ k' μ' w' t' act', μ.le μ' ∧ InvD T z ops base s0 st (pre ++ [i]) k' μ' w' t' act' ∧ act'.defers = act.defers ∧
        Steps P (lone (b.atR act (.inRegion ops (i :: rest) :: kk)) cs w) (lone (b.atR act' (.inRegion ops rest :: kk)) cs w') := by
    intro v hk hno hv hev
    obtain ⟨o', v', q1, q2, q3⟩ := evalOs_one hev
    rw [p1] at q1; cases q1
    obtain ⟨μ1, w1, act1, a1, a2, a3, a4, a5, a6⟩ := run_one hS D e3 S I.rel hb two (q3 t hread) b kk cs rest hkn
    obtain ⟨l1, l2⟩ := hslot v' q2
    refine ⟨k, μ1, w1, _, act1, a1, ⟨?_, hcl, l1, l2, a3, msk, h, e1, fun j hj => List.mem_append_left _ (e2 j hj), ?_, ?_⟩, a4, a5⟩
    · intro e he
      have hne : e ≠ i := fun hh => by subst hh; rw [neffi hk] at he; cases he
      rw [hmem e hne]; exact I.eff e he
    · intro j x hx hj hm
      have hne : j ≠ i := fun hh => by subst hh; exact hno x hx
      exact e3 j x hx ((hmem j hne).1 hj) hm
    · refine (a2.reres (resP z base ops.size (pre ++ [i])) (fun c hc => resP_le c hc)).same ⟨by simp [heapFor, putsA_nxt], fun c => ?_⟩
      have one := D.inv.one
      by_cases ex : ∃ j x, (j, x) ∈ st.nb ∧ base + j = c
      · obtain ⟨j, x, hjx, rfl⟩ := ex
        have hne : j ≠ i := fun hh => by subst hh; exact hno x hjx
        by_cases hp : j ∈ pre
        · cases hm : msk.testBit j with
          | true =>
            rw [pf_out (fun j => pre.contains j && !msk.testBit j && !((befores ops.toList []).getD i 0).testBit j) (fun j' x' _ hq' e => by
                have : j' = j := by omega
                subst this
                rw [hm] at hq'; simp at hq')]
            have e4 : (heapFor base st.nb ((befores ops.toList []).getD i 0) msk h).get (base + j) = h.get (base + j) := pf_out (fun j => ((befores ops.toList []).getD i 0).testBit j && !msk.testBit j) (fun j' x' _ hq' e => by
                have : j' = j := by omega
                subst this
                rw [hm] at hq'; simp at hq') h
            rw [e4]
            exact (pf_out (fun j => (pre ++ [i]).contains j && !msk.testBit j) (fun j' x' _ hq' e => by
                have : j' = j := by omega
                subst this
                rw [hm] at hq'; simp at hq') h).symm
          | false =>
            have e5 : (putsA base (st.nb.filter fun p => (pre ++ [i]).contains p.1 && !msk.testBit p.1) h).get (base + j) = some x := pf_in one (fun j => (pre ++ [i]).contains j && !msk.testBit j) hjx (by simp [hp, hm]) h
            rw [e5]
            cases hbi : ((befores ops.toList []).getD i 0).testBit j with
            | false => exact pf_in one (fun j => pre.contains j && !msk.testBit j && !((befores ops.toList []).getD i 0).testBit j) hjx (by simp only [hm, hbi]; simp [hp]) _
            | true =>
              rw [pf_out (fun j => pre.contains j && !msk.testBit j && !((befores ops.toList []).getD i 0).testBit j) (fun j' x' _ hq' e => by
                have : j' = j := by omega
                subst this
                simp only [hbi] at hq'; simp at hq')]
              exact pf_in one (fun j => ((befores ops.toList []).getD i 0).testBit j && !msk.testBit j) hjx (by simp only [hm, hbi]; rfl) _
        · have hpc : pre.contains j = false := by simpa using hp
          have hpc' : (pre ++ [i]).contains j = false := by simp [hp, hne]
          rw [pf_out (fun j => pre.contains j && !msk.testBit j && !((befores ops.toList []).getD i 0).testBit j) (fun j' x' _ hq' e => by
                have : j' = j := by omega
                subst this
                simp only [hpc] at hq'; simp at hq')]
          have e4 : (heapFor base st.nb ((befores ops.toList []).getD i 0) msk h).get (base + j) = h.get (base + j) := pf_out (fun j => ((befores ops.toList []).getD i 0).testBit j && !msk.testBit j) (fun j' x' _ hq' e => by
                have : j' = j := by omega
                subst this
                simp only [Bool.and_eq_true] at hq'
                exact hp (hb j' hq'.1)) h
          rw [e4]
          exact (pf_out (fun j => (pre ++ [i]).contains j && !msk.testBit j) (fun j' x' _ hq' e => by
                have : j' = j := by omega
                subst this
                simp only [hpc'] at hq'; simp at hq') h).symm
      · have hne : ∀ j x, (j, x) ∈ st.nb → base + j ≠ c := fun j x hjx e => ex ⟨j, x, hjx, e⟩
        rw [pf_out (fun j => pre.contains j && !msk.testBit j && !((befores ops.toList []).getD i 0).testBit j) (fun j' x' h1 _ => hne j' x' h1)]
        have e4 : (heapFor base st.nb ((befores ops.toList []).getD i 0) msk h).get c = h.get c := pf_out (fun j => ((befores ops.toList []).getD i 0).testBit j && !msk.testBit j) (fun j' x' h1 _ => hne j' x' h1) h
        rw [e4]
        exact (pf_out (fun j => (pre ++ [i]).contains j && !msk.testBit j) (fun j' x' h1 _ => hne j' x' h1) h).symm
  rcases p5 with ⟨hk, h', m, b1, b2, b3⟩ | ⟨hk, hw, v, x, c1, c2, c3⟩ | ⟨hk, hw, c1, c2⟩ | ⟨hk, hw, v, h', c1, c2⟩ | ⟨hk, hw, c1⟩
  · -- it changes something: all that does so stands in one order
    have hno : ∀ x, (i, x) ∉ st.nb := fun x hx => by have := newi x hx; rw [hk] at this; cases this
    have hii := effi hk
    have hki : k = cnt T ops.toList i := by
      have h1 : k ≤ cnt T ops.toList i := by
        rcases Nat.lt_or_ge (cnt T ops.toList i) k with hlt | hge
        · exact absurd ((I.eff i hii).2 hlt) hni
        · exact hge
      rcases Nat.lt_or_ge k (cnt T ops.toList i) with hlt | hge
      · obtain ⟨e, f1, f2, f3⟩ := cnt_ex hlt
        have := (I.eff e f2).1 ((heffs e f2 (by omega) hii).2 f1)
        omega
      · omega
    rw [← hki] at p4 b2
    rw [e1] at p4; cases p4
    obtain ⟨o', v, q1, q2, q3⟩ := evalOs_one b3
    rw [p1] at q1; cases q1
    obtain ⟨μ1, w1, act1, a1, a2, a3, a4, a5, a6⟩ := run_one hS D e3 S I.rel hb b1 (q3 t hread) b kk cs rest hkn
    obtain ⟨l1, l2⟩ := hslot v q2
    refine ⟨k + 1, μ1, w1, _, act1, a1, ⟨?_, hcl, l1, l2, a3, _, h', b2, ?_, ?_, ?_⟩, a4, a5⟩
    · intro e he
      by_cases hei : e = i
      · subst hei
        simp; omega
      · rw [hmem e hei, I.eff e he]
        rcases Nat.lt_trichotomy e i with hlt | hh | hgt
        · have := cnt_lt (T := T) hlt he; omega
        · exact absurd hh hei
        · have := cnt_lt (T := T) hgt hii; omega
    · intro j hj
      rw [Nat.testBit_or, Bool.or_eq_true] at hj
      rcases hj with hj | hj
      · exact List.mem_append_left _ (e2 j hj)
      · exact List.mem_append_left _ (hb j hj)
    · intro j x hx hj hm
      have hne : j ≠ i := fun hh => by subst hh; exact hno x hx
      rw [Nat.testBit_or, Bool.or_eq_false_iff] at hm
      exact a6 j x hx ((hmem j hne).1 hj) hm.1 hm.2
    · exact (a2.reres (resP z base ops.size (pre ++ [i])) (fun c hc => resP_le c hc)).same (hsame _ _ hno)
  · -- something new
    have hcong : ∀ x ∈ o.op.operands.toList, evalO t x = evalO s x := tmp_of fun x hx => hread x (by unfold readsOf; exact List.mem_append_right _ hx)
    have hwt : wantedA o ops.toList t = true := by rw [wanted_congr hread]; exact hw
    have hal : allocA T (evalO t) o.op (base + i) = some (v, x) := by
      unfold allocA; rw [opA_congr hcong]; exact c1
    obtain ⟨cs', mv, arr, ty, n1, n2, n3, n4, n5⟩ := new_sim hT (evalO_rel I.rel) o hk hal w
    subst n1
    have hdd : ∀ c, o.op ≠ .defer c := fun c hc => by rw [hc] at hk; simp [dkind] at hk
    have hstep := stepR_value (b := b) (a := act) (k := kk) (cs := cs) (rest := rest) ho (by rw [wanted_rel I.rel]; exact hwt) hdd n2
    have hres : resP z base ops.size pre (base + i) = true := by
      unfold resP
      have : base + i - base = i := by omega
      simp [this, hi, hni]
    obtain ⟨m1, m2⟩ := S.addAt (id := base + i) hres (resP z base ops.size (pre ++ [i])) (fun c hc => ⟨resP_le c hc, fun hci => by
        subst hci
        unfold resP at hc
        have h9 : base + i - base = i := by omega
        simp only [h9, Bool.or_eq_true, Bool.and_eq_true, Bool.not_eq_true'] at hc
        rcases hc with hc | hc
        · have := hz _ hc; omega
        · simp at hc⟩) (.cells cs' true) (.cells arr ty) arr.size (fun ν w' hν hw' => ⟨arr, ty, (0, 0), hw', rfl, by simpa using n3,
          fun j a e => let ⟨v, f1, f2⟩ := n4 j a e; ⟨v, by simpa using f1, VR.mono hν _ _ f2⟩, fun _ => ⟨S.fresh, fun j _ => by simp⟩⟩)
    obtain ⟨l1, l2⟩ := hslot v c2
    have hhn : h.get (base + i) = none := by
      have hG : (putsA base (st.nb.filter fun p => pre.contains p.1 && !msk.testBit p.1) h).get (base + i) = h.get (base + i) := pf_out (fun j => pre.contains j && !msk.testBit j) (fun j' x' _ hq' e => by
        have : j' = i := by omega
        subst this
        simp [hni] at hq') h
      rw [← hG]
      cases hq : (putsA base (st.nb.filter fun p => pre.contains p.1 && !msk.testBit p.1) h).get (base + i) with
      | none => rfl
      | some y =>
        obtain ⟨L, f1, _⟩ := S.at_ _ _ hq
        rw [(S.rsv _ hres).1] at f1; cases f1
    refine ⟨k, _, _, _, _, m1, ⟨?_, hcl, l1, l2, put_rel (VRs.mono m1 _ _ I.rel) o.dst n5, msk, h, e1, fun j hj => List.mem_append_left _ (e2 j hj), ?_, ?_⟩, by cases o.dst <;> rfl, .one hstep⟩
    · intro e he
      have hne : e ≠ i := fun hh => by subst hh; rw [neffi (by rw [hk]; simp)] at he; cases he
      rw [hmem e hne]; exact I.eff e he
    · intro j y hy hj hm
      by_cases hji : j = i
      · subst hji; exact hhn
      · exact e3 j y hy ((hmem j hji).1 hj) hm
    · refine m2.same ⟨by simp [putsA_nxt], fun c => ?_⟩
      have one := D.inv.one
      rw [Heap.get_put]
      by_cases hci : base + i = c
      · subst hci
        rw [if_pos rfl]
        exact (pf_in one (fun j => (pre ++ [i]).contains j && !msk.testBit j) c3 (by simp [hmskf]) h).symm
      · rw [if_neg hci]
        by_cases ex : ∃ j y, (j, y) ∈ st.nb ∧ base + j = c
        · obtain ⟨j, y, hjy, rfl⟩ := ex
          have hne : j ≠ i := fun hh => hci (by rw [hh])
          have hcc : (pre ++ [i]).contains j = pre.contains j := by rw [Bool.eq_iff_iff]; simp [hne]
          cases hq : (pre.contains j && !msk.testBit j) with
          | true => rw [pf_in one (fun j => pre.contains j && !msk.testBit j) hjy hq, pf_in one (fun j => (pre ++ [i]).contains j && !msk.testBit j) hjy (by rw [hcc]; exact hq)]
          | false =>
            rw [pf_out (fun j => pre.contains j && !msk.testBit j) (fun j' x' _ hq' e => by
                have : j' = j := by omega
                subst this
                rw [hq] at hq'; cases hq'), pf_out (fun j => (pre ++ [i]).contains j && !msk.testBit j) (fun j' x' _ hq' e => by
                have : j' = j := by omega
                subst this
                rw [hcc, hq] at hq'; cases hq')]
        · have hne : ∀ j x, (j, x) ∈ st.nb → base + j ≠ c := fun j x hjx e => ex ⟨j, x, hjx, e⟩
          rw [pf_out (fun j => pre.contains j && !msk.testBit j) (fun j' x' h1 _ => hne j' x' h1), pf_out (fun j => (pre ++ [i]).contains j && !msk.testBit j) (fun j' x' h1 _ => hne j' x' h1)]
  · have hke : dkind T o.op ≠ .eff := by rw [hk]; simp
    refine plain undefA hke c2 c1 ?_
    rw [evalOs_eq, p1]
    simp [hw, evalOs, c1]
  · have hke : dkind T o.op ≠ .eff := by rw [hk]; simp
    have hno : ∀ x, (i, x) ∉ st.nb := fun x hx => by have := newi x hx; rw [hk] at this; cases this
    obtain ⟨v1, h2, f1, f2⟩ := D.quiet hi p1 hk p2 p3 hw e1 hmskf (fun e he hce => by
      cases hq : ((befores ops.toList []).getD i 0).testBit e with
      | false => rfl
      | true => have := (I.eff e he).1 (hb e hq); omega)
    have := quiet_same hk f1
    subst this
    refine plain v1 hke hno f2 ?_
    rw [evalOs_eq, p1]
    simp only [hw, if_true, runA_plain hke, f1, f2]
    simp [evalOs]
  · have hke : dkind T o.op ≠ .eff := by rw [hk]; simp
    have hno : ∀ x, (i, x) ∉ st.nb := fun x hx => by have := newi x hx; rw [hk] at this; cases this
    refine plain undefA hke hno c1 ?_
    rw [evalOs_eq, p1]
    simp [hw, evalOs, c1]

end Go.Am
