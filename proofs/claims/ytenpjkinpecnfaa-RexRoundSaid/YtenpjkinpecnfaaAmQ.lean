/-
  The abstract machine: blocks put by, blocks out of sight; operations hang on what they look at.
-/
import Derived.Test.YtenpjkinpecnfaaAmM
namespace Go.Am
variable {P : Program} {T : TT} {μ ν : Mu} {w w' : World}

/-! ### a heap, put together -/
theorem putsA_nxt (base : Nat) : ∀ (l : List (Nat × Blk)) (h : Heap), (putsA base l h).nxt = h.nxt
  | [], _ => rfl
  | (i, b) :: l, h => by rw [putsA, putsA_nxt base l]; rfl

theorem putsA_get_ne (base : Nat) {b : Nat} : ∀ (l : List (Nat × Blk)) (h : Heap), (∀ p ∈ l, base + p.1 ≠ b) → (putsA base l h).get b = h.get b
  | [], _, _ => rfl
  | (i, x) :: l, h, hn => by
    rw [putsA, putsA_get_ne base l _ (fun p hp => hn p (List.mem_cons_of_mem _ hp)), Heap.get_put, if_neg (hn (i, x) (List.mem_cons_self ..))]

theorem putsA_get (base : Nat) {i : Nat} {x : Blk} : ∀ (l : List (Nat × Blk)) (h : Heap), (∀ y, (i, y) ∈ l → y = x) → (i, x) ∈ l → (putsA base l h).get (base + i) = some x
  | [], _, _, hm => by simp at hm
  | (j, y) :: l, h, hu, hm => by
    rw [putsA]
    by_cases hl : ∃ z, (i, z) ∈ l
    · obtain ⟨z, hz⟩ := hl
      have := hu z (List.mem_cons_of_mem _ hz)
      subst this
      exact putsA_get base l _ (fun y hy => hu y (List.mem_cons_of_mem _ hy)) hz
    · rcases List.mem_cons.1 hm with h1 | h1
      · cases h1
        have hne : ∀ p ∈ l, base + p.1 ≠ base + i := by
          rintro ⟨p1, p2⟩ hp e
          have : p1 = i := by simp at e; exact e
          subst this
          exact hl ⟨p2, hp⟩
        rw [putsA_get_ne base l _ hne, Heap.get_put, if_pos rfl]
      · exact absurd ⟨x, h1⟩ hl

/-! ### blocks out of sight -/
theorem BlkAt.reold {z z' : Nat → Option (Obj × Bool)} {L : Loc} {x : Blk} (hz : x.mine = true → z' L.blk = none) (h : BlkAt μ z w L x) : BlkAt μ z' w L x := by
  cases x with
  | cells cs wr =>
    obtain ⟨arr, t, fz, h1, h2, h3, h4, h5⟩ := h
    exact ⟨arr, t, fz, h1, h2, h3, h4, fun hw => ⟨hz hw, (h5 hw).2⟩⟩
  | map es clock => obtain ⟨_, h⟩ := h; exact ⟨hz rfl, h⟩
  | loop r => obtain ⟨_, h⟩ := h; exact ⟨hz rfl, h⟩
  | defers tk => obtain ⟨_, h⟩ := h; exact ⟨hz rfl, h⟩

/-- Is a block one of these? -/
def atAny (μ : Mu) (ids : List Nat) (k : Nat) : Bool := ids.any fun b => match μ b with | some L => L.blk == k | none => false

theorem atAny_iff {ids : List Nat} {k : Nat} : atAny μ ids k = true ↔ ∃ b ∈ ids, ∃ L, μ b = some L ∧ L.blk = k := by
  unfold atAny
  rw [List.any_eq_true]
  constructor
  · rintro ⟨b, hb, h⟩
    split at h
    · rename_i L hL; exact ⟨b, hb, L, hL, by simpa using h⟩
    · simp at h
  · rintro ⟨b, hb, L, hL, rfl⟩
    exact ⟨b, hb, by rw [hL]; simp⟩

def Frz.hide (z : Frz) (μ : Mu) (ids : List Nat) (w : World) : Frz :=
  { z with old := fun k => if atAny μ ids k then (w.heap[k]?).map fun o => (o, true) else z.old k }

variable {z : Frz} {G h0 h' : Heap} {ids : List Nat}

theorem Sim.hide (S : Sim z μ G w) (hn : h0.nxt = G.nxt) (ho : ∀ b, b ∉ ids → h0.get b = G.get b) (hi : ∀ b ∈ ids, h0.get b = none ∧ ∃ x, G.get b = some x ∧ x.mine = true) : Sim (z.hide μ ids w) μ h0 w := by
  have hap : ∀ b x L, h0.get b = some x → μ b = some L → atAny μ ids L.blk = false := by
    intro b x L e1 e2
    have hb : b ∉ ids := fun h => by rw [(hi b h).1] at e1; cases e1
    rw [ho b hb] at e1
    cases hq : atAny μ ids L.blk with
    | false => rfl
    | true =>
      obtain ⟨c, hc, M, hM, hMk⟩ := atAny_iff.1 hq
      obtain ⟨_, y, hy, hym⟩ := hi c hc
      exact absurd hMk (S.apart c b y x M L hy e1 hM e2 hym (fun h => hb (h ▸ hc)))
  refine ⟨?_, ?_, ?_, ?_, fun b L e => by rw [hn]; exact S.dom b L e, ?_, fun b hb => by rw [hn]; exact S.rsv b hb, S.side⟩
  · intro b x e
    have hb : b ∉ ids := fun h => by rw [(hi b h).1] at e; cases e
    obtain ⟨L, l1, l2⟩ := S.at_ b x (by rw [← ho b hb]; exact e)
    refine ⟨L, l1, l2.reold fun hm => ?_⟩
    have := hap b x L e l1
    simp only [Frz.hide, this]
    exact l2.ge hm
  · intro b c x y L M e1 e2 e3 e4 hx hne
    have hb : b ∉ ids := fun h => by rw [(hi b h).1] at e1; cases e1
    have hc : c ∉ ids := fun h => by rw [(hi c h).1] at e2; cases e2
    exact S.apart b c x y L M (by rw [← ho b hb]; exact e1) (by rw [← ho c hc]; exact e2) e3 e4 hx hne
  · intro k o b e
    simp only [Frz.hide] at e
    split at e
    · simp only [Option.map_eq_some_iff, Prod.mk.injEq] at e
      obtain ⟨a, e1, rfl, _⟩ := e; exact e1
    · exact S.old k o b e
  · intro b x L o e1 e2 e3
    have hb : b ∉ ids := fun h => by rw [(hi b h).1] at e1; cases e1
    have := hap b x L e1 e2
    simp only [Frz.hide, this] at e3
    exact S.hid b x L o (by rw [← ho b hb]; exact e1) e2 e3
  · intro b hb
    by_cases hbi : b ∈ ids
    · exact (hi b hbi).1
    · rw [ho b hbi]; exact S.live b (by omega)

theorem Sim.unhide (S : Sim z μ G w) (hm : μ.le ν) (S' : Sim (z.hide μ ids w) ν h0 w') {G' : Heap} (hn : G'.nxt = h0.nxt) (ho : ∀ b, b ∉ ids → G'.get b = h0.get b)
    (hi : ∀ b ∈ ids, ∃ x, G'.get b = some x ∧ G.get b = some x ∧ x.mine = true) : Sim z ν G' w' := by
  -- hidden blocks
  have hh : ∀ k, atAny μ ids k = true → (∃ o, w.heap[k]? = some o) ∧ z.old k = none := by
    intro k hk
    obtain ⟨b, hb, L, hL, rfl⟩ := atAny_iff.1 hk
    obtain ⟨x, _, e2, e3⟩ := hi b hb
    obtain ⟨L', l1, l2⟩ := S.at_ b x e2
    rw [hL] at l1; cases l1
    exact ⟨⟨_, Array.getElem?_eq_getElem l2.lt⟩, l2.ge e3⟩
  have hnot : ∀ b x L, b ∉ ids → G'.get b = some x → ν b = some L → atAny μ ids L.blk = false := by
    intro b x L hb e1 e2
    cases hq : atAny μ ids L.blk with
    | false => rfl
    | true =>
      obtain ⟨⟨o, ho'⟩, _⟩ := hh _ hq
      exact absurd (by simp [Frz.hide, hq, ho']) (S'.hid b x L o (by rw [← ho b hb]; exact e1) e2)
  have hat : ∀ b ∈ ids, ∃ x L, G'.get b = some x ∧ G.get b = some x ∧ x.mine = true ∧ μ b = some L ∧ ν b = some L ∧ BlkAt μ z.old w L x := by
    intro b hb
    obtain ⟨x, e1, e2, e3⟩ := hi b hb
    obtain ⟨L, l1, l2⟩ := S.at_ b x e2
    exact ⟨x, L, e1, e2, e3, l1, hm _ _ l1, l2⟩
  refine ⟨?_, ?_, ?_, ?_, fun b L e => by rw [hn]; exact S'.dom b L e, ?_, fun b hb => by rw [hn]; exact S'.rsv b hb, S'.side⟩
  · intro b x e
    by_cases hb : b ∈ ids
    · obtain ⟨x', L, e1, e2, e3, e4, e5, e6⟩ := hat b hb
      rw [e] at e1; cases e1
      refine ⟨L, e5, e6.mono hm ?_⟩
      have hk : atAny μ ids L.blk = true := atAny_iff.2 ⟨b, hb, L, e4, rfl⟩
      obtain ⟨⟨o, ho'⟩, _⟩ := hh _ hk
      rw [ho', S'.old L.blk o true (by simp [Frz.hide, hk, ho'])]
    · obtain ⟨L, l1, l2⟩ := S'.at_ b x (by rw [← ho b hb]; exact e)
      refine ⟨L, l1, l2.reold fun hmn => ?_⟩
      have := l2.ge hmn
      simp only [Frz.hide, hnot b x L hb e l1] at this
      exact this
  · intro b c x y L M e1 e2 e3 e4 hx hne
    by_cases hb : b ∈ ids
    · obtain ⟨x', L', f1, f2, f3, f4, f5, f6⟩ := hat b hb
      rw [f5] at e3; cases e3
      by_cases hc : c ∈ ids
      · obtain ⟨y', M', g1, g2, g3, g4, g5, g6⟩ := hat c hc
        rw [g5] at e4; cases e4
        exact S.apart b c x' y' _ _ f2 g2 f4 g4 f3 hne
      · have := hnot c y M hc e2 e4
        intro hLM
        rw [← hLM, atAny_iff.2 ⟨b, hb, _, f4, rfl⟩] at this; cases this
    · by_cases hc : c ∈ ids
      · obtain ⟨y', M', g1, g2, g3, g4, g5, g6⟩ := hat c hc
        rw [g5] at e4; cases e4
        have := hnot b x L hb e1 e3
        intro hLM
        rw [hLM, atAny_iff.2 ⟨c, hc, _, g4, rfl⟩] at this; cases this
      · exact S'.apart b c x y L M (by rw [← ho b hb]; exact e1) (by rw [← ho c hc]; exact e2) e3 e4 hx hne
  · intro k o b e
    refine S'.old k o b ?_
    cases hq : atAny μ ids k with
    | false => simp [Frz.hide, hq, e]
    | true => rw [(hh k hq).2] at e; cases e
  · intro b x L o e1 e2 e3
    by_cases hb : b ∈ ids
    · obtain ⟨x', L', f1, f2, f3, f4, f5, f6⟩ := hat b hb
      rw [f5] at e2; cases e2
      rw [f6.ge f3] at e3; cases e3
    · refine S'.hid b x L o (by rw [← ho b hb]; exact e1) e2 ?_
      simp only [Frz.hide, hnot b x L hb e1 e2]
      exact e3
  · intro b hb
    by_cases hbi : b ∈ ids
    · obtain ⟨x', L', f1, f2, f3, f4, f5, f6⟩ := hat b hbi
      have := S'.dom b L' f5
      omega
    · rw [ho b hbi]; exact S'.live b (by omega)

/-- A hidden number has no block. -/
theorem Sim.hidden_none (S : Sim z μ G w) (hm : μ.le ν) (S' : Sim (z.hide μ ids w) ν h0 w') {b : Nat} (hb : b ∈ ids) {x : Blk} (e : G.get b = some x) : h0.get b = none := by
  cases hq : h0.get b with
  | none => rfl
  | some y =>
    obtain ⟨L, l1, l2⟩ := S.at_ b x e
    refine absurd ?_ (S'.hid b y L (w.heap[L.blk]'l2.lt) hq (hm _ _ l1))
    have hk : atAny μ ids L.blk = true := atAny_iff.2 ⟨b, hb, L, l1, rfl⟩
    simp [Frz.hide, hk, Array.getElem?_eq_getElem l2.lt]

/-! ### numbers that are put by -/
theorem Sim.bump (S : Sim z μ G w) (N : Nat) : Sim { z with res := fun b => z.res b || (decide (G.nxt ≤ b) && decide (b < G.nxt + N)) } μ ⟨G.nxt + N, G.l⟩ w := by
  refine ⟨S.at_, S.apart, S.old, S.hid, fun b L e => Nat.lt_of_lt_of_le (S.dom b L e) (Nat.le_add_right _ _), fun b hb => S.live b (by simp at hb; omega), fun b hb => ?_, S.side⟩
  simp only [Bool.or_eq_true, Bool.and_eq_true, decide_eq_true_eq] at hb
  rcases hb with hb | ⟨h1, h2⟩
  · obtain ⟨r1, r2⟩ := S.rsv b hb; exact ⟨r1, by simp; omega⟩
  · refine ⟨?_, h2⟩
    cases hq : μ b with
    | none => rfl
    | some L => have := S.dom b L hq; omega

theorem Sim.reres (S : Sim z μ G w) (f : Nat → Bool) (hf : ∀ b, f b = true → z.res b = true) : Sim { z with res := f } μ G w :=
  ⟨S.at_, S.apart, S.old, S.hid, S.dom, S.live, fun b hb => S.rsv b (hf b hb), S.side⟩

/-- A new block, under a number that was put by. -/
theorem Sim.addAt {id : Nat} (S : Sim z μ G w) (hr : z.res id = true) (f : Nat → Bool) (hf : ∀ b, f b = true → z.res b = true ∧ b ≠ id) (x : Blk) (o : Obj) (room : Nat)
    (hx : ∀ ν w', μ.le ν → w'.heap[w.heap.size]? = some o → BlkAt ν z.old w' ⟨w.heap.size, 0, room⟩ x) :
    μ.le (μ.upd id ⟨w.heap.size, 0, room⟩) ∧ Sim { z with res := f } (μ.upd id ⟨w.heap.size, 0, room⟩) (G.put id x) { w with heap := w.heap.push o } := by
  obtain ⟨hid, hlt⟩ := S.rsv id hr
  have hm : μ.le (μ.upd id ⟨w.heap.size, 0, room⟩) := by
    intro c M e
    by_cases hc : id = c
    · subst hc; rw [hid] at e; cases e
    · rw [Mu.upd_ne _ _ hc]; exact e
  have hold : ∀ k, k < w.heap.size → (w.heap.push o)[k]? = w.heap[k]? := fun k hk => by rw [Array.getElem?_push, if_neg (by omega)]
  refine ⟨hm, ?_, ?_, ?_, ?_, ?_, ?_, fun b hb => ?_, S.side.trans ⟨rfl, rfl, rfl⟩⟩
  · intro b y e
    rw [Heap.get_put] at e
    split at e
    · rename_i hb; subst hb; cases e
      exact ⟨_, Mu.upd_same _ _ _, hx _ _ hm (by simp)⟩
    · rename_i hb
      obtain ⟨L, e1, e2⟩ := S.at_ b y e
      exact ⟨L, by rw [Mu.upd_ne _ _ hb]; exact e1, e2.mono hm (hold _ e2.lt)⟩
  · intro b c y u L M e1 e2 e3 e4 hy hne
    rw [Heap.get_put] at e1 e2
    by_cases hb : id = b
    · subst hb
      rw [Mu.upd_same] at e3; cases e3
      rw [if_neg hne] at e2
      rw [Mu.upd_ne _ _ hne] at e4
      obtain ⟨M', m1, m2⟩ := S.at_ c u e2
      rw [e4] at m1; cases m1
      have := m2.lt; simp; omega
    · rw [if_neg hb] at e1
      rw [Mu.upd_ne _ _ hb] at e3
      obtain ⟨L', l1, l2⟩ := S.at_ b y e1
      rw [e3] at l1; cases l1
      by_cases hc : id = c
      · subst hc
        rw [Mu.upd_same] at e4; cases e4
        have := l2.lt; simp; omega
      · rw [if_neg hc] at e2
        rw [Mu.upd_ne _ _ hc] at e4
        exact S.apart b c y u L M e1 e2 e3 e4 hy hne
  · intro k q b hk
    have := S.old k q b hk
    exact (hold k (Array.getElem?_eq_some_iff.1 this).1).trans this
  · intro b y L q e1 e2
    rw [Heap.get_put] at e1
    by_cases hb : id = b
    · subst hb
      rw [Mu.upd_same] at e2; cases e2
      show z.old w.heap.size ≠ _
      rw [S.fresh]; simp
    · rw [if_neg hb] at e1
      rw [Mu.upd_ne _ _ hb] at e2
      exact S.hid b y L q e1 e2
  · intro b L e
    by_cases hb : id = b
    · subst hb; exact hlt
    · rw [Mu.upd_ne _ _ hb] at e; exact S.dom b L e
  · intro b hb
    rw [Heap.get_put]; simp at hb
    rw [if_neg (by omega)]; exact S.live b hb
  · obtain ⟨h1, h2⟩ := hf b hb
    obtain ⟨r1, r2⟩ := S.rsv b h1
    exact ⟨by rw [Mu.upd_ne _ _ (fun e => h2 e.symm)]; exact r1, r2⟩

/-! ### operations hang on their operands -/
theorem evalAll_congr {ρ σ : Operand → Option AV} : ∀ {l : List Operand}, (∀ x ∈ l, ρ x = σ x) → evalAll ρ l = evalAll σ l
  | [], _ => rfl
  | x :: l, h => by
    simp only [evalAll]
    rw [h x (List.mem_cons_self ..), evalAll_congr fun y hy => h y (List.mem_cons_of_mem _ hy)]

theorem evalParts_congr {ρ σ : Operand → Option AV} : ∀ {l : List (Nat × Operand)}, (∀ x ∈ l.map (·.2), ρ x = σ x) → evalParts ρ l = evalParts σ l
  | [], _ => rfl
  | (i, x) :: l, h => by
    simp only [evalParts]
    rw [h x (by simp), evalParts_congr fun y hy => h y (by simp only [List.map_cons]; exact List.mem_cons_of_mem _ hy)]

theorem evalOpt_congr {ρ σ : Operand → Option AV} {o : Option Operand} (h : ∀ x ∈ o.toList, ρ x = σ x) : evalOpt ρ o = evalOpt σ o := by
  cases o with
  | none => rfl
  | some x => simp only [evalOpt]; rw [h x (by simp)]

theorem opA_congr {ρ σ : Operand → Option AV} {op : Op} (h : ∀ x ∈ op.operands.toList, ρ x = σ x) (H : Heap) : opA T ρ op H = opA T σ op H := by
  cases op with
  | build t ps =>
    have := evalParts_congr (ρ := ρ) (σ := σ) (l := ps.toList) (fun x hx => h x (by simpa [Op.operands] using hx))
    simp only [opA, this]
  | buildSlice t n ps =>
    have := evalParts_congr (ρ := ρ) (σ := σ) (l := ps.toList) (fun x hx => h x (by simpa [Op.operands] using hx))
    simp only [opA, this]
  | makeFunc fn first cap =>
    have := evalAll_congr (ρ := ρ) (σ := σ) (l := cap.toList) (fun x hx => h x (by simp only [Op.operands, Array.toList_append, List.mem_append]; exact .inr hx))
    simp only [opA, this]
  | slice t x lo hi mx =>
    simp only [Op.operands, Array.toList_append, List.mem_append] at h
    have h0 := h x (.inl (.inl (.inl (by simp))))
    have h1 := evalOpt_congr (ρ := ρ) (σ := σ) (o := lo) (fun y hy => h y (.inl (.inl (.inr (by simpa using hy)))))
    have h2 := evalOpt_congr (ρ := ρ) (σ := σ) (o := hi) (fun y hy => h y (.inl (.inr (by simpa using hy))))
    have h3 := evalOpt_congr (ρ := ρ) (σ := σ) (o := mx) (fun y hy => h y (.inr (by simpa using hy)))
    simp only [opA, h0, h1, h2, h3]
  | makeMap t r =>
    have := evalOpt_congr (ρ := ρ) (σ := σ) (o := r) (fun y hy => h y (by simpa [Op.operands] using hy))
    simp only [opA, this]
  | call c =>
    obtain ⟨cl, args, ts⟩ := c
    cases cl with
    | builtin b =>
      have := evalAll_congr (ρ := ρ) (σ := σ) (l := args.toList) (fun x hx => h x (by simp only [Op.operands, Call.operands, Array.toList_append, List.mem_append]; exact .inr hx))
      simp only [opA, this]
    | _ => simp only [opA]
  | _ =>
    first
      | rfl
      | (simp only [Op.operands, List.mem_cons, List.not_mem_nil, or_false, forall_eq_or_imp, forall_eq] at h
         simp only [opA, h])

theorem tmp_of {l : List Operand} {s t : List AV} (h : ∀ x ∈ tmpsOf l, s[x]? = t[x]?) : ∀ x ∈ l, evalO s x = evalO t x := by
  intro x hx
  cases x with
  | tmp n =>
    have := h n (by simp only [tmpsOf, List.mem_filterMap]; exact ⟨_, hx, rfl⟩)
    simp [evalO, List.getD_eq_getElem?_getD, this]
  | _ => rfl

theorem wanted_congr {ops : List Oper} {o : Oper} {s t : List AV} (h : ∀ x ∈ readsOf ops o, s[x]? = t[x]?) : wantedA o ops s = wantedA o ops t := by
  unfold wantedA
  unfold readsOf at h
  cases hg : o.guard with
  | none => rfl
  | some p =>
    obtain ⟨j, want⟩ := p
    rw [hg] at h
    simp only at h ⊢
    cases hj : ops[j]? with
    | none => rfl
    | some g =>
      rw [hj] at h
      simp only at h ⊢
      cases hd : g.dst with
      | none => rfl
      | some d =>
        rw [hd] at h
        simp only
        rw [h d (by simp)]

/-! ### alike -/
mutual
theorem AV.eqb_eq : ∀ (a b : AV), AV.eqb a b = true → a = b
  | .int k a, b, h => by cases b <;> simp_all [AV.eqb]
  | .bool a, b, h => by cases b <;> simp_all [AV.eqb]
  | .str a, b, h => by cases b <;> simp_all [AV.eqb]
  | .ptr a, b, h => by cases b <;> simp_all [AV.eqb]
  | .slc a n c s, b, h => by cases b <;> simp_all [AV.eqb]
  | .map a, b, h => by cases b <;> simp_all [AV.eqb]
  | .func f l, b, h => by
    cases b with
    | func g m =>
      simp only [AV.eqb, Bool.and_eq_true, beq_iff_eq] at h
      rw [h.1, eqbs_eq l m h.2]
    | _ => simp [AV.eqb] at h
  | .nilFn, b, h => by cases b <;> simp_all [AV.eqb]
  | .iface t x, b, h => by
    cases b with
    | iface u y =>
      simp only [AV.eqb, Bool.and_eq_true, beq_iff_eq] at h
      rw [h.1, AV.eqb_eq x y h.2]
    | _ => simp [AV.eqb] at h
  | .nilIface, b, h => by cases b <;> simp_all [AV.eqb]
  | .agg l, b, h => by
    cases b with
    | agg m => simp only [AV.eqb] at h; rw [eqbs_eq l m h]
    | _ => simp [AV.eqb] at h
  | .tup l, b, h => by
    cases b with
    | tup m => simp only [AV.eqb] at h; rw [eqbs_eq l m h]
    | _ => simp [AV.eqb] at h
theorem eqbs_eq : ∀ (l m : List AV), eqbs l m = true → l = m
  | [], [], _ => rfl
  | [], _ :: _, h => by simp [eqbs] at h
  | _ :: _, [], h => by simp [eqbs] at h
  | a :: l, b :: m, h => by
    simp only [eqbs, Bool.and_eq_true] at h
    rw [AV.eqb_eq a b h.1, eqbs_eq l m h.2]
end

end Go.Am
