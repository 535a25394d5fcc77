/-
  The abstract machine: a region whose order is drawn, in the text's order: what is kept of it.
-/
import Derived.Test.YtenpjkinpecnfaaAmR
namespace Go.Am
variable {P : Program} {T : TT} {F : Nat → Option Func}

/-! ### one operation, over other slots -/
def runA (T : TT) (F : Nat → Option Func) (n : Nat) (s : List AV) (op : Op) (h : Heap) : Option (AV × Heap) :=
  match op with
  | .call { callee := .value f, args, .. } =>
    (match evalO s f, evalAll (evalO s) args.toList with
    | some (.func (.func g) caps), some l => (match externO F g (l ++ caps) with | some v => some (v, h) | none => callF T F n g (l ++ caps) h)
    | some (.func (.yield l) _), some as => roundF T F n l as h
    | _, _ => none)
  | op => opA T (evalO s) op h

theorem runA_congr {n : Nat} {s t : List AV} {op : Op} (h : ∀ x ∈ op.operands.toList, evalO s x = evalO t x) (H : Heap) : runA T F n s op H = runA T F n t op H := by
  cases op with
  | call c =>
    obtain ⟨cl, args, ts⟩ := c
    cases cl with
    | value f =>
      simp only [runA]
      simp only [Op.operands, Call.operands, Array.toList_append, List.mem_append] at h
      rw [h f (.inl (by simp)), evalAll_congr fun x hx => h x (.inr hx)]
    | _ => exact opA_congr (T := T) h H
  | _ => exact opA_congr (T := T) h H

theorem evalOs_eq (n : Nat) (ops : List Oper) (i : Nat) (is : List Nat) (s : List AV) (h : Heap) : evalOs T F (n + 1) ops (i :: is) s h =
    match ops[i]? with
    | none => none
    | some o =>
      if wantedA o ops s then
        match runA T F n s o.op h with
        | some (v, h') => evalOs T F n ops is (putA s o.dst v) h'
        | none => none
      else evalOs T F n ops is (putA s o.dst undefA) h := by
  simp only [evalOs, runA]
  rfl

theorem evalOs_nil {n : Nat} {ops : List Oper} {s s' : List AV} {h h' : Heap} (e : evalOs T F n ops [] s h = some (s', h')) : s' = s ∧ h' = h := by
  cases n with
  | zero => simp [evalOs] at e
  | succ n => simp only [evalOs, Option.some.injEq, Prod.mk.injEq] at e; exact ⟨e.1.symm, e.2.symm⟩

theorem evalOs_one {n : Nat} {ops : List Oper} {i : Nat} {s s' : List AV} {h h' : Heap} (e : evalOs T F n ops [i] s h = some (s', h')) :
    ∃ o v, ops[i]? = some o ∧ s' = putA s o.dst v ∧ ∀ t : List AV, (∀ r ∈ readsOf ops o, t[r]? = s[r]?) → evalOs T F n ops [i] t h = some (putA t o.dst v, h') := by
  cases n with
  | zero => simp [evalOs] at e
  | succ n =>
    rw [evalOs_eq] at e
    split at e
    · simp at e
    · rename_i o ho
      have hc : ∀ t : List AV, (∀ r ∈ readsOf ops o, t[r]? = s[r]?) → wantedA o ops t = wantedA o ops s ∧ runA T F n t o.op h = runA T F n s o.op h := fun t ht =>
        ⟨wanted_congr ht, runA_congr (tmp_of fun x hx => ht x (by unfold readsOf; exact List.mem_append_right _ hx)) h⟩
      split at e
      · rename_i hw
        split at e
        · rename_i v h1 hr
          obtain ⟨e1, e2⟩ := evalOs_nil e
          subst e1 e2
          refine ⟨o, v, ho, rfl, fun t ht => ?_⟩
          obtain ⟨c1, c2⟩ := hc t ht
          rw [evalOs_eq, ho]
          simp only [c1, hw, if_true, c2, hr]
          cases n with
          | zero => simp [evalOs] at e
          | succ n => simp [evalOs]
        · simp at e
      · rename_i hw
        obtain ⟨e1, e2⟩ := evalOs_nil e
        subst e1 e2
        refine ⟨o, undefA, ho, rfl, fun t ht => ?_⟩
        obtain ⟨c1, c2⟩ := hc t ht
        rw [evalOs_eq, ho]
        simp only [c1, hw]
        cases n with
        | zero => simp [evalOs] at e
        | succ n => simp [evalOs]

/-! ### what is kept -/
def isEff (T : TT) (ops : List Oper) (i : Nat) : Bool := match ops[i]? with | some o => dkind T o.op == .eff | none => false

/-- How many operations ahead of one change something. -/
def cnt (T : TT) (ops : List Oper) : Nat → Nat
  | 0 => 0
  | i + 1 => cnt T ops i + if isEff T ops i then 1 else 0

/-- What is kept of one operation: slots, heaps, what is newly made. -/
def PP (T : TT) (F : Nat → Option Func) (n : Nat) (ops : List Oper) (base j : Nat) (SS : List (List AV)) (HS : List (Nat × Heap)) (nb : List (Nat × Blk)) : Prop :=
  ∃ o s s' msk h, ops[j]? = some o ∧ SS[j]? = some s ∧ SS[j + 1]? = some s' ∧ HS[cnt T ops j]? = some (msk, h) ∧
    ((dkind T o.op = .eff ∧ ∃ h' m, m ≤ n ∧ HS[cnt T ops j + 1]? = some (msk ||| (befores ops []).getD j 0, h') ∧ evalOs T F m ops [j] s (heapFor base nb ((befores ops []).getD j 0) msk h) = some (s', h')) ∨
     (dkind T o.op = .new ∧ wantedA o ops s = true ∧ ∃ v b, allocA T (evalO s) o.op (base + j) = some (v, b) ∧ s' = putA s o.dst v ∧ (j, b) ∈ nb) ∨
     (dkind T o.op = .new ∧ wantedA o ops s = false ∧ s' = putA s o.dst undefA ∧ ∀ b, (j, b) ∉ nb) ∨
     (dkind T o.op = .quiet ∧ wantedA o ops s = true ∧ ∃ v h', opA T (evalO s) o.op (heapFor base nb ((befores ops []).getD j 0) msk h) = some (v, h') ∧ s' = putA s o.dst v) ∨
     (dkind T o.op = .quiet ∧ wantedA o ops s = false ∧ s' = putA s o.dst undefA))

structure DInv (T : TT) (F : Nat → Option Func) (n : Nat) (ops : List Oper) (base i : Nat) (s0 : List AV) (h0 : Heap) (st : DSt) : Prop where
  ss : st.ss.length = i
  hs : st.hs.length = cnt T ops i
  nb : ∀ p ∈ st.nb, p.1 < i
  one : ∀ j x y, (j, x) ∈ st.nb → (j, y) ∈ st.nb → x = y
  s0 : (st.ss ++ [st.s])[0]? = some s0
  h0 : (st.hs ++ [(st.msk, st.h)])[0]? = some (0, h0)
  knd : ∀ p ∈ st.nb, ∃ o, ops[p.1]? = some o ∧ dkind T o.op = .new
  all : ∀ j, j < i → PP T F n ops base j (st.ss ++ [st.s]) (st.hs ++ [(st.msk, st.h)]) st.nb

theorem PP.ext {n : Nat} {ops : List Oper} {base j : Nat} {SS SS' : List (List AV)} {HS HS' : List (Nat × Heap)} {nb nb' : List (Nat × Blk)} (hlt : ∀ k, ((befores ops []).getD j 0).testBit k = true → k < j)
    (hS : ∀ (k : Nat) x, SS[k]? = some x → SS'[k]? = some x) (hH : ∀ (k : Nat) x, HS[k]? = some x → HS'[k]? = some x) (hn : nb' = nb ∨ ∃ i b, j < i ∧ nb' = nb ++ [(i, b)]) (h : PP T F n ops base j SS HS nb) : PP T F n ops base j SS' HS' nb' := by
  have hf : ∀ msk h, heapFor base nb' ((befores ops []).getD j 0) msk h = heapFor base nb ((befores ops []).getD j 0) msk h := by
    intro msk h
    rcases hn with rfl | ⟨i, b, hi, rfl⟩
    · rfl
    · unfold heapFor
      rw [List.filter_append]
      have : ((befores ops []).getD j 0).testBit i = false := by
        cases hq : ((befores ops []).getD j 0).testBit i with
        | false => rfl
        | true => have := hlt i hq; omega
      have h2 : List.filter (fun p : Nat × Blk => ((befores ops []).getD j 0).testBit p.1 && !msk.testBit p.1) [(i, b)] = [] := by
        rw [List.filter_eq_nil_iff]
        intro p hp
        simp only [List.mem_singleton] at hp
        subst hp
        rw [this]; simp
      rw [h2, List.append_nil]
  have hmem : ∀ x, (j, x) ∈ nb' ↔ (j, x) ∈ nb := by
    intro x
    rcases hn with rfl | ⟨i, b, hi, rfl⟩
    · rfl
    · simp; omega
  obtain ⟨o, s, s', msk, h, h1, h2, h3, h4, h5⟩ := h
  refine ⟨o, s, s', msk, h, h1, hS _ _ h2, hS _ _ h3, hH _ _ h4, ?_⟩
  rcases h5 with ⟨a, h', m, b1, b2, b3⟩ | ⟨a, b, v, x, c1, c2, c3⟩ | ⟨a, b, c, d⟩ | ⟨a, b, v, h', c1, c2⟩ | ⟨a, b, c⟩
  · exact .inl ⟨a, h', m, b1, hH _ _ b2, by rw [hf]; exact b3⟩
  · exact .inr (.inl ⟨a, b, v, x, c1, c2, (hmem _).2 c3⟩)
  · exact .inr (.inr (.inl ⟨a, b, c, fun x hx => d x ((hmem _).1 hx)⟩))
  · exact .inr (.inr (.inr (.inl ⟨a, b, v, h', by rw [hf]; exact c1, c2⟩)))
  · exact .inr (.inr (.inr (.inr ⟨a, b, c⟩)))

theorem get_snoc {α : Type} {l : List α} {k : Nat} {y : α} (h : l[k]? = some y) (z : List α) : (l ++ z)[k]? = some y := by
  rw [List.getElem?_append_left (List.getElem?_eq_some_iff.1 h).1]; exact h

theorem get_end {α : Type} (l : List α) (x : α) : (l ++ [x])[l.length]? = some x := by simp

theorem evalDs_inv {n0 : Nat} {ops : Array Oper} (hok : DOk T ops) {base : Nat} {s0 : List AV} {h0 : Heap} : ∀ (n m i : Nat) (st st' : DSt), n ≤ n0 → i + m = ops.size →
    evalDs T F n ops.toList (befores ops.toList []) base (List.range' i m) st = some st' → DInv T F n0 ops.toList base i s0 h0 st → DInv T F n0 ops.toList base ops.size s0 h0 st'
  | 0, m, i, st, st', _, _, e, _ => by simp [evalDs] at e
  | n + 1, 0, i, st, st', hn, hi, e, h => by
    simp only [List.range', evalDs, Option.some.injEq] at e
    subst e
    have : i = ops.size := by omega
    subst this; exact h
  | n + 1, m + 1, i, st, st', hn, hi, e, h => by
    simp only [List.range', evalDs] at e
    split at e
    · simp at e
    · rename_i o ho
      -- what was kept stays
      have hadd : ∀ (s' : List AV) (hs' : List (Nat × Heap)) (msk' : Nat) (h' : Heap) (nb' : List (Nat × Blk)), (∀ (k : Nat) x, (st.hs ++ [(st.msk, st.h)])[k]? = some x → (hs' ++ [(msk', h')])[k]? = some x) → hs'.length = cnt T ops.toList (i + 1) →
          (nb' = st.nb ∨ dkind T o.op = .new ∧ ∃ b, nb' = st.nb ++ [(i, b)]) → PP T F n0 ops.toList base i ((st.ss ++ [st.s]) ++ [s']) (hs' ++ [(msk', h')]) nb' →
          DInv T F n0 ops.toList base (i + 1) s0 h0 { ss := st.ss ++ [st.s], s := s', hs := hs', msk := msk', h := h', nb := nb' } := by
        intro s' hs' msk' h' nb' k1 k2 k3 k4
        refine ⟨by simp [h.ss], k2, ?_, ?_, get_snoc h.s0 _, k1 _ _ h.h0, ?_, ?_⟩
        · intro p hp
          rcases k3 with rfl | ⟨k3, b, rfl⟩
          · have := h.nb p hp; omega
          · simp only [List.mem_append, List.mem_singleton] at hp
            rcases hp with hp | rfl
            · have := h.nb p hp; omega
            · simp
        · intro j x y hx hy
          rcases k3 with rfl | ⟨k3, b, rfl⟩
          · exact h.one j x y hx hy
          · simp only [List.mem_append, List.mem_singleton, Prod.mk.injEq] at hx hy
            rcases hx with hx | ⟨rfl, rfl⟩
            · rcases hy with hy | ⟨rfl, rfl⟩
              · exact h.one j x y hx hy
              · have := h.nb _ hx; simp at this
            · rcases hy with hy | ⟨_, rfl⟩
              · have := h.nb _ hy; simp at this
              · rfl
        · intro p hp
          rcases k3 with rfl | ⟨k3, b, rfl⟩
          · exact h.knd p hp
          · simp only [List.mem_append, List.mem_singleton] at hp
            rcases hp with hp | rfl
            · exact h.knd p hp
            · exact ⟨o, ho, k3⟩
        · intro j hj
          by_cases hji : j = i
          · subst hji; exact k4
          · refine (h.all j (by omega)).ext (fun k hk => hok.lt j k hk) (fun k x hx => get_snoc hx _) k1 ?_
            rcases k3 with rfl | ⟨k3, b, rfl⟩
            · exact .inl rfl
            · exact .inr ⟨i, b, by omega, rfl⟩
      have hS : ((st.ss ++ [st.s]) : List (List AV))[i]? = some st.s := by rw [← h.ss]; exact get_end _ _
      have hS1 : ∀ s', ((st.ss ++ [st.s]) ++ [s'])[i]? = some st.s := fun s' => get_snoc hS _
      have hS2 : ∀ s' : List AV, ((st.ss ++ [st.s]) ++ [s'])[i + 1]? = some s' := fun s' => by rw [← h.ss]; simp
      have hH : (st.hs ++ [(st.msk, st.h)])[cnt T ops.toList i]? = some (st.msk, st.h) := by rw [← h.hs]; exact get_end _ _
      have hcn : dkind T o.op ≠ .eff → cnt T ops.toList (i + 1) = cnt T ops.toList i := fun hk => by
        simp [cnt, isEff, ho, hk]
      split at e
      · rename_i hk
        split at e
        · rename_i s' h' hev
          refine evalDs_inv hok n m (i + 1) _ st' (by omega) (by omega) e (hadd s' _ _ h' _ (fun k x hx => get_snoc hx _) ?_ (.inl rfl) ?_)
          · simp [cnt, isEff, ho, hk, h.hs]
          · refine ⟨o, st.s, s', st.msk, st.h, ho, hS1 _, hS2 _, get_snoc hH _, .inl ⟨hk, h', n, by omega, ?_, hev⟩⟩
            rw [← h.hs]; simp
        · simp at e
      · rename_i hk
        split at e
        · rename_i hw
          split at e
          · rename_i v b hal
            refine evalDs_inv hok n m (i + 1) _ st' (by omega) (by omega) e (hadd _ _ _ _ _ (fun k x hx => hx) ?_ (.inr ⟨hk, b, rfl⟩) ?_)
            · rw [hcn (by rw [hk]; simp)]; exact h.hs
            · exact ⟨o, st.s, _, st.msk, st.h, ho, hS1 _, hS2 _, hH, .inr (.inl ⟨hk, hw, v, b, hal, rfl, by simp⟩)⟩
          · simp at e
        · rename_i hw
          refine evalDs_inv hok n m (i + 1) _ st' (by omega) (by omega) e (hadd _ _ _ _ _ (fun k x hx => hx) ?_ (.inl rfl) ?_)
          · rw [hcn (by rw [hk]; simp)]; exact h.hs
          · refine ⟨o, st.s, _, st.msk, st.h, ho, hS1 _, hS2 _, hH, .inr (.inr (.inl ⟨hk, by simpa using hw, rfl, fun b hb => ?_⟩))⟩
            have := h.nb _ hb; simp at this
      · rename_i hk
        split at e
        · rename_i hw
          split at e
          · rename_i v h' hop
            refine evalDs_inv hok n m (i + 1) _ st' (by omega) (by omega) e (hadd _ _ _ _ _ (fun k x hx => hx) ?_ (.inl rfl) ?_)
            · rw [hcn (by rw [hk]; simp)]; exact h.hs
            · exact ⟨o, st.s, _, st.msk, st.h, ho, hS1 _, hS2 _, hH, .inr (.inr (.inr (.inl ⟨hk, hw, v, h', hop, rfl⟩)))⟩
          · simp at e
        · rename_i hw
          refine evalDs_inv hok n m (i + 1) _ st' (by omega) (by omega) e (hadd _ _ _ _ _ (fun k x hx => hx) ?_ (.inl rfl) ?_)
          · rw [hcn (by rw [hk]; simp)]; exact h.hs
          · exact ⟨o, st.s, _, st.msk, st.h, ho, hS1 _, hS2 _, hH, .inr (.inr (.inr (.inr ⟨hk, by simpa using hw, rfl⟩)))⟩
      · simp at e

end Go.Am
