import Derived.Test.YtaockkmmjinhpaaAmNa
import Derived.Test.YtaockkmmjinhpaaAmB
import Derived.RangeFuncIn
import Derived.Below
/-
  The abstract machine: a region whose order is drawn: what stands ahead of what, what is newly made.
-/
namespace Go.Am
variable {P : Program} {T : TT} {F : Nat → Option Func}

/-! ### what stands ahead of what -/
theorem befores_len : ∀ (l : List Oper) (acc : List Nat), (befores l acc).length = acc.length + l.length
  | [], acc => by simp [befores]
  | o :: l, acc => by rw [befores, befores_len l]; simp; omega

theorem befores_old : ∀ (l : List Oper) (acc : List Nat) (i : Nat), i < acc.length → (befores l acc).getD i 0 = acc.getD i 0
  | [], acc, i, _ => rfl
  | o :: l, acc, i, h => by
    rw [befores, befores_old l _ i (by simp; omega)]
    simp [List.getD_eq_getElem?_getD, List.getElem?_append_left h]

theorem testBit_fold (acc : List Nat) (j : Nat) : ∀ (es : List Edge) (s : Nat), (es.foldl (fun s e => s ||| 2 ^ e.on ||| acc.getD e.on 0) s).testBit j = true → s.testBit j = true ∨ ∃ e ∈ es, j = e.on ∨ (acc.getD e.on 0).testBit j = true
  | [], s, h => .inl h
  | e :: es, s, h => by
    rw [List.foldl_cons] at h
    rcases testBit_fold acc j es _ h with h | ⟨e', h1, h2⟩
    · rw [Nat.testBit_or, Nat.testBit_or, Bool.or_eq_true, Bool.or_eq_true] at h
      rcases h with (h | h) | h
      · exact .inl h
      · rw [Nat.testBit_two_pow] at h
        exact .inr ⟨e, List.mem_cons_self .., .inl (by simpa using h : e.on = j).symm⟩
      · exact .inr ⟨e, List.mem_cons_self .., .inr h⟩
    · exact .inr ⟨e', List.mem_cons_of_mem _ h1, h2⟩

theorem befores_new : ∀ (l : List Oper) (acc : List Nat), (∀ i o, l[i]? = some o → ∀ e ∈ edges o, e.on < acc.length + i) → ∀ i o j, l[i]? = some o → ((befores l acc).getD (acc.length + i) 0).testBit j = true →
    ∃ e ∈ edges o, j = e.on ∨ ((befores l acc).getD e.on 0).testBit j = true
  | [], acc, _, i, o, j, h, _ => by simp at h
  | x :: l, acc, hb, 0, o, j, h, ht => by
    simp at h; subst h
    have hlen : acc.length < (acc ++ [(edges x).foldl (fun s e => s ||| 2 ^ e.on ||| acc.getD e.on 0) 0]).length := by simp
    rw [befores, Nat.add_zero, befores_old l _ _ hlen] at ht
    simp only [List.getD_eq_getElem?_getD, List.getElem?_concat_length, Option.getD_some] at ht
    have ht2 : ((edges x).foldl (fun s e => s ||| 2 ^ e.on ||| acc.getD e.on 0) 0).testBit j = true := by simpa only [List.getD_eq_getElem?_getD] using ht
    rcases testBit_fold acc j _ _ ht2 with h | ⟨e, h1, h2⟩
    · simp at h
    · refine ⟨e, h1, ?_⟩
      rcases h2 with h2 | h2
      · exact .inl h2
      · have := hb 0 x rfl e h1
        rw [befores, befores_old l _ _ (by simp; omega)]
        refine .inr ?_
        rw [List.getD_eq_getElem?_getD, List.getElem?_append_left (by omega), ← List.getD_eq_getElem?_getD]; exact h2
  | x :: l, acc, hb, i + 1, o, j, h, ht => by
    rw [befores] at ht ⊢
    refine befores_new l _ (fun i o h e he => ?_) i o j (by simpa using h) (by simpa [Nat.add_assoc, Nat.add_comm 1] using ht)
    have := hb (i + 1) o (by simpa using h) e he
    simp; omega

/-- What is asked of such a region. -/
structure DOk (T : TT) (ops : Array Oper) : Prop where
  back : ∀ (i : Nat) o, ops[i]? = some o → ∀ e ∈ edges o, e.on < i
  kind : ∀ (i : Nat) o, ops[i]? = some o → dkind T o.op ≠ .no
  pre : ∀ (i : Nat) o j, ops[i]? = some o → ((befores ops.toList []).getD i 0).testBit j = true → ∃ e ∈ edges o, j = e.on ∨ ((befores ops.toList []).getD e.on 0).testBit j = true
  lt : ∀ i j, ((befores ops.toList []).getD i 0).testBit j = true → j < i
  ord : ∀ (i j : Nat) a b, i < j → ops[i]? = some a → ops[j]? = some b → clash T ops.toList a b = true → ((befores ops.toList []).getD j 0).testBit i = true

theorem drawOk_ok {ops : Array Oper} (h : drawOk T ops = true) : DOk T ops := by
  unfold drawOk at h
  simp only [Bool.and_eq_true, List.all_eq_true] at h
  obtain ⟨h2, h3⟩ := h
  have back : ∀ (i : Nat) o, ops[i]? = some o → ∀ e ∈ edges o, e.on < i := by
    intro i o ho e he
    have := h2 (o, i) (by rw [List.mem_zipIdx_iff_getElem?]; simpa using ho)
    simp only [decide_eq_true_eq] at this
    exact this.1 e he
  have pre : ∀ (i : Nat) o j, ops[i]? = some o → ((befores ops.toList []).getD i 0).testBit j = true → ∃ e ∈ edges o, j = e.on ∨ ((befores ops.toList []).getD e.on 0).testBit j = true := by
    intro i o j ho ht
    exact befores_new ops.toList [] (fun i o h e he => by simpa using back i o (by simpa using h) e he) i o j (by simpa using ho) (by simpa using ht)
  refine ⟨back, ?_, pre, ?_, ?_⟩
  · intro i o ho hk
    have := h2 (o, i) (by rw [List.mem_zipIdx_iff_getElem?]; simpa using ho)
    simp [hk] at this
  · intro i
    induction i using Nat.strongRecOn with
    | ind i ih =>
      intro j hj
      rcases Nat.lt_or_ge i ops.size with hi | hi
      · obtain ⟨e, he, h⟩ := pre i ops[i] j (Array.getElem?_eq_getElem hi) hj
        have hlt := back i ops[i] (Array.getElem?_eq_getElem hi) e he
        rcases h with rfl | h
        · exact hlt
        · have := ih e.on hlt j h; omega
      · rw [List.getD_eq_getElem?_getD, List.getElem?_eq_none (by rw [befores_len]; simpa using hi)] at hj
        simp at hj
  · intro i j a b hij ha hb hc
    have := h3 (b, j) (by rw [List.mem_zipIdx_iff_getElem?]; simpa using hb) (a, i) (by rw [List.mem_zipIdx_iff_getElem?]; simpa using ha)
    simpa [hij, hc] using this

/-! ### what is newly made -/
theorem new_sim (hT : TypesOk P T) {μ : Mu} {ρ : Operand → Option AV} {ρ' : Operand → Value} (hρ : Rho μ ρ ρ') (o : Oper) (hk : dkind T o.op = .new) {id : Nat} {v : AV} {b : Blk} (e : allocA T ρ o.op id = some (v, b)) (w : World) :
    ∃ cs mv arr t, b = .cells cs true ∧ (execOp ρ' o).run P w = .ok (.value mv) { w with heap := w.heap.push (.cells arr t) } ∧ cs.length ≤ arr.size ∧
      (∀ (i : Nat) (a : AV), cs[i]? = some a → ∃ v, arr[i]? = some v ∧ VR μ a v) ∧ VR (μ.upd id ⟨w.heap.size, 0, arr.size⟩) v mv := by
  have fin : ∀ {s : Sem Value} {cs : List AV} {h : Heap}, h = (⟨id, .nil⟩ : Heap).add (.cells cs true) → h.get id = some b → execOp ρ' o = (do pure (.value (← s))) → NewTo P μ w s v id cs →
      ∃ cs mv arr t, b = .cells cs true ∧ (execOp ρ' o).run P w = .ok (.value mv) { w with heap := w.heap.push (.cells arr t) } ∧ cs.length ≤ arr.size ∧
      (∀ (i : Nat) (a : AV), cs[i]? = some a → ∃ v, arr[i]? = some v ∧ VR μ a v) ∧ VR (μ.upd id ⟨w.heap.size, 0, arr.size⟩) v mv := by
    intro s cs h h1 h2 h3 ⟨mv, arr, t, n1, n2, n3, n4⟩
    subst h1
    rw [Heap.get_add] at h2
    simp at h2
    exact ⟨cs, mv, arr, t, h2.symm, by rw [h3]; simp [n1], n2, n3, n4⟩
  unfold allocA at e
  split at e
  · rename_i v' h hop
    split at e
    · rename_i b' hb
      simp only [Option.some.injEq, Prod.mk.injEq] at e
      obtain ⟨rfl, rfl⟩ := e
      obtain ⟨dst, op, type, pos, after, guard⟩ := o
      simp only at hop hk fin
      cases op with
      | alloc t =>
        simp only [opA] at hop
        split at hop
        · rename_i ti ht
          simp only [Option.some.injEq, Prod.mk.injEq] at hop
          obtain ⟨rfl, rfl⟩ := hop
          exact fin rfl hb rfl (alloc_new hT ht μ w id)
        · simp at hop
      | box t x =>
        simp only [opA] at hop
        split at hop
        · rename_i a ha
          split at hop
          · simp only [Option.some.injEq, Prod.mk.injEq] at hop
            obtain ⟨rfl, rfl⟩ := hop
            exact fin rfl hb rfl (box_new (hρ _ _ ha) w id)
          · simp at hop
        · simp at hop
      | buildSlice t n ps =>
        simp only [opA] at hop
        split at hop
        · rename_i l hl
          have hp := evalParts_rel hρ hl
          obtain ⟨cs, q1, q2⟩ := buildSlice_new (P := P) hT (qs := ps.map fun (i, x) => (i, ρ' x)) (by simpa using hp) hop w
          exact fin q1 hb rfl q2
        · simp at hop
      | makeSlice t l c =>
        simp only [opA] at hop
        split at hop
        · rename_i a1 b1 hl hc
          obtain ⟨cs, q1, q2⟩ := makeSlice_new (P := P) hT (hρ _ _ hl) (hρ _ _ hc) hop w
          exact fin q1 hb rfl q2
        · simp at hop
      | call c =>
        obtain ⟨cl, args, ts⟩ := c
        cases cl with
        | builtin b => cases b <;> simp [dkind] at hk
        | _ => simp [dkind] at hk
      | convert s d x =>
        simp only [dkind] at hk
        split at hk
        · split at hk <;> simp at hk
        · simp at hk
      | _ => simp [dkind] at hk
    · simp at e
  · simp at e

/-! ### what only reads -/
theorem quiet_same {ρ : Operand → Option AV} {op : Op} {h h' : Heap} {v : AV} (hk : dkind T op = .quiet) (e : opA T ρ op h = some (v, h')) : h' = h := by
  cases op with
  | call c =>
    obtain ⟨cl, args, ts⟩ := c
    cases cl with
    | builtin b =>
      simp only [opA] at e
      split at e
      · rename_i l hl
        cases b with
        | cap =>
          simp only [builtinA] at e
          split at e <;> first
            | (simp at e; done)
            | (rename_i h1 h2; simp_all; done)
            | (split at e <;> (try split at e) <;> simp_all; done)
            | simp_all
        | _ =>
          first
          | (simp [dkind] at hk; done)
          | (simp only [builtinA] at e
             split at e <;> first
               | (simp at e; done)
               | (rename_i h1 h2; simp_all; done)
               | (split at e <;> simp_all; done)
               | simp_all)
      · simp at e
    | _ => simp [opA] at e
  | convert s d x =>
    simp only [dkind] at hk
    simp only [opA] at e
    split at e
    · rename_i a ha
      unfold convA at e
      split at e
      · rename_i ts td hs hd
        rw [hd] at hk
        simp only at hk
        split at e
        · simp at e; exact e.2.symm
        · simp at e; exact e.2.symm
        · simp_all
        · split at e
          · split at e
            · split at e
              · simp at e; exact e.2.symm
              · split at e
                · simp at e; exact e.2.symm
                · split at e
                  · split at e
                    · simp at e; exact e.2.symm
                    · simp at e
                  · simp at e
            · simp at e
          · simp at e
        · simp at e
      · simp at e
    · simp at e
  | _ =>
    first
      | (simp [dkind] at hk; done)
      | (simp only [opA] at e
         repeat' split at e
         all_goals first
           | (simp at e; done)
           | (simp only [Option.some.injEq, Prod.mk.injEq] at e; exact e.2.symm))

end Go.Am

/-
  The abstract machine: a region whose order is drawn, in the text's order: what is kept of it.
-/
namespace Go.Am
variable {P : Program} {T : TT} {F : Nat → Option Func}

/-! ### one operation, over other slots -/
def runA (T : TT) (F : Nat → Option Func) (n : Nat) (s : List AV) (op : Op) (h : Heap) : Option (AV × Heap) :=
  match op with
  | .call { callee := .value f, args, .. } =>
    (match evalO s f, evalAll (evalO s) args.toList with
    | some (.func (.func g) caps), some l => (match externO F g (l ++ caps) with | some v => some (v, h) | none => callF T F n g (l ++ caps) h)
    | some (.func (.yield l) _), some as => roundF T F n l as h
    | _, _ => none)
  | op => opA T (evalO s) op h

theorem runA_congr {n : Nat} {s t : List AV} {op : Op} (h : ∀ x ∈ op.operands.toList, evalO s x = evalO t x) (H : Heap) : runA T F n s op H = runA T F n t op H := by
  cases op with
  | call c =>
    obtain ⟨cl, args, ts⟩ := c
    cases cl with
    | value f =>
      simp only [runA]
      simp only [Op.operands, Call.operands, Array.toList_append, List.mem_append] at h
      rw [h f (.inl (by simp)), evalAll_congr fun x hx => h x (.inr hx)]
    | _ => exact opA_congr (T := T) h H
  | _ => exact opA_congr (T := T) h H

theorem evalOs_eq (n : Nat) (ops : List Oper) (i : Nat) (is : List Nat) (s : List AV) (h : Heap) : evalOs T F (n + 1) ops (i :: is) s h =
    match ops[i]? with
    | none => none
    | some o =>
      if wantedA o ops s then
        match runA T F n s o.op h with
        | some (v, h') => evalOs T F n ops is (putA s o.dst v) h'
        | none => none
      else evalOs T F n ops is (putA s o.dst undefA) h := by
  simp only [evalOs, runA]
  rfl

theorem evalOs_nil {n : Nat} {ops : List Oper} {s s' : List AV} {h h' : Heap} (e : evalOs T F n ops [] s h = some (s', h')) : s' = s ∧ h' = h := by
  cases n with
  | zero => simp [evalOs] at e
  | succ n => simp only [evalOs, Option.some.injEq, Prod.mk.injEq] at e; exact ⟨e.1.symm, e.2.symm⟩

theorem evalOs_one {n : Nat} {ops : List Oper} {i : Nat} {s s' : List AV} {h h' : Heap} (e : evalOs T F n ops [i] s h = some (s', h')) :
    ∃ o v, ops[i]? = some o ∧ s' = putA s o.dst v ∧ ∀ t : List AV, (∀ r ∈ readsOf ops o, t[r]? = s[r]?) → evalOs T F n ops [i] t h = some (putA t o.dst v, h') := by
  cases n with
  | zero => simp [evalOs] at e
  | succ n =>
    rw [evalOs_eq] at e
    split at e
    · simp at e
    · rename_i o ho
      have hc : ∀ t : List AV, (∀ r ∈ readsOf ops o, t[r]? = s[r]?) → wantedA o ops t = wantedA o ops s ∧ runA T F n t o.op h = runA T F n s o.op h := fun t ht =>
        ⟨wanted_congr ht, runA_congr (tmp_of fun x hx => ht x (by unfold readsOf; exact List.mem_append_right _ hx)) h⟩
      split at e
      · rename_i hw
        split at e
        · rename_i v h1 hr
          obtain ⟨e1, e2⟩ := evalOs_nil e
          subst e1 e2
          refine ⟨o, v, ho, rfl, fun t ht => ?_⟩
          obtain ⟨c1, c2⟩ := hc t ht
          rw [evalOs_eq, ho]
          simp only [c1, hw, if_true, c2, hr]
          cases n with
          | zero => simp [evalOs] at e
          | succ n => simp [evalOs]
        · simp at e
      · rename_i hw
        obtain ⟨e1, e2⟩ := evalOs_nil e
        subst e1 e2
        refine ⟨o, undefA, ho, rfl, fun t ht => ?_⟩
        obtain ⟨c1, c2⟩ := hc t ht
        rw [evalOs_eq, ho]
        simp only [c1, hw]
        cases n with
        | zero => simp [evalOs] at e
        | succ n => simp [evalOs]

/-! ### what is kept -/
def isEff (T : TT) (ops : List Oper) (i : Nat) : Bool := match ops[i]? with | some o => dkind T o.op == .eff | none => false

/-- How many operations ahead of one change something. -/
def cnt (T : TT) (ops : List Oper) : Nat → Nat
  | 0 => 0
  | i + 1 => cnt T ops i + if isEff T ops i then 1 else 0

/-- What is kept of one operation: slots, heaps, what is newly made. -/
def PP (T : TT) (F : Nat → Option Func) (n : Nat) (ops : List Oper) (base j : Nat) (SS : List (List AV)) (HS : List (Nat × Heap)) (nb : List (Nat × Blk)) : Prop :=
  ∃ o s s' msk h, ops[j]? = some o ∧ SS[j]? = some s ∧ SS[j + 1]? = some s' ∧ HS[cnt T ops j]? = some (msk, h) ∧
    ((dkind T o.op = .eff ∧ ∃ h' m, m ≤ n ∧ HS[cnt T ops j + 1]? = some (msk ||| (befores ops []).getD j 0, h') ∧ evalOs T F m ops [j] s (heapFor base nb ((befores ops []).getD j 0) msk h) = some (s', h')) ∨
     (dkind T o.op = .new ∧ wantedA o ops s = true ∧ ∃ v b, allocA T (evalO s) o.op (base + j) = some (v, b) ∧ s' = putA s o.dst v ∧ (j, b) ∈ nb) ∨
     (dkind T o.op = .new ∧ wantedA o ops s = false ∧ s' = putA s o.dst undefA ∧ ∀ b, (j, b) ∉ nb) ∨
     (dkind T o.op = .quiet ∧ wantedA o ops s = true ∧ ∃ v h', opA T (evalO s) o.op (heapFor base nb ((befores ops []).getD j 0) msk h) = some (v, h') ∧ s' = putA s o.dst v) ∨
     (dkind T o.op = .quiet ∧ wantedA o ops s = false ∧ s' = putA s o.dst undefA))

structure DInv (T : TT) (F : Nat → Option Func) (n : Nat) (ops : List Oper) (base i : Nat) (s0 : List AV) (h0 : Heap) (st : DSt) : Prop where
  ss : st.ss.length = i
  hs : st.hs.length = cnt T ops i
  nb : ∀ p ∈ st.nb, p.1 < i
  one : ∀ j x y, (j, x) ∈ st.nb → (j, y) ∈ st.nb → x = y
  s0 : (st.ss ++ [st.s])[0]? = some s0
  h0 : (st.hs ++ [(st.msk, st.h)])[0]? = some (0, h0)
  knd : ∀ p ∈ st.nb, ∃ o, ops[p.1]? = some o ∧ dkind T o.op = .new
  all : ∀ j, j < i → PP T F n ops base j (st.ss ++ [st.s]) (st.hs ++ [(st.msk, st.h)]) st.nb

theorem PP.ext {n : Nat} {ops : List Oper} {base j : Nat} {SS SS' : List (List AV)} {HS HS' : List (Nat × Heap)} {nb nb' : List (Nat × Blk)} (hlt : ∀ k, ((befores ops []).getD j 0).testBit k = true → k < j)
    (hS : ∀ (k : Nat) x, SS[k]? = some x → SS'[k]? = some x) (hH : ∀ (k : Nat) x, HS[k]? = some x → HS'[k]? = some x) (hn : nb' = nb ∨ ∃ i b, j < i ∧ nb' = nb ++ [(i, b)]) (h : PP T F n ops base j SS HS nb) : PP T F n ops base j SS' HS' nb' := by
  have hf : ∀ msk h, heapFor base nb' ((befores ops []).getD j 0) msk h = heapFor base nb ((befores ops []).getD j 0) msk h := by
    intro msk h
    rcases hn with rfl | ⟨i, b, hi, rfl⟩
    · rfl
    · unfold heapFor
      rw [List.filter_append]
      have : ((befores ops []).getD j 0).testBit i = false := by
        cases hq : ((befores ops []).getD j 0).testBit i with
        | false => rfl
        | true => have := hlt i hq; omega
      have h2 : List.filter (fun p : Nat × Blk => ((befores ops []).getD j 0).testBit p.1 && !msk.testBit p.1) [(i, b)] = [] := by
        rw [List.filter_eq_nil_iff]
        intro p hp
        simp only [List.mem_singleton] at hp
        subst hp
        rw [this]; simp
      rw [h2, List.append_nil]
  have hmem : ∀ x, (j, x) ∈ nb' ↔ (j, x) ∈ nb := by
    intro x
    rcases hn with rfl | ⟨i, b, hi, rfl⟩
    · rfl
    · simp; omega
  obtain ⟨o, s, s', msk, h, h1, h2, h3, h4, h5⟩ := h
  refine ⟨o, s, s', msk, h, h1, hS _ _ h2, hS _ _ h3, hH _ _ h4, ?_⟩
  rcases h5 with ⟨a, h', m, b1, b2, b3⟩ | ⟨a, b, v, x, c1, c2, c3⟩ | ⟨a, b, c, d⟩ | ⟨a, b, v, h', c1, c2⟩ | ⟨a, b, c⟩
  · exact .inl ⟨a, h', m, b1, hH _ _ b2, by rw [hf]; exact b3⟩
  · exact .inr (.inl ⟨a, b, v, x, c1, c2, (hmem _).2 c3⟩)
  · exact .inr (.inr (.inl ⟨a, b, c, fun x hx => d x ((hmem _).1 hx)⟩))
  · exact .inr (.inr (.inr (.inl ⟨a, b, v, h', by rw [hf]; exact c1, c2⟩)))
  · exact .inr (.inr (.inr (.inr ⟨a, b, c⟩)))

theorem get_snoc {α : Type} {l : List α} {k : Nat} {y : α} (h : l[k]? = some y) (z : List α) : (l ++ z)[k]? = some y := by
  rw [List.getElem?_append_left (List.getElem?_eq_some_iff.1 h).1]; exact h

theorem get_end {α : Type} (l : List α) (x : α) : (l ++ [x])[l.length]? = some x := by simp

theorem evalDs_inv {n0 : Nat} {ops : Array Oper} (hok : DOk T ops) {base : Nat} {s0 : List AV} {h0 : Heap} : ∀ (n m i : Nat) (st st' : DSt), n ≤ n0 → i + m = ops.size →
    evalDs T F n ops.toList (befores ops.toList []) base (List.range' i m) st = some st' → DInv T F n0 ops.toList base i s0 h0 st → DInv T F n0 ops.toList base ops.size s0 h0 st'
  | 0, m, i, st, st', _, _, e, _ => by simp [evalDs] at e
  | n + 1, 0, i, st, st', hn, hi, e, h => by
    simp only [List.range', evalDs, Option.some.injEq] at e
    subst e
    have : i = ops.size := by omega
    subst this; exact h
  | n + 1, m + 1, i, st, st', hn, hi, e, h => by
    simp only [List.range', evalDs] at e
    split at e
    · simp at e
    · rename_i o ho
      -- what was kept stays
      have hadd : ∀ (s' : List AV) (hs' : List (Nat × Heap)) (msk' : Nat) (h' : Heap) (nb' : List (Nat × Blk)), (∀ (k : Nat) x, (st.hs ++ [(st.msk, st.h)])[k]? = some x → (hs' ++ [(msk', h')])[k]? = some x) → hs'.length = cnt T ops.toList (i + 1) →
          (nb' = st.nb ∨ dkind T o.op = .new ∧ ∃ b, nb' = st.nb ++ [(i, b)]) → PP T F n0 ops.toList base i ((st.ss ++ [st.s]) ++ [s']) (hs' ++ [(msk', h')]) nb' →
          DInv T F n0 ops.toList base (i + 1) s0 h0 { ss := st.ss ++ [st.s], s := s', hs := hs', msk := msk', h := h', nb := nb' } := by
        intro s' hs' msk' h' nb' k1 k2 k3 k4
        refine ⟨by simp [h.ss], k2, ?_, ?_, get_snoc h.s0 _, k1 _ _ h.h0, ?_, ?_⟩
        · intro p hp
          rcases k3 with rfl | ⟨k3, b, rfl⟩
          · have := h.nb p hp; omega
          · simp only [List.mem_append, List.mem_singleton] at hp
            rcases hp with hp | rfl
            · have := h.nb p hp; omega
            · simp
        · intro j x y hx hy
          rcases k3 with rfl | ⟨k3, b, rfl⟩
          · exact h.one j x y hx hy
          · simp only [List.mem_append, List.mem_singleton, Prod.mk.injEq] at hx hy
            rcases hx with hx | ⟨rfl, rfl⟩
            · rcases hy with hy | ⟨rfl, rfl⟩
              · exact h.one j x y hx hy
              · have := h.nb _ hx; simp at this
            · rcases hy with hy | ⟨_, rfl⟩
              · have := h.nb _ hy; simp at this
              · rfl
        · intro p hp
          rcases k3 with rfl | ⟨k3, b, rfl⟩
          · exact h.knd p hp
          · simp only [List.mem_append, List.mem_singleton] at hp
            rcases hp with hp | rfl
            · exact h.knd p hp
            · exact ⟨o, ho, k3⟩
        · intro j hj
          by_cases hji : j = i
          · subst hji; exact k4
          · refine (h.all j (by omega)).ext (fun k hk => hok.lt j k hk) (fun k x hx => get_snoc hx _) k1 ?_
            rcases k3 with rfl | ⟨k3, b, rfl⟩
            · exact .inl rfl
            · exact .inr ⟨i, b, by omega, rfl⟩
      have hS : ((st.ss ++ [st.s]) : List (List AV))[i]? = some st.s := by rw [← h.ss]; exact get_end _ _
      have hS1 : ∀ s', ((st.ss ++ [st.s]) ++ [s'])[i]? = some st.s := fun s' => get_snoc hS _
      have hS2 : ∀ s' : List AV, ((st.ss ++ [st.s]) ++ [s'])[i + 1]? = some s' := fun s' => by rw [← h.ss]; simp
      have hH : (st.hs ++ [(st.msk, st.h)])[cnt T ops.toList i]? = some (st.msk, st.h) := by rw [← h.hs]; exact get_end _ _
      have hcn : dkind T o.op ≠ .eff → cnt T ops.toList (i + 1) = cnt T ops.toList i := fun hk => by
        simp [cnt, isEff, ho, hk]
      split at e
      · rename_i hk
        split at e
        · rename_i s' h' hev
          refine evalDs_inv hok n m (i + 1) _ st' (by omega) (by omega) e (hadd s' _ _ h' _ (fun k x hx => get_snoc hx _) ?_ (.inl rfl) ?_)
          · simp [cnt, isEff, ho, hk, h.hs]
          · refine ⟨o, st.s, s', st.msk, st.h, ho, hS1 _, hS2 _, get_snoc hH _, .inl ⟨hk, h', n, by omega, ?_, hev⟩⟩
            rw [← h.hs]; simp
        · simp at e
      · rename_i hk
        split at e
        · rename_i hw
          split at e
          · rename_i v b hal
            refine evalDs_inv hok n m (i + 1) _ st' (by omega) (by omega) e (hadd _ _ _ _ _ (fun k x hx => hx) ?_ (.inr ⟨hk, b, rfl⟩) ?_)
            · rw [hcn (by rw [hk]; simp)]; exact h.hs
            · exact ⟨o, st.s, _, st.msk, st.h, ho, hS1 _, hS2 _, hH, .inr (.inl ⟨hk, hw, v, b, hal, rfl, by simp⟩)⟩
          · simp at e
        · rename_i hw
          refine evalDs_inv hok n m (i + 1) _ st' (by omega) (by omega) e (hadd _ _ _ _ _ (fun k x hx => hx) ?_ (.inl rfl) ?_)
          · rw [hcn (by rw [hk]; simp)]; exact h.hs
          · refine ⟨o, st.s, _, st.msk, st.h, ho, hS1 _, hS2 _, hH, .inr (.inr (.inl ⟨hk, by simpa using hw, rfl, fun b hb => ?_⟩))⟩
            have := h.nb _ hb; simp at this
      · rename_i hk
        split at e
        · rename_i hw
          split at e
          · rename_i v h' hop
            refine evalDs_inv hok n m (i + 1) _ st' (by omega) (by omega) e (hadd _ _ _ _ _ (fun k x hx => hx) ?_ (.inl rfl) ?_)
            · rw [hcn (by rw [hk]; simp)]; exact h.hs
            · exact ⟨o, st.s, _, st.msk, st.h, ho, hS1 _, hS2 _, hH, .inr (.inr (.inr (.inl ⟨hk, hw, v, h', hop, rfl⟩)))⟩
          · simp at e
        · rename_i hw
          refine evalDs_inv hok n m (i + 1) _ st' (by omega) (by omega) e (hadd _ _ _ _ _ (fun k x hx => hx) ?_ (.inl rfl) ?_)
          · rw [hcn (by rw [hk]; simp)]; exact h.hs
          · exact ⟨o, st.s, _, st.msk, st.h, ho, hS1 _, hS2 _, hH, .inr (.inr (.inr (.inr ⟨hk, by simpa using hw, rfl⟩)))⟩
      · simp at e

end Go.Am

/-
  The abstract machine: a region whose order is drawn, in whatever order.
-/
namespace Go.Am
variable {P : Program} {T : TT} {F : Nat → Option Func}

theorem allocA_mine {ρ : Operand → Option AV} {op : Op} {id : Nat} {v : AV} {b : Blk} (hk : dkind T op = .new) (e : allocA T ρ op id = some (v, b)) : b.mine = true := by
  have key : ∀ h, opA T ρ op ⟨id, .nil⟩ = some (v, h) → ∃ cs, h = (⟨id, .nil⟩ : Heap).add (.cells cs true) := by
    intro h hop
    cases op with
    | alloc t =>
      simp only [opA] at hop
      split at hop
      · simp only [Option.some.injEq, Prod.mk.injEq] at hop; exact ⟨_, hop.2.symm⟩
      · simp at hop
    | box t x =>
      simp only [opA] at hop
      split at hop
      · split at hop
        · simp only [Option.some.injEq, Prod.mk.injEq] at hop; exact ⟨_, hop.2.symm⟩
        · simp at hop
      · simp at hop
    | buildSlice t n ps =>
      simp only [opA, buildSliceA] at hop
      repeat' split at hop
      all_goals first
        | (simp at hop; done)
        | (simp only [Option.some.injEq, Prod.mk.injEq] at hop; exact ⟨_, hop.2.symm⟩)
    | makeSlice t l c =>
      simp only [opA, makeSliceA] at hop
      repeat' split at hop
      all_goals first
        | (simp at hop; done)
        | (simp only [Option.some.injEq, Prod.mk.injEq] at hop; exact ⟨_, hop.2.symm⟩)
    | call c =>
      obtain ⟨cl, args, ts⟩ := c
      cases cl with
      | builtin b => cases b <;> simp [dkind] at hk
      | _ => simp [dkind] at hk
    | convert s d x =>
      simp only [dkind] at hk
      split at hk
      · split at hk <;> simp at hk
      · simp at hk
    | _ => simp [dkind] at hk
  unfold allocA at e
  split at e
  · rename_i v' h hop
    split at e
    · rename_i b' hb
      simp only [Option.some.injEq, Prod.mk.injEq] at e
      obtain ⟨rfl, rfl⟩ := e
      obtain ⟨cs, rfl⟩ := key _ hop
      rw [Heap.get_add] at hb
      simp at hb
      rw [← hb]; rfl
    · simp at e
  · simp at e

theorem runA_plain {n : Nat} {s : List AV} {op : Op} {h : Heap} (hk : dkind T op ≠ .eff) : runA T F n s op h = opA T (evalO s) op h := by
  cases op with
  | call c =>
    obtain ⟨cl, args, ts⟩ := c
    cases cl with
    | value f => exact absurd rfl hk
    | _ => rfl
  | _ => rfl

/-! ### counting -/
theorem cnt_mono (ops : List Oper) {i : Nat} : ∀ {j : Nat}, i ≤ j → cnt T ops i ≤ cnt T ops j
  | 0, h => by have : i = 0 := by omega
               subst this; exact Nat.le_refl _
  | j + 1, h => by
    rcases Nat.lt_or_ge i (j + 1) with h1 | h1
    · have := cnt_mono ops (i := i) (j := j) (by omega)
      simp only [cnt]; omega
    · have : i = j + 1 := by omega
      subst this; exact Nat.le_refl _

theorem cnt_lt {ops : List Oper} {i j : Nat} (h : i < j) (he : isEff T ops i = true) : cnt T ops i < cnt T ops j := by
  have := cnt_mono (T := T) ops (i := i + 1) (j := j) h
  simp only [cnt, he, if_true] at this; omega

theorem cnt_ex {ops : List Oper} : ∀ {i k : Nat}, k < cnt T ops i → ∃ e, e < i ∧ isEff T ops e = true ∧ cnt T ops e = k
  | 0, k, h => by simp [cnt] at h
  | i + 1, k, h => by
    simp only [cnt] at h
    by_cases hk : k < cnt T ops i
    · obtain ⟨e, h1, h2, h3⟩ := cnt_ex hk
      exact ⟨e, by omega, h2, h3⟩
    · split at h
      · rename_i he; exact ⟨i, by omega, he, by omega⟩
      · omega

theorem effs_len (ops : List Oper) : ∀ N, ((List.range N).filter (isEff T ops)).length = cnt T ops N
  | 0 => rfl
  | N + 1 => by
    rw [List.range_succ, List.filter_append, List.length_append, effs_len ops N]
    simp only [cnt, List.filter_cons, List.filter_nil]
    split <;> simp

theorem effs_get {ops : List Oper} : ∀ {N k e : Nat}, ((List.range N).filter (isEff T ops))[k]? = some e → isEff T ops e = true ∧ e < N ∧ cnt T ops e = k
  | 0, k, e, h => by simp at h
  | N + 1, k, e, h => by
    rw [List.range_succ, List.filter_append] at h
    rcases Nat.lt_or_ge k ((List.range N).filter (isEff T ops)).length with hk | hk
    · rw [List.getElem?_append_left hk] at h
      obtain ⟨h1, h2, h3⟩ := effs_get h
      exact ⟨h1, by omega, h3⟩
    · rw [List.getElem?_append_right hk] at h
      simp only [List.filter_cons, List.filter_nil] at h
      split at h
      · rename_i he
        rw [effs_len] at hk h
        have h0 : k - cnt T ops N = 0 := by
          have := (List.getElem?_eq_some_iff.1 h).1
          simp at this; omega
        rw [h0] at h
        simp at h; subst h
        exact ⟨he, by omega, by omega⟩
      · simp at h

/-! ### what is kept, of all -/
structure DFin (T : TT) (F : Nat → Option Func) (n : Nat) (ops : Array Oper) (base : Nat) (s0 : List AV) (h0 : Heap) (st : DSt) : Prop where
  ok : DOk T ops
  inv : DInv T F n ops.toList base ops.size s0 h0 st
  chk : drawChk T ops.toList base st = true
  two : 0 < ops.size → 2 ≤ n

def wr (ops : Array Oper) (j t : Nat) : Prop := ∃ o, ops[j]? = some o ∧ o.dst = some t

theorem putA_ne {s : List AV} {d : Option Nat} {t : Nat} {v : AV} (h : d ≠ some t) : (putA s d v)[t]? = s[t]? := by
  cases d with
  | none => rfl
  | some d => simp only [putA]; rw [List.getElem?_set_ne]; intro e; exact h (by rw [e])

theorem putA_len (s : List AV) (d : Option Nat) (v : AV) : (putA s d v).length = s.length := by cases d <;> simp [putA]

variable {n0 base : Nat} {ops : Array Oper} {s0 : List AV} {h0 : Heap} {st : DSt}

theorem DFin.mine (D : DFin T F n0 ops base s0 h0 st) {j : Nat} {x : Blk} (hm : (j, x) ∈ st.nb) : x.mine = true := by
  obtain ⟨o1, k1, k2⟩ := D.inv.knd _ hm
  obtain ⟨o, s, s', msk, h, h1, h2, h3, h4, h5⟩ := D.inv.all j (D.inv.nb _ hm)
  simp only at k1
  rw [k1] at h1; cases h1
  rcases h5 with ⟨a, _⟩ | ⟨a, b, v, y, c1, c2, c3⟩ | ⟨a, b, c, d⟩ | ⟨a, _⟩ | ⟨a, _⟩
  · rw [k2] at a; cases a
  · have := D.inv.one j x y hm c3
    subst this
    exact allocA_mine a c1
  · exact absurd hm (d x)
  · rw [k2] at a; cases a
  · rw [k2] at a; cases a

theorem DFin.put (D : DFin T F n0 ops base s0 h0 st) {j : Nat} (hj : j < ops.size) : ∃ o v s, ops[j]? = some o ∧ (st.ss ++ [st.s])[j]? = some s ∧ (st.ss ++ [st.s])[j + 1]? = some (putA s o.dst v) := by
  obtain ⟨o, s, s', msk, h, h1, h2, h3, h4, h5⟩ := D.inv.all j hj
  have ho : ops[j]? = some o := by simpa using h1
  rcases h5 with ⟨a, h', m, b1, b2, b3⟩ | ⟨a, b, v, y, c1, c2, c3⟩ | ⟨a, b, c, d⟩ | ⟨a, b, v, h', c1, c2⟩ | ⟨a, b, c⟩
  · obtain ⟨o', v, e1, e2, _⟩ := evalOs_one b3
    rw [h1] at e1; cases e1
    exact ⟨o, v, s, ho, h2, by rw [h3, e2]⟩
  · exact ⟨o, v, s, ho, h2, by rw [h3, c2]⟩
  · exact ⟨o, undefA, s, ho, h2, by rw [h3, c]⟩
  · exact ⟨o, v, s, ho, h2, by rw [h3, c2]⟩
  · exact ⟨o, undefA, s, ho, h2, by rw [h3, c]⟩

theorem DFin.const (D : DFin T F n0 ops base s0 h0 st) {t : Nat} : ∀ (d a : Nat) (x y : List AV), (∀ j, a ≤ j → j < a + d → ¬ wr ops j t) → a + d ≤ ops.size → (st.ss ++ [st.s])[a]? = some x → (st.ss ++ [st.s])[a + d]? = some y → x[t]? = y[t]?
  | 0, a, x, y, _, _, hx, hy => by rw [Nat.add_zero, hx] at hy; cases hy; rfl
  | d + 1, a, x, y, hw, hle, hx, hy => by
    obtain ⟨o, v, s, h1, h2, h3⟩ := D.put (j := a + d) (by omega)
    have hy' : (st.ss ++ [st.s])[a + d + 1]? = some y := hy
    rw [h3] at hy'; cases hy'
    rw [putA_ne (fun e => hw (a + d) (by omega) (by omega) ⟨o, h1, e⟩)]
    exact D.const d a x s (fun j h4 h5 => hw j h4 (by omega)) (by omega) hx h2

theorem DFin.len (D : DFin T F n0 ops base s0 h0 st) : ∀ (k : Nat) (x : List AV), k ≤ ops.size → (st.ss ++ [st.s])[k]? = some x → x.length = s0.length
  | 0, x, _, hx => by rw [D.inv.s0] at hx; cases hx; rfl
  | k + 1, x, hk, hx => by
    obtain ⟨o, v, s, h1, h2, h3⟩ := D.put (j := k) (by omega)
    rw [h3] at hx; cases hx
    rw [putA_len]; exact D.len k s (by omega) h2

theorem clash_read {a b : Oper} {ops : List Oper} {d : Nat} (h1 : a.dst = some d) (h2 : d ∈ readsOf ops b) : clash T ops a b = true ∧ clash T ops b a = true := by
  have : (readsOf ops b).contains d = true := by simpa using h2
  constructor <;> simp [clash, h1, h2]

theorem clash_write {a b : Oper} {ops : List Oper} {d : Nat} (h1 : a.dst = some d) (h2 : b.dst = some d) : clash T ops a b = true := by
  simp [clash, h1, h2]

theorem DFin.effOrd (D : DFin T F n0 ops base s0 h0 st) {e i : Nat} (h : e < i) (h1 : isEff T ops.toList e = true) (h2 : isEff T ops.toList i = true) : ((befores ops.toList []).getD i 0).testBit e = true := by
  unfold isEff at h1 h2
  split at h1
  · rename_i a ha
    split at h2
    · rename_i b hb
      exact D.ok.ord e i a b h (by simpa using ha) (by simpa using hb) (by
        have e1 : dkind T a.op = .eff := by simpa using h1
        have e2 : dkind T b.op = .eff := by simpa using h2
        simp [clash, e1, e2])
    · simp at h2
  · simp at h1

/-- What only reads, at any heap that may stand there. -/
theorem DFin.quiet (D : DFin T F n0 ops base s0 h0 st) {i k msk : Nat} {o : Oper} {s s' : List AV} {h : Heap} (hi : i < ops.size) (ho : ops.toList[i]? = some o) (hq : dkind T o.op = .quiet) (hs : (st.ss ++ [st.s])[i]? = some s) (hs' : (st.ss ++ [st.s])[i + 1]? = some s')
    (hw : wantedA o ops.toList s = true) (hk : (st.hs ++ [(st.msk, st.h)])[k]? = some (msk, h)) (hm : msk.testBit i = false) (he : ∀ e, isEff T ops.toList e = true → cnt T ops.toList e = k → ((befores ops.toList []).getD i 0).testBit e = false) :
    ∃ v h', opA T (evalO s) o.op (heapFor base st.nb ((befores ops.toList []).getD i 0) msk h) = some (v, h') ∧ s' = putA s o.dst v := by
  obtain ⟨o1, t, t', msk1, h1, q1, q2, q3, q4, q5⟩ := D.inv.all i hi
  rw [ho] at q1; cases q1
  rw [hs] at q2; cases q2
  rw [hs'] at q3; cases q3
  obtain ⟨v0, h0', c1, c2⟩ : ∃ v h', opA T (evalO s) o.op (heapFor base st.nb ((befores ops.toList []).getD i 0) msk1 h1) = some (v, h') ∧ s' = putA s o.dst v := by
    rcases q5 with ⟨a, _⟩ | ⟨a, _⟩ | ⟨a, _⟩ | ⟨a, b, v, h', c1, c2⟩ | ⟨a, b, _⟩
    · rw [hq] at a; cases a
    · rw [hq] at a; cases a
    · rw [hq] at a; cases a
    · exact ⟨v, h', c1, c2⟩
    · rw [hw] at b; cases b
  have hc := D.chk
  unfold drawChk at hc
  simp only [Bool.or_eq_true] at hc
  rcases hc with hc | hc
  · -- nothing is changed at all
    have hn : cnt T ops.toList ops.size = 0 := by
      have := effs_len (T := T) ops.toList ops.toList.length
      have h2 : ((List.range ops.toList.length).filter (isEff T ops.toList)) = [] := List.isEmpty_iff.1 hc
      rw [h2] at this; simpa using this.symm
    have hl := D.inv.hs
    rw [hn] at hl
    have hnil : st.hs = [] := List.length_eq_zero_iff.1 hl
    rw [hnil] at hk q4
    have k0 : k = 0 := by have := (List.getElem?_eq_some_iff.1 hk).1; simp at this; exact this
    have k1 : cnt T ops.toList i = 0 := by have := (List.getElem?_eq_some_iff.1 q4).1; simp at this; exact this
    rw [k0] at hk; rw [k1, hk] at q4
    cases q4
    exact ⟨v0, h0', c1, c2⟩
  · rw [List.all_eq_true] at hc
    have h1' := hc (o, i) (by rw [List.mem_zipIdx_iff_getElem?]; exact ho)
    have e1 : (st.ss ++ [st.s]).getD i [] = s := by rw [List.getD_eq_getElem?_getD, hs]; rfl
    have e2 : (st.ss ++ [st.s]).getD (i + 1) [] = s' := by rw [List.getD_eq_getElem?_getD, hs']; rfl
    simp only [hq, e1, e2, hw, bne_self_eq_false, Bool.not_true, Bool.false_or, List.all_eq_true] at h1'
    have h2 := h1' ((msk, h), k) (by rw [List.mem_zipIdx_iff_getElem?]; exact hk)
    simp only [hm, Bool.false_or, Bool.or_eq_true] at h2
    rcases h2 with h2 | h2
    · split at h2
      · rename_i e hge
        obtain ⟨g1, g2, g3⟩ := effs_get (T := T) (ops := ops.toList) (N := ops.toList.length) (k := k) (e := e) hge
        rw [he e g1 g3] at h2; cases h2
      · simp at h2
    · unfold sameV at h2
      split at h2
      · rename_i v h' hop
        refine ⟨v, h', hop, ?_⟩
        rw [c2]
        cases hd : o.dst with
        | none => rfl
        | some d =>
          rw [hd] at h2 c2
          simp only at h2
          simp only [putA] at c2 ⊢
          rcases Nat.lt_or_ge d s.length with hdl | hdl
          · have : s'[d]? = some v0 := by rw [c2]; simp [hdl]
            rw [this] at h2
            simp only at h2
            rw [AV.eqb_eq _ _ h2]
          · rw [List.set_eq_of_length_le hdl, List.set_eq_of_length_le hdl]
      · simp at h2

end Go.Am

/-
  The abstract machine: a region whose order is drawn, step by step in the order that is drawn.
-/
namespace Go.Am
variable {P : Program} {T : TT} {F : Nat → Option Func} {n0 base : Nat} {ops : Array Oper} {s0 : List AV} {h0 : Heap} {st : DSt}

theorem pf_in {nb : List (Nat × Blk)} (one : ∀ j x y, (j, x) ∈ nb → (j, y) ∈ nb → x = y) (q : Nat → Bool) {j : Nat} {x : Blk} (hm : (j, x) ∈ nb) (hq : q j = true) (h : Heap) :
    (putsA base (nb.filter fun p => q p.1) h).get (base + j) = some x :=
  putsA_get base _ h (fun y hy => one j y x (List.mem_filter.1 hy).1 hm) (List.mem_filter.2 ⟨hm, hq⟩)

theorem pf_out {nb : List (Nat × Blk)} (q : Nat → Bool) {b : Nat} (hn : ∀ j x, (j, x) ∈ nb → q j = true → base + j ≠ b) (h : Heap) :
    (putsA base (nb.filter fun p => q p.1) h).get b = h.get b :=
  putsA_get_ne base _ h fun p hp => hn p.1 p.2 (List.mem_filter.1 hp).1 (List.mem_filter.1 hp).2

/-- Numbers that are put by: those of what is not yet made. -/
def resP (z : Frz) (base N : Nat) (pre : List Nat) : Nat → Bool := fun b => z.res b || (decide (base ≤ b) && decide (b < base + N) && !pre.contains (b - base))

/-- Between two operations. -/
structure InvD (T : TT) (z : Frz) (ops : Array Oper) (base : Nat) (s0 : List AV) (st : DSt) (pre : List Nat) (k : Nat) (μ : Mu) (w : World) (t : List AV) (act : Act) : Prop where
  eff : ∀ e, isEff T ops.toList e = true → (e ∈ pre ↔ cnt T ops.toList e < k)
  cl : ∀ x ∈ pre, ∀ j, ((befores ops.toList []).getD x 0).testBit j = true → j ∈ pre
  len : t.length = s0.length
  slot : ∀ (x m : Nat) (s : List AV), (st.ss ++ [st.s])[m]? = some s → (∀ j, wr ops j x → (j ∈ pre ↔ j < m)) → t[x]? = s[x]?
  rel : VRs μ t act.tmps.toList
  heap : ∃ msk h, (st.hs ++ [(st.msk, st.h)])[k]? = some (msk, h) ∧ (∀ j, msk.testBit j = true → j ∈ pre) ∧
    (∀ j b, (j, b) ∈ st.nb → j ∈ pre → msk.testBit j = false → h.get (base + j) = none) ∧
    Sim { z with res := resP z base ops.size pre } μ (putsA base (st.nb.filter fun p => pre.contains p.1 && !msk.testBit p.1) h) w

theorem run_one (hS : ∀ m, m ≤ n0 → SoundS P T F m) (D : DFin T F n0 ops base s0 h0 st) {z : Frz} {pre : List Nat} {μ : Mu} {w : World} {t t' : List AV} {act : Act} {i m msk bi : Nat} {h h' : Heap}
    (hnone : ∀ j b, (j, b) ∈ st.nb → j ∈ pre → msk.testBit j = false → h.get (base + j) = none)
    (S : Sim z μ (putsA base (st.nb.filter fun p => pre.contains p.1 && !msk.testBit p.1) h) w) (hrel : VRs μ t act.tmps.toList)
    (hb : ∀ j, bi.testBit j = true → j ∈ pre) (hm : m ≤ n0) (ev : evalOs T F m ops.toList [i] t (heapFor base st.nb bi msk h) = some (t', h')) (b : Frame) (k : List Item) (cs : List Frame) (rest : List Nat) (hkn : b.kind = .normal) :
    ∃ μ1 w1 act1, μ.le μ1 ∧ Sim z μ1 (putsA base (st.nb.filter fun p => pre.contains p.1 && !msk.testBit p.1 && !bi.testBit p.1) h') w1 ∧ VRs μ1 t' act1.tmps.toList ∧ act1.defers = act.defers ∧
      Steps P (lone (b.atR act (.inRegion ops (i :: rest) :: k)) cs w) (lone (b.atR act1 (.inRegion ops rest :: k)) cs w1) ∧
      (∀ j b, (j, b) ∈ st.nb → j ∈ pre → msk.testBit j = false → bi.testBit j = false → h'.get (base + j) = none) := by
  let ids := (st.nb.filter fun p => pre.contains p.1 && !msk.testBit p.1 && !bi.testBit p.1).map fun p => base + p.1
  have hids : ∀ c, c ∈ ids ↔ ∃ j x, (j, x) ∈ st.nb ∧ j ∈ pre ∧ msk.testBit j = false ∧ bi.testBit j = false ∧ c = base + j := by
    intro c
    simp only [ids, List.mem_map, List.mem_filter, Bool.and_eq_true, Bool.not_eq_true', List.contains_iff_mem, Prod.exists]
    constructor
    · rintro ⟨j, x, ⟨h1, ⟨h2, h3⟩, h4⟩, rfl⟩; exact ⟨j, x, h1, h2, h3, h4, rfl⟩
    · rintro ⟨j, x, h1, h2, h3, h4, rfl⟩; exact ⟨j, x, ⟨h1, ⟨h2, h3⟩, h4⟩, rfl⟩
  have one := D.inv.one
  have hGin : ∀ {j x}, (j, x) ∈ st.nb → j ∈ pre → msk.testBit j = false → (putsA base (st.nb.filter fun p => pre.contains p.1 && !msk.testBit p.1) h).get (base + j) = some x := fun {j x} h1 h2 h3 =>
    pf_in one (fun j => pre.contains j && !msk.testBit j) h1 (by simp [h2, h3]) h
  have S2 := S.hide (h0 := heapFor base st.nb bi msk h) (ids := ids) (by simp [heapFor, putsA_nxt]) (fun c hc => by
      by_cases ex : ∃ j x, (j, x) ∈ st.nb ∧ base + j = c
      · obtain ⟨j, x, hjx, rfl⟩ := ex
        cases hq : (bi.testBit j && !msk.testBit j) with
        | true =>
          simp only [Bool.and_eq_true, Bool.not_eq_true'] at hq
          have e1 : (heapFor base st.nb bi msk h).get (base + j) = some x := pf_in one (fun j => bi.testBit j && !msk.testBit j) hjx (by simp [hq.1, hq.2]) h
          rw [e1, hGin hjx (hb j hq.1) hq.2]
        | false =>
          have e1 : (heapFor base st.nb bi msk h).get (base + j) = h.get (base + j) := pf_out (fun j => bi.testBit j && !msk.testBit j) (fun j' x' _ hq' e => by
            have : j' = j := by omega
            subst this
            rw [hq] at hq'; cases hq') h
          rw [e1]
          refine (pf_out (fun j => pre.contains j && !msk.testBit j) (fun j' x' _ hq' e => ?_) h).symm
          have : j' = j := by omega
          subst this
          simp only [Bool.and_eq_true, Bool.not_eq_true', List.contains_iff_mem] at hq'
          refine hc ((hids _).2 ⟨j', x, hjx, hq'.1, hq'.2, ?_, rfl⟩)
          cases hbi : bi.testBit j' with
          | false => rfl
          | true => rw [hbi, hq'.2] at hq; cases hq
      · have hne : ∀ j x, (j, x) ∈ st.nb → base + j ≠ c := fun j x hjx e => ex ⟨j, x, hjx, e⟩
        have e1 : (heapFor base st.nb bi msk h).get c = h.get c := pf_out (fun j => bi.testBit j && !msk.testBit j) (fun j' x' h1 _ => hne j' x' h1) h
        rw [e1]
        exact (pf_out (fun j => pre.contains j && !msk.testBit j) (fun j' x' h1 _ => hne j' x' h1) h).symm)
    (fun c hc => by
      obtain ⟨j, x, h1, h2, h3, h4, rfl⟩ := (hids c).1 hc
      refine ⟨?_, x, hGin h1 h2 h3, D.mine h1⟩
      have e1 : (heapFor base st.nb bi msk h).get (base + j) = h.get (base + j) := pf_out (fun j => bi.testBit j && !msk.testBit j) (fun j' x' _ hq' e => by
        have : j' = j := by omega
        subst this
        rw [h4] at hq'; cases hq') h
      rw [e1]; exact hnone j x h1 h2 h3)
  obtain ⟨m', s1, h1, _, e1, hst⟩ := hS m hm ops i [] t _ t' h' ev
  obtain ⟨q1, q2⟩ := evalOs_nil e1
  subst q1 q2
  obtain ⟨μ1, w1, act1, a1, a2, a3, a4, a5⟩ := hst _ μ w act b k cs rest S2 hrel hkn
  refine ⟨μ1, w1, act1, a1, ?_, a3, a4, a5, fun j x h1 h2 h3 h4 => S.hidden_none a1 a2 ((hids _).2 ⟨j, x, h1, h2, h3, h4, rfl⟩) (hGin h1 h2 h3)⟩
  refine S.unhide a1 a2 (putsA_nxt _ _ _) (fun c hc => ?_) (fun c hc => ?_)
  · refine pf_out (fun j => pre.contains j && !msk.testBit j && !bi.testBit j) (fun j' x' h1 hq' e => ?_) h'
    simp only [Bool.and_eq_true, Bool.not_eq_true', List.contains_iff_mem] at hq'
    exact hc ((hids _).2 ⟨j', x', h1, hq'.1.1, hq'.1.2, hq'.2, e.symm⟩)
  · obtain ⟨j, x, h1, h2, h3, h4, rfl⟩ := (hids c).1 hc
    exact ⟨x, pf_in one (fun j => pre.contains j && !msk.testBit j && !bi.testBit j) h1 (by simp [h2, h3, h4]) h', hGin h1 h2 h3, D.mine h1⟩

theorem resP_le {z : Frz} {N i : Nat} {pre : List Nat} (b : Nat) (h : resP z base N (pre ++ [i]) b = true) : resP z base N pre b = true := by
  unfold resP at h ⊢
  simp only [Bool.or_eq_true, Bool.and_eq_true, Bool.not_eq_true'] at h ⊢
  rcases h with h | ⟨h1, h2⟩
  · exact .inl h
  · refine .inr ⟨h1, ?_⟩
    cases hq : pre.contains (b - base) with
    | false => rfl
    | true =>
      have : b - base ∈ pre := by simpa using hq
      have h3 : (pre ++ [i]).contains (b - base) = true := by simp [this]
      rw [h3] at h2; cases h2

theorem draw_step (hT : TypesOk P T) (hS : ∀ m, m ≤ n0 → SoundS P T F m) (D : DFin T F n0 ops base s0 h0 st) {z : Frz} {pre : List Nat} {k : Nat} {μ : Mu} {w : World} {t : List AV} {act : Act} (I : InvD T z ops base s0 st pre k μ w t act)
    (hz : ∀ b, z.res b = true → b < base) {i : Nat} (hi : i < ops.size) (hni : i ∉ pre) (hedge : ∀ o, ops[i]? = some o → ∀ e ∈ edges o, e.on ∈ pre) (b : Frame) (kk : List Item) (cs : List Frame) (rest : List Nat) (hkn : b.kind = .normal) :
    ∃ k' μ' w' t' act', μ.le μ' ∧ InvD T z ops base s0 st (pre ++ [i]) k' μ' w' t' act' ∧ act'.defers = act.defers ∧
      Steps P (lone (b.atR act (.inRegion ops (i :: rest) :: kk)) cs w) (lone (b.atR act' (.inRegion ops rest :: kk)) cs w') := by
  obtain ⟨o, s, s', msk1, h1, p1, p2, p3, p4, p5⟩ := D.inv.all i hi
  have ho : ops[i]? = some o := by simpa using p1
  have hb : ∀ j, ((befores ops.toList []).getD i 0).testBit j = true → j ∈ pre := by
    intro j hj
    obtain ⟨e, he, hh⟩ := D.ok.pre i o j ho hj
    rcases hh with rfl | hh
    · exact hedge o ho e he
    · exact I.cl e.on (hedge o ho e he) j hh
  have hcl : ∀ x ∈ pre ++ [i], ∀ j, ((befores ops.toList []).getD x 0).testBit j = true → j ∈ pre ++ [i] := by
    intro x hx j hj
    simp only [List.mem_append, List.mem_singleton] at hx ⊢
    rcases hx with hx | rfl
    · exact .inl (I.cl x hx j hj)
    · exact .inl (hb j hj)
  have hmem : ∀ j, j ≠ i → (j ∈ pre ++ [i] ↔ j ∈ pre) := fun j hj => by simp [hj]
  -- what the operation looks at is as it was in the text's order
  have hread : ∀ r ∈ readsOf ops.toList o, t[r]? = s[r]? := by
    intro r hr
    refine I.slot r i s p2 ?_
    rintro j ⟨oj, hj, hd⟩
    constructor
    · intro hjp
      rcases Nat.lt_trichotomy j i with hlt | rfl | hgt
      · exact hlt
      · exact absurd hjp hni
      · exact absurd (I.cl j hjp i (D.ok.ord i j o oj hgt ho hj (clash_read hd hr).2)) hni
    · intro hlt
      exact hb j (D.ok.ord j i oj o hlt hj ho (clash_read hd hr).1)
  -- what it leaves, too
  have hslot : ∀ v, s' = putA s o.dst v → (putA t o.dst v).length = s0.length ∧ ∀ (x m : Nat) (sm : List AV), (st.ss ++ [st.s])[m]? = some sm → (∀ j, wr ops j x → (j ∈ pre ++ [i] ↔ j < m)) → (putA t o.dst v)[x]? = sm[x]? := by
    intro v hv
    refine ⟨by rw [putA_len]; exact I.len, fun x m sm hm hw => ?_⟩
    by_cases hdx : o.dst = some x
    · have him : i < m := (hw i ⟨o, ho, hdx⟩).1 (by simp)
      have hms : m ≤ ops.size := by
        have := (List.getElem?_eq_some_iff.1 hm).1
        simp [D.inv.ss] at this; omega
      have hc := D.const (t := x) (m - (i + 1)) (i + 1) s' sm (fun j hj1 hj2 hwj => by
        obtain ⟨oj, hj, hd⟩ := hwj
        have hjp : j ∈ pre := (hmem j (by omega)).1 ((hw j ⟨oj, hj, hd⟩).2 (by omega))
        exact hni (I.cl j hjp i (D.ok.ord i j o oj (by omega) ho hj (clash_write hdx hd)))) (by omega) p3 (by rw [show i + 1 + (m - (i + 1)) = m by omega]; exact hm)
      rw [← hc, hv, hdx]
      simp only [putA]
      have hl1 := I.len
      have hl2 := D.len i s (by omega) p2
      rw [List.getElem?_set, List.getElem?_set]
      simp [hl1, hl2]
    · rw [putA_ne hdx]
      refine I.slot x m sm hm (fun j hj => ?_)
      have hji : j ≠ i := by
        rintro rfl
        obtain ⟨oj, hj1, hj2⟩ := hj
        rw [ho] at hj1; cases hj1; exact hdx hj2
      rw [← hmem j hji]; exact hw j hj
  obtain ⟨msk, h, e1, e2, e3, S⟩ := I.heap
  have two := D.two (by omega)
  -- what changes something
  have effi : dkind T o.op = .eff → isEff T ops.toList i = true := fun hk => by simp [isEff, p1, hk]
  have neffi : dkind T o.op ≠ .eff → isEff T ops.toList i = false := fun hk => by simp [isEff, p1, hk]
  have newi : ∀ x, (i, x) ∈ st.nb → dkind T o.op = .new := fun x hx => by
    obtain ⟨o', k1, k2⟩ := D.inv.knd _ hx
    simp only at k1
    rw [p1] at k1; cases k1; exact k2
  have heffs : ∀ e, isEff T ops.toList e = true → e ≠ i → isEff T ops.toList i = true → (e ∈ pre ↔ e < i) := by
    intro e he hne hii
    constructor
    · intro hep
      rcases Nat.lt_trichotomy e i with hlt | rfl | hgt
      · exact hlt
      · exact absurd rfl hne
      · exact absurd (I.cl e hep i (D.effOrd hgt hii he)) hni
    · intro hlt; exact hb e (D.effOrd hlt he hii)
  have hmskf : msk.testBit i = false := by
    cases hq : msk.testBit i with
    | false => rfl
    | true => exact absurd (e2 i hq) hni
  -- an operation that is not new leaves what was newly made
  have hsame : ∀ (M : Nat) (H : Heap), (∀ x, (i, x) ∉ st.nb) → Heap.Same (putsA base (st.nb.filter fun p => pre.contains p.1 && !msk.testBit p.1 && !M.testBit p.1) H) (putsA base (st.nb.filter fun p => (pre ++ [i]).contains p.1 && !(msk ||| M).testBit p.1) H) := by
    intro M H hno
    have : (st.nb.filter fun p => pre.contains p.1 && !msk.testBit p.1 && !M.testBit p.1) = (st.nb.filter fun p => (pre ++ [i]).contains p.1 && !(msk ||| M).testBit p.1) := by
      refine List.filter_congr fun p hp => ?_
      have hpi : p.1 ≠ i := fun e => hno p.2 (by rw [← e]; exact hp)
      have hc : (pre ++ [i]).contains p.1 = pre.contains p.1 := by
        rw [Bool.eq_iff_iff]; simp [hpi]
      rw [hc, Nat.testBit_or]
      cases pre.contains p.1 <;> cases msk.testBit p.1 <;> cases M.testBit p.1 <;> rfl
    rw [this]
    exact ⟨rfl, fun _ => rfl⟩
  -- operations that change nothing, from what they tell
  have plain : ∀ v, dkind T o.op ≠ .eff → (∀ x, (i, x) ∉ st.nb) → s' = putA s o.dst v → evalOs T F 2 ops.toList [i] s (heapFor base st.nb ((befores ops.toList []).getD i 0) msk h) = some (s', heapFor base st.nb ((befores ops.toList []).getD i 0) msk h) →
      ∃ k' μ' w' t' act', μ.le μ' ∧ InvD T z ops base s0 st (pre ++ [i]) k' μ' w' t' act' ∧ act'.defers = act.defers ∧
        Steps P (lone (b.atR act (.inRegion ops (i :: rest) :: kk)) cs w) (lone (b.atR act' (.inRegion ops rest :: kk)) cs w') := by
    intro v hk hno hv hev
    obtain ⟨o', v', q1, q2, q3⟩ := evalOs_one hev
    rw [p1] at q1; cases q1
    obtain ⟨μ1, w1, act1, a1, a2, a3, a4, a5, a6⟩ := run_one hS D e3 S I.rel hb two (q3 t hread) b kk cs rest hkn
    obtain ⟨l1, l2⟩ := hslot v' q2
    refine ⟨k, μ1, w1, _, act1, a1, ⟨?_, hcl, l1, l2, a3, msk, h, e1, fun j hj => List.mem_append_left _ (e2 j hj), ?_, ?_⟩, a4, a5⟩
    · intro e he
      have hne : e ≠ i := fun hh => by subst hh; rw [neffi hk] at he; cases he
      rw [hmem e hne]; exact I.eff e he
    · intro j x hx hj hm
      have hne : j ≠ i := fun hh => by subst hh; exact hno x hx
      exact e3 j x hx ((hmem j hne).1 hj) hm
    · refine (a2.reres (resP z base ops.size (pre ++ [i])) (fun c hc => resP_le c hc)).same ⟨by simp [heapFor, putsA_nxt], fun c => ?_⟩
      have one := D.inv.one
      by_cases ex : ∃ j x, (j, x) ∈ st.nb ∧ base + j = c
      · obtain ⟨j, x, hjx, rfl⟩ := ex
        have hne : j ≠ i := fun hh => by subst hh; exact hno x hjx
        by_cases hp : j ∈ pre
        · cases hm : msk.testBit j with
          | true =>
            rw [pf_out (fun j => pre.contains j && !msk.testBit j && !((befores ops.toList []).getD i 0).testBit j) (fun j' x' _ hq' e => by
                have : j' = j := by omega
                subst this
                rw [hm] at hq'; simp at hq')]
            have e4 : (heapFor base st.nb ((befores ops.toList []).getD i 0) msk h).get (base + j) = h.get (base + j) := pf_out (fun j => ((befores ops.toList []).getD i 0).testBit j && !msk.testBit j) (fun j' x' _ hq' e => by
                have : j' = j := by omega
                subst this
                rw [hm] at hq'; simp at hq') h
            rw [e4]
            exact (pf_out (fun j => (pre ++ [i]).contains j && !msk.testBit j) (fun j' x' _ hq' e => by
                have : j' = j := by omega
                subst this
                rw [hm] at hq'; simp at hq') h).symm
          | false =>
            have e5 : (putsA base (st.nb.filter fun p => (pre ++ [i]).contains p.1 && !msk.testBit p.1) h).get (base + j) = some x := pf_in one (fun j => (pre ++ [i]).contains j && !msk.testBit j) hjx (by simp [hp, hm]) h
            rw [e5]
            cases hbi : ((befores ops.toList []).getD i 0).testBit j with
            | false => exact pf_in one (fun j => pre.contains j && !msk.testBit j && !((befores ops.toList []).getD i 0).testBit j) hjx (by simp only [hm, hbi]; simp [hp]) _
            | true =>
              rw [pf_out (fun j => pre.contains j && !msk.testBit j && !((befores ops.toList []).getD i 0).testBit j) (fun j' x' _ hq' e => by
                have : j' = j := by omega
                subst this
                simp only [hbi] at hq'; simp at hq')]
              exact pf_in one (fun j => ((befores ops.toList []).getD i 0).testBit j && !msk.testBit j) hjx (by simp only [hm, hbi]; rfl) _
        · have hpc : pre.contains j = false := by simpa using hp
          have hpc' : (pre ++ [i]).contains j = false := by simp [hp, hne]
          rw [pf_out (fun j => pre.contains j && !msk.testBit j && !((befores ops.toList []).getD i 0).testBit j) (fun j' x' _ hq' e => by
                have : j' = j := by omega
                subst this
                simp only [hpc] at hq'; simp at hq')]
          have e4 : (heapFor base st.nb ((befores ops.toList []).getD i 0) msk h).get (base + j) = h.get (base + j) := pf_out (fun j => ((befores ops.toList []).getD i 0).testBit j && !msk.testBit j) (fun j' x' _ hq' e => by
                have : j' = j := by omega
                subst this
                simp only [Bool.and_eq_true] at hq'
                exact hp (hb j' hq'.1)) h
          rw [e4]
          exact (pf_out (fun j => (pre ++ [i]).contains j && !msk.testBit j) (fun j' x' _ hq' e => by
                have : j' = j := by omega
                subst this
                simp only [hpc'] at hq'; simp at hq') h).symm
      · have hne : ∀ j x, (j, x) ∈ st.nb → base + j ≠ c := fun j x hjx e => ex ⟨j, x, hjx, e⟩
        rw [pf_out (fun j => pre.contains j && !msk.testBit j && !((befores ops.toList []).getD i 0).testBit j) (fun j' x' h1 _ => hne j' x' h1)]
        have e4 : (heapFor base st.nb ((befores ops.toList []).getD i 0) msk h).get c = h.get c := pf_out (fun j => ((befores ops.toList []).getD i 0).testBit j && !msk.testBit j) (fun j' x' h1 _ => hne j' x' h1) h
        rw [e4]
        exact (pf_out (fun j => (pre ++ [i]).contains j && !msk.testBit j) (fun j' x' h1 _ => hne j' x' h1) h).symm
  rcases p5 with ⟨hk, h', m, b1, b2, b3⟩ | ⟨hk, hw, v, x, c1, c2, c3⟩ | ⟨hk, hw, c1, c2⟩ | ⟨hk, hw, v, h', c1, c2⟩ | ⟨hk, hw, c1⟩
  · -- it changes something: all that does so stands in one order
    have hno : ∀ x, (i, x) ∉ st.nb := fun x hx => by have := newi x hx; rw [hk] at this; cases this
    have hii := effi hk
    have hki : k = cnt T ops.toList i := by
      have h1 : k ≤ cnt T ops.toList i := by
        rcases Nat.lt_or_ge (cnt T ops.toList i) k with hlt | hge
        · exact absurd ((I.eff i hii).2 hlt) hni
        · exact hge
      rcases Nat.lt_or_ge k (cnt T ops.toList i) with hlt | hge
      · obtain ⟨e, f1, f2, f3⟩ := cnt_ex hlt
        have := (I.eff e f2).1 ((heffs e f2 (by omega) hii).2 f1)
        omega
      · omega
    rw [← hki] at p4 b2
    rw [e1] at p4; cases p4
    obtain ⟨o', v, q1, q2, q3⟩ := evalOs_one b3
    rw [p1] at q1; cases q1
    obtain ⟨μ1, w1, act1, a1, a2, a3, a4, a5, a6⟩ := run_one hS D e3 S I.rel hb b1 (q3 t hread) b kk cs rest hkn
    obtain ⟨l1, l2⟩ := hslot v q2
    refine ⟨k + 1, μ1, w1, _, act1, a1, ⟨?_, hcl, l1, l2, a3, _, h', b2, ?_, ?_, ?_⟩, a4, a5⟩
    · intro e he
      by_cases hei : e = i
      · subst hei
        simp; omega
      · rw [hmem e hei, I.eff e he]
        rcases Nat.lt_trichotomy e i with hlt | hh | hgt
        · have := cnt_lt (T := T) hlt he; omega
        · exact absurd hh hei
        · have := cnt_lt (T := T) hgt hii; omega
    · intro j hj
      rw [Nat.testBit_or, Bool.or_eq_true] at hj
      rcases hj with hj | hj
      · exact List.mem_append_left _ (e2 j hj)
      · exact List.mem_append_left _ (hb j hj)
    · intro j x hx hj hm
      have hne : j ≠ i := fun hh => by subst hh; exact hno x hx
      rw [Nat.testBit_or, Bool.or_eq_false_iff] at hm
      exact a6 j x hx ((hmem j hne).1 hj) hm.1 hm.2
    · exact (a2.reres (resP z base ops.size (pre ++ [i])) (fun c hc => resP_le c hc)).same (hsame _ _ hno)
  · -- something new
    have hcong : ∀ x ∈ o.op.operands.toList, evalO t x = evalO s x := tmp_of fun x hx => hread x (by unfold readsOf; exact List.mem_append_right _ hx)
    have hwt : wantedA o ops.toList t = true := by rw [wanted_congr hread]; exact hw
    have hal : allocA T (evalO t) o.op (base + i) = some (v, x) := by
      unfold allocA; rw [opA_congr hcong]; exact c1
    obtain ⟨cs', mv, arr, ty, n1, n2, n3, n4, n5⟩ := new_sim hT (evalO_rel I.rel) o hk hal w
    subst n1
    have hdd : ∀ c, o.op ≠ .defer c := fun c hc => by rw [hc] at hk; simp [dkind] at hk
    have hstep := stepR_value (b := b) (a := act) (k := kk) (cs := cs) (rest := rest) ho (by rw [wanted_rel I.rel]; exact hwt) hdd n2
    have hres : resP z base ops.size pre (base + i) = true := by
      unfold resP
      have : base + i - base = i := by omega
      simp [this, hi, hni]
    obtain ⟨m1, m2⟩ := S.addAt (id := base + i) hres (resP z base ops.size (pre ++ [i])) (fun c hc => ⟨resP_le c hc, fun hci => by
        subst hci
        unfold resP at hc
        have h9 : base + i - base = i := by omega
        simp only [h9, Bool.or_eq_true, Bool.and_eq_true, Bool.not_eq_true'] at hc
        rcases hc with hc | hc
        · have := hz _ hc; omega
        · simp at hc⟩) (.cells cs' true) (.cells arr ty) arr.size (fun ν w' hν hw' => ⟨arr, ty, (0, 0), hw', rfl, by simpa using n3,
          fun j a e => let ⟨v, f1, f2⟩ := n4 j a e; ⟨v, by simpa using f1, VR.mono hν _ _ f2⟩, fun _ => ⟨S.fresh, fun j _ => by simp⟩⟩)
    obtain ⟨l1, l2⟩ := hslot v c2
    have hhn : h.get (base + i) = none := by
      have hG : (putsA base (st.nb.filter fun p => pre.contains p.1 && !msk.testBit p.1) h).get (base + i) = h.get (base + i) := pf_out (fun j => pre.contains j && !msk.testBit j) (fun j' x' _ hq' e => by
        have : j' = i := by omega
        subst this
        simp [hni] at hq') h
      rw [← hG]
      cases hq : (putsA base (st.nb.filter fun p => pre.contains p.1 && !msk.testBit p.1) h).get (base + i) with
      | none => rfl
      | some y =>
        obtain ⟨L, f1, _⟩ := S.at_ _ _ hq
        rw [(S.rsv _ hres).1] at f1; cases f1
    refine ⟨k, _, _, _, _, m1, ⟨?_, hcl, l1, l2, put_rel (VRs.mono m1 _ _ I.rel) o.dst n5, msk, h, e1, fun j hj => List.mem_append_left _ (e2 j hj), ?_, ?_⟩, by cases o.dst <;> rfl, .one hstep⟩
    · intro e he
      have hne : e ≠ i := fun hh => by subst hh; rw [neffi (by rw [hk]; simp)] at he; cases he
      rw [hmem e hne]; exact I.eff e he
    · intro j y hy hj hm
      by_cases hji : j = i
      · subst hji; exact hhn
      · exact e3 j y hy ((hmem j hji).1 hj) hm
    · refine m2.same ⟨by simp [putsA_nxt], fun c => ?_⟩
      have one := D.inv.one
      rw [Heap.get_put]
      by_cases hci : base + i = c
      · subst hci
        rw [if_pos rfl]
        exact (pf_in one (fun j => (pre ++ [i]).contains j && !msk.testBit j) c3 (by simp [hmskf]) h).symm
      · rw [if_neg hci]
        by_cases ex : ∃ j y, (j, y) ∈ st.nb ∧ base + j = c
        · obtain ⟨j, y, hjy, rfl⟩ := ex
          have hne : j ≠ i := fun hh => hci (by rw [hh])
          have hcc : (pre ++ [i]).contains j = pre.contains j := by rw [Bool.eq_iff_iff]; simp [hne]
          cases hq : (pre.contains j && !msk.testBit j) with
          | true => rw [pf_in one (fun j => pre.contains j && !msk.testBit j) hjy hq, pf_in one (fun j => (pre ++ [i]).contains j && !msk.testBit j) hjy (by rw [hcc]; exact hq)]
          | false =>
            rw [pf_out (fun j => pre.contains j && !msk.testBit j) (fun j' x' _ hq' e => by
                have : j' = j := by omega
                subst this
                rw [hq] at hq'; cases hq'), pf_out (fun j => (pre ++ [i]).contains j && !msk.testBit j) (fun j' x' _ hq' e => by
                have : j' = j := by omega
                subst this
                rw [hcc, hq] at hq'; cases hq')]
        · have hne : ∀ j x, (j, x) ∈ st.nb → base + j ≠ c := fun j x hjx e => ex ⟨j, x, hjx, e⟩
          rw [pf_out (fun j => pre.contains j && !msk.testBit j) (fun j' x' h1 _ => hne j' x' h1), pf_out (fun j => (pre ++ [i]).contains j && !msk.testBit j) (fun j' x' h1 _ => hne j' x' h1)]
  · have hke : dkind T o.op ≠ .eff := by rw [hk]; simp
    refine plain undefA hke c2 c1 ?_
    rw [evalOs_eq, p1]
    simp [hw, evalOs, c1]
  · have hke : dkind T o.op ≠ .eff := by rw [hk]; simp
    have hno : ∀ x, (i, x) ∉ st.nb := fun x hx => by have := newi x hx; rw [hk] at this; cases this
    obtain ⟨v1, h2, f1, f2⟩ := D.quiet hi p1 hk p2 p3 hw e1 hmskf (fun e he hce => by
      cases hq : ((befores ops.toList []).getD i 0).testBit e with
      | false => rfl
      | true => have := (I.eff e he).1 (hb e hq); omega)
    have := quiet_same hk f1
    subst this
    refine plain v1 hke hno f2 ?_
    rw [evalOs_eq, p1]
    simp only [hw, if_true, runA_plain hke, f1, f2]
    simp [evalOs]
  · have hke : dkind T o.op ≠ .eff := by rw [hk]; simp
    have hno : ∀ x, (i, x) ∉ st.nb := fun x hx => by have := newi x hx; rw [hk] at this; cases this
    refine plain undefA hke hno c1 ?_
    rw [evalOs_eq, p1]
    simp [hw, evalOs, c1]

end Go.Am

/-
  The abstract machine: a region whose order is drawn: whatever the order, it is as in the text's.
-/
namespace Go.Am
variable {P : Program} {T : TT} {F : Nat → Option Func} {n0 base : Nat} {ops : Array Oper} {s0 : List AV} {h0 : Heap} {st : DSt}

theorem draw_go (hT : TypesOk P T) (hS : ∀ m, m ≤ n0 → SoundS P T F m) (D : DFin T F n0 ops base s0 h0 st) {z : Frz} (hz : ∀ b, z.res b = true → b < base) (b : Frame) (kk : List Item) (cs : List Frame) (hkn : b.kind = .normal) :
    ∀ (suf pre : List Nat) (k : Nat) (μ : Mu) (w : World) (t : List AV) (act : Act), Keeps ops (pre ++ suf) → InvD T z ops base s0 st pre k μ w t act →
    ∃ k' μ' w' t' act', μ.le μ' ∧ InvD T z ops base s0 st (pre ++ suf) k' μ' w' t' act' ∧ act'.defers = act.defers ∧
      Steps P (lone (b.atR act (.inRegion ops suf :: kk)) cs w) (lone (b.atR act' kk) cs w')
  | [], pre, k, μ, w, t, act, _, I => ⟨k, μ, w, t, act, Mu.le_refl _, by rw [List.append_nil]; exact I, rfl, .one stepR_region_end⟩
  | i :: suf, pre, k, μ, w, t, act, hK, I => by
    obtain ⟨h1, h2, h3⟩ := hK pre i suf rfl
    obtain ⟨k1, μ1, w1, t1, act1, a1, a2, a3, a4⟩ := draw_step hT hS D I hz h1 h2 h3 b kk cs suf hkn
    obtain ⟨k2, μ2, w2, t2, act2, b1, b2, b3, b4⟩ := draw_go hT hS D hz b kk cs hkn suf (pre ++ [i]) k1 μ1 w1 t1 act1 (by simpa using hK) a2
    exact ⟨k2, μ2, w2, t2, act2, Mu.le_trans a1 b1, by simpa using b2, b3.trans a3, Steps.trans a4 b4⟩

theorem draw_sim (hT : TypesOk P T) (hS : ∀ m, m ≤ n0 → SoundS P T F m) (hok : DOk T ops) {s : List AV} {h : Heap}
    (e : evalDs T F n0 ops.toList (befores ops.toList []) h.nxt (List.range ops.size) ⟨[], s, [], 0, ⟨h.nxt + ops.size, h.l⟩, []⟩ = some st) (hc : drawChk T ops.toList h.nxt st = true)
    {L : List Nat} (hK : Keeps ops L) (hL : ∀ i, i < ops.size → i ∈ L) {z : Frz} {μ : Mu} {w : World} {act : Act} (S : Sim z μ h w) (hs : VRs μ s act.tmps.toList) (b : Frame) (kk : List Item) (cs : List Frame) (hkn : b.kind = .normal) :
    ∃ μ' w' act', μ.le μ' ∧ Sim z μ' (putsA h.nxt (st.nb.filter fun p => !st.msk.testBit p.1) st.h) w' ∧ VRs μ' st.s act'.tmps.toList ∧ act'.defers = act.defers ∧
      Steps P (lone (b.atR act (.inRegion ops L :: kk)) cs w) (lone (b.atR act' kk) cs w') := by
  have hinv : DInv T F n0 ops.toList h.nxt ops.size s ⟨h.nxt + ops.size, h.l⟩ st :=
    evalDs_inv hok n0 ops.size 0 _ st (Nat.le_refl _) (by omega) (by rw [← List.range_eq_range']; exact e)
      ⟨rfl, rfl, fun p hp => by simp at hp, fun j x y hx => by simp at hx, rfl, rfl, fun p hp => by simp at hp, fun j hj => by omega⟩
  have D : DFin T F n0 ops h.nxt s ⟨h.nxt + ops.size, h.l⟩ st := ⟨hok, hinv, hc, fun hpos => by
    match n0, e with
    | 0, e => simp [evalDs] at e
    | 1, e =>
      exfalso
      rw [List.range_eq_range'] at e
      obtain ⟨m, hm⟩ : ∃ m, ops.size = m + 1 := ⟨ops.size - 1, by omega⟩
      rw [hm] at e
      simp only [List.range', evalDs, evalOs] at e
      repeat' split at e
      all_goals simp_all
    | n + 2, _ => omega⟩
  have hz : ∀ c, z.res c = true → c < h.nxt := fun c hc => (S.rsv c hc).2
  have hnil : (st.nb.filter fun p => ([] : List Nat).contains p.1 && !(0 : Nat).testBit p.1) = [] := by
    rw [List.filter_eq_nil_iff]; intro p _; simp
  have I : InvD T z ops h.nxt s st [] 0 μ w s act := by
    refine ⟨fun e _ => by simp, fun x hx => by simp at hx, rfl, ?_, hs, 0, _, hinv.h0, fun j hj => by simp at hj, fun j b _ hj => by simp at hj, ?_⟩
    · intro x m sm hm hw
      have hms : m ≤ ops.size := by
        have := (List.getElem?_eq_some_iff.1 hm).1
        simp [hinv.ss] at this; omega
      exact D.const m 0 s sm (fun j _ hj hwj => by have := (hw j hwj).2 (by omega); simp at this) (by omega) hinv.s0 (by rw [Nat.zero_add]; exact hm)
    · rw [hnil]
      refine (S.bump ops.size).reres _ (fun c hc => ?_)
      unfold resP at hc
      simp only [List.contains_nil, Bool.not_false, Bool.and_true] at hc
      exact hc
  obtain ⟨k', μ', w', t', act', a1, a2, a3, a4⟩ := draw_go hT hS D hz b kk cs hkn L [] 0 μ w s act (by simpa using hK) I
  rw [List.nil_append] at a2
  obtain ⟨msk, hh, e1, e2, e3, S'⟩ := a2.heap
  have hk : k' = cnt T ops.toList ops.size := by
    have h1 : k' ≤ cnt T ops.toList ops.size := by
      have := (List.getElem?_eq_some_iff.1 e1).1
      simp [hinv.hs] at this; omega
    rcases Nat.lt_or_ge k' (cnt T ops.toList ops.size) with hlt | hge
    · obtain ⟨e, f1, f2, f3⟩ := cnt_ex hlt
      have := (a2.eff e f2).1 (hL e f1)
      omega
    · omega
  have hlast : (st.hs ++ [(st.msk, st.h)])[k']? = some (st.msk, st.h) := by rw [hk, ← hinv.hs]; exact get_end _ _
  rw [hlast] at e1; cases e1
  have ht : t' = st.s := by
    refine List.ext_getElem? fun x => ?_
    refine a2.slot x ops.size st.s (by rw [← hinv.ss]; exact get_end _ _) (fun j hj => ?_)
    obtain ⟨o, ho, _⟩ := hj
    have := (Array.getElem?_eq_some_iff.1 ho).1
    exact ⟨fun _ => this, fun _ => hL j this⟩
  have hfl : (st.nb.filter fun p => L.contains p.1 && !st.msk.testBit p.1) = (st.nb.filter fun p => !st.msk.testBit p.1) := by
    refine List.filter_congr fun p hp => ?_
    have : L.contains p.1 = true := by simpa using hL p.1 (hinv.nb p hp)
    rw [this]; rfl
  rw [hfl] at S'
  refine ⟨μ', w', act', a1, S'.reres z.res (fun c hc => by unfold resP; simp [hc]), by rw [← ht]; exact a2.rel, a3, a4⟩

end Go.Am

/-
  The abstract machine: what it tells is so in the model.
-/
namespace Go.Am
variable {P : Program} {T : TT} {F : Nat → Option Func}

theorem sound_L {n : Nat} (hC : SoundC P T F n) (hL : SoundL P T F n) : SoundL P T F (n + 1) := by
  intro fn ro x f e f' ev w0 μ w act b k cs S hs hd hro hfn hk
  simp only [evalC] at ev
  split at ev
  · rename_i f1 h1
    obtain ⟨μ1, w1, act1, a1, a2, a3, a4, a5⟩ := hC fn ro x f _ f1 h1 w0 μ w act b (.inLoop x :: k) cs S hs hd hro hfn hk
    obtain ⟨μ2, w2, act2, b1, b2, b3, b4, b5⟩ := hL fn ro x f1 e f' ev w0 μ1 w1 act1 b k cs a2 a3 a4 (hro.mono a1) hfn hk
    exact ⟨μ2, w2, act2, Mu.le_trans a1 b1, b2, b3, b4, .of_steps (Steps.head stepR_inLoop a5) b5⟩
  · rename_i hne
    obtain ⟨μ1, w1, act1, a1, a2, a3, a4, a5⟩ := hC fn ro x f e f' ev w0 μ w act b (.inLoop x :: k) cs S hs hd hro hfn hk
    refine ⟨μ1, w1, act1, a1, a2, a3, a4, .of_steps (.one stepR_inLoop) (.pass (x := .inLoop x) (fun _ => by simp) (fun he => ?_) a5)⟩
    subst he
    exact hne _ ev

/-- An object that is no row of cells is turned. -/
theorem Sim.putObj {w0 : Frz} {w : World} {μ : Mu} {h : Heap} (S : Sim w0 μ h w) {b : Nat} {x : Blk} (y : Blk) {L : Loc} (o : Obj) (hb : h.get b = some x) (hL : μ b = some L) (hx : x.mine = true)
    (hy : ∀ w' : World, w'.heap[L.blk]? = some o → BlkAt μ w0.old w' L y) : Sim w0 μ (h.put b y) { w with heap := w.heap.setIfInBounds L.blk o } := by
  obtain ⟨L0, l1, l2⟩ := S.at_ b x hb
  rw [hL] at l1; simp at l1; subst l1
  have hlt := l2.lt
  refine S.turn y hb hL hx (by simp) (fun k hk => ?_) (hy _ ?_) ⟨rfl, rfl, rfl⟩
  · show (w.heap.setIfInBounds L.blk o)[k]? = _
    rw [Array.getElem?_setIfInBounds, if_neg (fun e => hk e.symm)]
  · show (w.heap.setIfInBounds L.blk o)[L.blk]? = _
    rw [Array.getElem?_setIfInBounds]; simp [hlt]

theorem run_getObj {w : World} {r : Nat} {o : Obj} (h : w.heap[r]? = some o) (hc : ∀ c e f, o ≠ .cells c e f) : (getObj r).run P w = .ok o w := by
  cases o <;> first | (exact absurd rfl (hc _ _ _)) | simp [getObj, Sem.run, h]

theorem run_setObj {w : World} {r : Nat} {o o' : Obj} (h : w.heap[r]? = some o) (hc : ∀ c e f, o ≠ .cells c e f) : (setObj r o').run P w = .ok () { w with heap := w.heap.setIfInBounds r o' } := by
  cases o <;> first | (exact absurd rfl (hc _ _ _)) | simp [setObj, Sem.run, h]

theorem Sim.loop {w0 : Frz} {w : World} {μ : Mu} {h : Heap} (S : Sim w0 μ h w) {l : Nat} {r : LoopR} {L : Loc} (hb : h.get l = some (.loop r)) (hL : μ l = some L) :
    w0.old L.blk = none ∧ ∃ r', w.heap[L.blk]? = some (.loop r') ∧ r'.state = r.state ∧ r'.pending = r.pending ∧ r'.fn = r.fn ∧ VRs μ r.tmps r'.tmps.toList ∧ r'.params.toList = r.params ∧
      r'.assign = r.assign ∧ r'.body = r.body ∧ ∃ D, μ r.defers = some D ∧ r'.defers = D.blk := by
  obtain ⟨L', e1, e2⟩ := S.at_ l _ hb
  rw [hL] at e1; simp at e1; subst e1; exact e2

theorem run_getLoop {w : World} {l : Nat} {r : Loop} (h : w.heap[l]? = some (.loop r)) : (Instr.getLoop l).run P w = .ok r w := by
  simp [Instr.getLoop, run_getObj (P := P) h (by simp)]

theorem sound_range {n : Nat} (hF : SoundF P T F n) {fn : Nat} {ro : Option Nat} {g : Operand} {ps : Array Tmp} {assign body : Code} {f f' : Frm} {e : AE}
    (ev : evalC T F (n + 1) fn ro (.rangeFunc g ps assign body) f = some (e, f')) (w0 : Frz) (μ : Mu) (w : World) (act : Act) (b : Frame) (k : List Item) (cs : List Frame)
    (S : Sim w0 μ f.h w) (hs : VRs μ f.s act.tmps.toList) (hd : DRel μ f.ms act.defers) (hro : RoRel μ ro b.roundOf) (hfn : b.fn = fn) :
    ∃ μ' w' act', μ.le μ' ∧ Sim w0 μ' f'.h w' ∧ VRs μ' f'.s act'.tmps.toList ∧ DRel μ' f'.ms act'.defers ∧ Lands P b k cs (lone (b.atR act (.code (.rangeFunc g ps assign body) :: k)) cs w) act' w' e := by
  simp only [evalC] at ev
  split at ev
  · rename_i kf caps hg
    have hvf := evalO_rel hs _ _ hg
    simp only [VR] at hvf
    obtain ⟨ccaps, hcaps, hfe⟩ := hvf
    split at ev
    · simp at ev
    · rename_i df ms h hent
      -- the record
      have key : ∃ (μ1 : Mu) (w1 : World) (D : Loc) (mark : List Deferred), μ.le μ1 ∧ Sim w0 μ1 h w1 ∧ μ1 df = some D ∧ DRel μ1 ms (mark ++ act.defers) ∧ ∀ r : Nat → Loop, (∀ d, (r d).defers = d) → (r D.blk) = { state := .ready, pending := none, fn := b.fn, tmps := act.tmps, params := ps, assign, body, defers := D.blk } →
          (Instr.enterLoop b.fn act.tmps ps assign body b.roundOf).run P w = .ok (w1.heap.size, mark) { w1 with heap := w1.heap.push (.loop (r D.blk)) } := by
        cases ro with
        | none =>
          simp only [RoRel] at hro
          simp only [enterA, Option.some.injEq, Prod.mk.injEq] at hent
          obtain ⟨rfl, rfl, rfl⟩ := hent
          obtain ⟨m1, m2⟩ := S.add (.defers false) (.deferred (some [])) 0 (fun ν w' hν hw => ⟨S.fresh, hw⟩)
          refine ⟨_, _, _, [{ target := .collected w.heap.size, args := #[] }], m1, m2, Mu.upd_same _ _ _, ?_, ?_⟩
          · exact ⟨_, _, Mu.upd_same _ _ _, hd.mono m1, rfl⟩
          · intro r hr1 hr2
            rw [hro, hr2]
            simp [Instr.enterLoop]
            rfl
        | some l0 =>
          obtain ⟨L0, hL0, hro⟩ := hro
          simp only [enterA] at hent
          split at hent
          · rename_i r0 hl0
            simp only [Option.some.injEq, Prod.mk.injEq] at hent
            obtain ⟨rfl, rfl, rfl⟩ := hent
            obtain ⟨_, r', q1, _, _, _, _, _, _, _, D, q2, q3⟩ := S.loop hl0 hL0
            refine ⟨μ, w, D, [], Mu.le_refl _, S, q2, hd, ?_⟩
            intro r hr1 hr2
            rw [hro, hr2]
            simp [Instr.enterLoop, run_getLoop q1, q3]
          · simp at hent
      obtain ⟨μ1, w1, D, mark, k1, S1, hD, hd1, hrun⟩ := key
      let rc : Nat → Loop := fun d => { state := .ready, pending := none, fn := b.fn, tmps := act.tmps, params := ps, assign, body, defers := d }
      have hrun := hrun rc (fun d => rfl) rfl
      let ra : LoopR := { state := .ready, pending := none, fn := fn, tmps := f.s, params := ps.toList, assign, body, defers := df }
      obtain ⟨m1, m2⟩ := S1.add (.loop ra) (.loop (rc D.blk)) 0 (fun ν w' hν hw => ⟨S1.fresh, rc D.blk, hw, rfl, rfl, hfn, VRs.mono (Mu.le_trans k1 hν) _ _ hs, rfl, rfl, rfl, D, hν _ _ hD, rfl⟩)
      split at ev
      · simp at ev
      · rename_i vr h2 hcall
        have hlv : VR (μ1.upd h.nxt ⟨w1.heap.size, 0, 0⟩) (.func (.yield h.nxt) []) (.func (.yield w1.heap.size) #[] #[]) := by
          simp only [VR]; refine ⟨_, Mu.upd_same _ _ _, ?_⟩; simp
        have hargs : VRs (μ1.upd h.nxt ⟨w1.heap.size, 0, 0⟩) (.func (.yield h.nxt) [] :: caps) (#[Value.func (.yield w1.heap.size) #[] #[]] ++ ccaps).toList := by
          simp only [Array.toList_append, List.cons_append, VRs]
          exact ⟨_, _, hlv, VRs.mono (Mu.le_trans k1 m1) _ _ hcaps, rfl⟩
        obtain ⟨⟨fnc, q1, q2, q3⟩, hcallc⟩ := hF kf _ _ vr h2 hcall w0 _ _ _ m2 hargs
        obtain ⟨w3, fr, vv, μ3, j1, j2, j3, j4, j5, j6⟩ := hcallc (b.atR { act with defers := mark ++ act.defers } (.inRangeFunc w1.heap.size :: k) :: cs)
        have hres : (resolve act.eval (rangeCall g w1.heap.size) 0).run P { w1 with heap := w1.heap.push (.loop (rc D.blk)) } = .ok { target := .fn (.func kf) ccaps, args := #[Value.func (.yield w1.heap.size) #[] #[]] } { w1 with heap := w1.heap.push (.loop (rc D.blk)) } := by
          simp only [resolve, hfe, Deferred.ofValue]
          simp [Act.eval]
        have hinv : (invoke (.fn (.func kf) ccaps) #[Value.func (.yield w1.heap.size) #[] #[]]).run P { w1 with heap := w1.heap.push (.loop (rc D.blk)) } = .ok (.enter kf (#[Value.func (.yield w1.heap.size) #[] #[]] ++ ccaps)) { w1 with heap := w1.heap.push (.loop (rc D.blk)) } := by
          simp only [invoke]; exact callFunc_run q1 q2 q3 _
        have hst := stepR_rangeFunc (P := P) (b := b) (a := act) (k := k) (cs := cs) (w := w) hrun hres hinv
        have hback := step_leave_returned (P := P) (c := b.atR { act with defers := mark ++ act.defers } (.inRangeFunc w1.heap.size :: k)) (cs := cs) j6
        rw [finish_atR_inRangeFunc] at hback
        have hsteps : Steps P (lone (b.atR act (.code (.rangeFunc g ps assign body) :: k)) cs w) (lone (b.atR { act with defers := mark ++ act.defers } (.endRangeFunc w1.heap.size :: k)) cs w3) :=
          Steps.head hst (Steps.trans j4 (.one hback))
        split at ev
        · rename_i r3 hl3
          have hL3 : μ3 h.nxt = some ⟨w1.heap.size, 0, 0⟩ := j1 _ _ (Mu.upd_same _ _ _)
          obtain ⟨s0, r', s1, s2, s3, s4, s5, s6, s7, s8, D', s9, s10⟩ := j2.loop hl3 hL3
          split at ev
          · simp at ev
          · rename_i hnb
            have hend : (Instr.endLoop w1.heap.size).run P w3 = .ok r3.pending { w3 with heap := w3.heap.setIfInBounds w1.heap.size (.loop { r' with state := .exhausted }) } := by
              have hb' : (r'.state == LoopState.busy) = false := by
                rw [s2]; cases hst3 : r3.state <;> first | rfl | exact absurd hst3 hnb
              simp only [Instr.endLoop, Sem.run_bind, run_getLoop s1, Result.andThen_ok, hb', Bool.false_eq_true, if_false, Sem.run_pure]
              rw [run_setObj (P := P) s1 (by simp)]
              simp [s3]
            have hS' := j2.putObj (.loop { r3 with state := .exhausted }) (.loop { r' with state := .exhausted }) hl3 hL3 rfl (fun w' hw => ⟨s0, _, hw, rfl, s3, s4, s5, s6, s7, s8, D', s9, s10⟩)
            have hjump := stepR_endRangeFunc (P := P) (b := b) (a := { act with defers := mark ++ act.defers }) (k := k) (cs := cs) hend
            have hle : μ.le μ3 := Mu.le_trans k1 (Mu.le_trans m1 j1)
            have hfin := Steps.trans hsteps (.one hjump)
            have hds := hd1.mono (Mu.le_trans m1 j1)
            split at ev
            · rename_i hp
              simp only [Option.some.injEq, Prod.mk.injEq] at ev
              obtain ⟨rfl, rfl⟩ := ev
              rw [hp] at hfin
              exact ⟨μ3, _, { act with defers := mark ++ act.defers }, hle, hS', VRs.mono hle _ _ hs, hds, hfin⟩
            · rename_i hp
              simp only [Option.some.injEq, Prod.mk.injEq] at ev
              obtain ⟨rfl, rfl⟩ := ev
              rw [hp] at hfin
              exact ⟨μ3, _, { act with defers := mark ++ act.defers }, hle, hS', VRs.mono hle _ _ hs, hds, k, hfin⟩
            · rename_i id hp
              simp only [Option.some.injEq, Prod.mk.injEq] at ev
              obtain ⟨rfl, rfl⟩ := ev
              rw [hp] at hfin
              exact ⟨μ3, _, { act with defers := mark ++ act.defers }, hle, hS', VRs.mono hle _ _ hs, hds, fun k' hk' => Steps.trans hfin (.one (stepR_exit hk')), fun hk' => ⟨k, hk', hfin⟩⟩
            · simp at ev
        · simp at ev
  · simp at ev

theorem sound_C {n : Nat} (hM : P.follows .mixedOrders = true) (hT : TypesOk P T) (hC : SoundC P T F n) (hS : ∀ m, m ≤ n → SoundS P T F m) (hO : SoundO P T F n) (hF : SoundF P T F n) (hL : SoundL P T F n) : SoundC P T F (n + 1) := by
  intro fn ro c f e f' ev w0 μ w act b k cs S hs hd hro hfn hk
  cases c with
  | skip =>
    simp only [evalC, Option.some.injEq, Prod.mk.injEq] at ev
    obtain ⟨rfl, rfl⟩ := ev
    exact ⟨μ, w, act, Mu.le_refl _, S, hs, hd, .one stepR_skip⟩
  | label l =>
    simp only [evalC, Option.some.injEq, Prod.mk.injEq] at ev
    obtain ⟨rfl, rfl⟩ := ev
    exact ⟨μ, w, act, Mu.le_refl _, S, hs, hd, .one stepR_label⟩
  | exit id =>
    simp only [evalC, Option.some.injEq, Prod.mk.injEq] at ev
    obtain ⟨rfl, rfl⟩ := ev
    refine ⟨μ, w, act, Mu.le_refl _, S, hs, hd, fun k' hk' => .one (stepR_exit hk'), fun hk' => ⟨k, hk', Steps.refl _ _⟩⟩
  | ret =>
    simp only [evalC, Option.some.injEq, Prod.mk.injEq] at ev
    obtain ⟨rfl, rfl⟩ := ev
    exact ⟨μ, w, act, Mu.le_refl _, S, hs, hd, k, Steps.refl _ _⟩
  | seq x y =>
    simp only [evalC] at ev
    split at ev
    · rename_i f1 h1
      obtain ⟨μ1, w1, act1, a1, a2, a3, a4, a5⟩ := hC fn ro x f _ f1 h1 w0 μ w act b (.code y :: k) cs S hs hd hro hfn hk
      obtain ⟨μ2, w2, act2, b1, b2, b3, b4, b5⟩ := hC fn ro y f1 e f' ev w0 μ1 w1 act1 b k cs a2 a3 a4 (hro.mono a1) hfn hk
      exact ⟨μ2, w2, act2, Mu.le_trans a1 b1, b2, b3, b4, .of_steps (Steps.head stepR_seq a5) b5⟩
    · rename_i hne
      obtain ⟨μ1, w1, act1, a1, a2, a3, a4, a5⟩ := hC fn ro x f e f' ev w0 μ w act b (.code y :: k) cs S hs hd hro hfn hk
      refine ⟨μ1, w1, act1, a1, a2, a3, a4, .of_steps (.one stepR_seq) (.pass (x := .code y) (fun _ => by simp) (fun he => ?_) a5)⟩
      subst he
      exact hne _ ev
  | cond c x y =>
    simp only [evalC] at ev
    split at ev
    · rename_i hc
      have hv := evalO_rel hs _ _ hc
      simp only [VR] at hv
      obtain ⟨μ1, w1, act1, a1, a2, a3, a4, a5⟩ := hC fn ro x f e f' ev w0 μ w act b k cs S hs hd hro hfn hk
      exact ⟨μ1, w1, act1, a1, a2, a3, a4, .of_steps (.one (stepR_cond (t := true) hv)) a5⟩
    · rename_i hc
      have hv := evalO_rel hs _ _ hc
      simp only [VR] at hv
      obtain ⟨μ1, w1, act1, a1, a2, a3, a4, a5⟩ := hC fn ro y f e f' ev w0 μ w act b k cs S hs hd hro hfn hk
      exact ⟨μ1, w1, act1, a1, a2, a3, a4, .of_steps (.one (stepR_cond (t := false) hv)) a5⟩
    · simp at ev
  | block id x =>
    simp only [evalC] at ev
    split at ev
    · rename_i i f1 h1
      obtain ⟨μ1, w1, act1, a1, a2, a3, a4, a5, a6⟩ := hC fn ro x f _ f1 h1 w0 μ w act b (.inBlock id :: k) cs S hs hd hro hfn hk
      split at ev
      · rename_i hi
        simp only [Option.some.injEq, Prod.mk.injEq] at ev
        obtain ⟨rfl, rfl⟩ := ev
        subst hi
        exact ⟨μ1, w1, act1, a1, a2, a3, a4, Steps.head stepR_block (a5 k (by simp [exitTo]))⟩
      · rename_i hi
        simp only [Option.some.injEq, Prod.mk.injEq] at ev
        obtain ⟨rfl, rfl⟩ := ev
        have hx : exitTo i (.inBlock id :: k) = exitTo i k := by
          have : (id == i) = false := by simpa using fun h => hi h.symm
          simp [exitTo, this]
        rw [hx] at a5 a6
        exact ⟨μ1, w1, act1, a1, a2, a3, a4, Lands.of_steps (e := .exit i) (.one stepR_block) ⟨a5, a6⟩⟩
    · rename_i hne
      obtain ⟨μ1, w1, act1, a1, a2, a3, a4, a5⟩ := hC fn ro x f e f' ev w0 μ w act b (.inBlock id :: k) cs S hs hd hro hfn hk
      refine ⟨μ1, w1, act1, a1, a2, a3, a4, ?_⟩
      cases e with
      | normal => exact Steps.head stepR_block (Steps.trans a5 (.one stepR_inBlock))
      | exit i => exact absurd ev (hne _ _)
      | ret => exact Lands.of_steps (e := .ret) (.one stepR_block) a5
  | loop x =>
    simp only [evalC] at ev
    split at ev
    · rename_i f1 h1
      obtain ⟨μ1, w1, act1, a1, a2, a3, a4, a5⟩ := hC fn ro x f _ f1 h1 w0 μ w act b (.inLoop x :: k) cs S hs hd hro hfn hk
      obtain ⟨μ2, w2, act2, b1, b2, b3, b4, b5⟩ := hL fn ro x f1 e f' ev w0 μ1 w1 act1 b k cs a2 a3 a4 (hro.mono a1) hfn hk
      exact ⟨μ2, w2, act2, Mu.le_trans a1 b1, b2, b3, b4, .of_steps (Steps.head stepR_loop a5) b5⟩
    · rename_i hne
      obtain ⟨μ1, w1, act1, a1, a2, a3, a4, a5⟩ := hC fn ro x f e f' ev w0 μ w act b (.inLoop x :: k) cs S hs hd hro hfn hk
      refine ⟨μ1, w1, act1, a1, a2, a3, a4, .of_steps (.one stepR_loop) (.pass (x := .inLoop x) (fun _ => by simp) (fun he => ?_) a5)⟩
      subst he
      exact hne _ ev
  | scope x =>
    simp only [evalC] at ev
    obtain ⟨μ1, w1, act1, a1, a2, a3, a4, a5⟩ := hC fn ro x f e f' ev w0 μ w act b (.inScope x :: k) cs S hs hd hro hfn hk
    refine ⟨μ1, w1, act1, a1, a2, a3, a4, ?_⟩
    have hst : step P (lone (b.atR act (.code (.scope x) :: k)) cs w) = .next (lone (b.atR act (.code x :: .inScope x :: k)) cs w) := step_lone_go (by simp [stepG, stepG.exec, Frame.atR])
    have hend : step P (lone (b.atR act1 (.inScope x :: k)) cs w1) = .next (lone (b.atR act1 k) cs w1) := step_lone_go (by simp [stepG, stepG.exec, Frame.atR])
    cases e with
    | normal => exact Steps.head hst (Steps.trans a5 (.one hend))
    | exit i => exact Lands.of_steps (e := .exit i) (.one hst) (.pass (x := .inScope x) (fun _ => by simp) (by simp) a5)
    | ret => exact Lands.of_steps (e := .ret) (.one hst) a5
  | region id ops draw =>
    simp only [evalC] at ev
    split at ev
    · rename_i hdraw
      subst hdraw
      split at ev
      · rename_i hdr
        split at ev
        · rename_i st hev
          split at ev
          · rename_i hchk
            simp only [Option.some.injEq, Prod.mk.injEq] at ev
            obtain ⟨rfl, rfl⟩ := ev
            have hok := drawOk_ok hdr
            obtain ⟨k1, k2⟩ := schedule_keeps hok.back (w.tape w.drawn (.order b.fn id))
            rw [← hM] at k1 k2
            obtain ⟨μ1, w1, act1, a1, a2, a3, a4, a5⟩ := draw_sim hT hS hok hev hchk k1 k2 (S.heap (w' := { w with drawn := w.drawn + 1 }) rfl ⟨rfl, rfl, rfl⟩) hs b k cs hk
            exact ⟨μ1, w1, act1, a1, a2, a3, by rw [a4]; exact hd.mono a1, Steps.head stepR_region_draw a5⟩
          · simp at ev
        · simp at ev
      · simp at ev
    · rename_i hdraw
      have hdraw : draw = false := by simpa using hdraw
      subst hdraw
      split at ev
      · rename_i s1 h1 hos
        simp only [Option.some.injEq, Prod.mk.injEq] at ev
        obtain ⟨rfl, rfl⟩ := ev
        obtain ⟨μ1, w1, act1, a1, a2, a3, a4, a5⟩ := hO ops _ _ _ _ _ hos w0 μ w act b k cs S hs hk
        exact ⟨μ1, w1, act1, a1, a2, a3, by rw [a4]; exact hd.mono a1, Steps.head stepR_region a5⟩
      · simp at ev
  | rangeFunc g ps assign body => exact sound_range hF ev w0 μ w act b k cs S hs hd hro hfn
  | goto l => simp [evalC] at ev
  | refuse why => simp [evalC] at ev

end Go.Am

/-
  The abstract machine: calls and rounds; what it tells is so in the model.
-/
namespace Go.Am
variable {P : Program} {T : TT} {F : Nat → Option Func}

theorem setAll_rel {μ : Mu} : ∀ (ts : List Nat) (s as : List AV) (tmps : Array Value) (vs : List Value), VRs μ s tmps.toList → VRs μ as vs →
    VRs μ (setAll s ts as) ((ts.zip vs).foldl (fun tmps (x : Nat × Value) => tmps.setIfInBounds x.1 x.2) tmps).toList
  | [], s, as, tmps, vs, h1, h2 => by simpa [setAll] using h1
  | t :: ts, s, [], tmps, vs, h1, h2 => by simp only [VRs] at h2; subst h2; simpa [setAll] using h1
  | t :: ts, s, a :: as, tmps, vs, h1, h2 => by
    simp only [VRs] at h2
    obtain ⟨v, vs', hv, hvs, rfl⟩ := h2
    simp only [setAll, List.zip_cons_cons, List.foldl_cons]
    exact setAll_rel ts _ as _ vs' (by simpa using h1.set t hv) hvs

theorem sound_R {n : Nat} (hC : SoundC P T F n) : SoundR P T F (n + 1) := by
  intro l args h v h' ev w0 μ w vargs L S hargs hL
  simp only [roundF] at ev
  split at ev
  · rename_i r hl
    obtain ⟨s0, r', s1, s2, s3, s4, s5, s6, s7, s8, D, s9, s10⟩ := S.loop hl hL
    split at ev
    · simp at ev
    · rename_i hlen
      have hlen : args.length = r.params.length := by simpa using hlen
      have hal := hargs.len
      have hsz : vargs.size = r'.params.size := by
        have : r'.params.toList.length = r.params.length := by rw [s6]
        simp at this hal; omega
      refine ⟨r'.fn, (r'.params.zip vargs).foldl (fun tmps (x : Nat × Value) => tmps.setIfInBounds x.1 x.2) r'.tmps, r'.assign, r'.body, ?_, ?_⟩
      · simp [Instr.yield, run_getLoop s1, hsz]
      · intro c cs
        have hs0 : VRs μ (setAll r.tmps r.params args) ((r'.params.zip vargs).foldl (fun tmps (x : Nat × Value) => tmps.setIfInBounds x.1 x.2) r'.tmps).toList := by
          have := setAll_rel r.params r.tmps args r'.tmps vargs.toList s5 hargs
          rw [← s6] at this
          rw [← Array.foldl_toList, Array.toList_zip]
          rw [← s6]; exact this
        let b : Frame := { (default : Frame) with fn := r'.fn, kind := .normal, roundOf := some L.blk }
        let t0 : Array Value := (r'.params.zip vargs).foldl (fun tmps (x : Nat × Value) => tmps.setIfInBounds x.1 x.2) r'.tmps
        have hb0 : Frame.round L.blk r'.fn t0 r'.assign r'.body .normal = b.atR { tmps := t0, defers := [] } [.code r'.assign, .beginRound, .code r'.body] := by
          simp [Frame.round, Frame.atR, b]
        split at ev
        · rename_i f1 h1
          obtain ⟨μ1, w1, act1, a1, a2, a3, a4, a5⟩ := hC r.fn (some l) r.assign _ _ f1 h1 w0 μ w { tmps := t0, defers := [] } b [.beginRound, .code r'.body] (c :: cs) S hs0 rfl ⟨L, hL, rfl⟩ s4 rfl
          rw [s7] at hb0
          rw [← hb0] at a5
          split at ev
          · rename_i r1 hl1
            have hL1 : μ1 l = some L := a1 _ _ hL
            obtain ⟨_, q1', q1, q2, q3, q4, q5, q6, q7, q8, D1, q9, q10⟩ := a2.loop hl1 hL1
            split at ev
            · simp at ev
            · rename_i hrd
              have hrd1 : r1.state = .ready := by
                cases h : r1.state <;> first | rfl | (exfalso; apply hrd; left; simp [h])
              have hms : f1.ms = [] := by
                rcases hf : f1.ms with _ | ⟨x, y⟩
                · rfl
                · exfalso; apply hrd; right; simp [hf]
              have hbr : (Instr.beginRound L.blk).run P w1 = .ok () { w1 with heap := w1.heap.setIfInBounds L.blk (.loop { q1' with state := .busy }) } := by
                simp only [Instr.beginRound, Sem.run_bind, run_getLoop q1, Result.andThen_ok]
                rw [run_setObj (P := P) q1 (by simp)]
                simp [q2, hrd1]
              have hS1 := a2.putObj (.loop { r1 with state := .busy }) (.loop { q1' with state := .busy }) hl1 hL1 rfl (fun w' hw => ⟨s0, _, hw, rfl, q3, q4, q5, q6, q7, q8, D1, q9, q10⟩)
              have hstep1 := stepR_beginRound (P := P) (b := b) (a := act1) (k := [.code r'.body]) (cs := c :: cs) rfl hbr
              split at ev
              · rename_i e f2 h2
                have hd1 : DRel μ1 ({ f1 with h := f1.h.put l (.loop { r1 with state := .busy }) } : Frm).ms act1.defers := a4
                obtain ⟨μ2, w2, act2, b1, b2, b3, b4, b5⟩ := hC r.fn (some l) r.body _ e f2 h2 w0 μ1 _ act1 b [] (c :: cs) hS1 a3 hd1 ⟨L, hL1, rfl⟩ s4 rfl
                rw [s8] at hstep1
                have hto : Steps P (lone (Frame.round L.blk r'.fn t0 r.assign r.body .normal) (c :: cs) w) (lone (b.atR act1 [.code r.body]) (c :: cs) { w1 with heap := w1.heap.setIfInBounds L.blk (.loop { q1' with state := .busy }) }) := by
                  rw [s8] at a5
                  exact Steps.trans a5 (.one hstep1)
                split at ev
                · rename_i r2 hl2
                  have hL2 : μ2 l = some L := b1 _ _ hL1
                  obtain ⟨_, p1', p1, p2, p3, p4, p5, p6, p7, p8, D2, p9, p10⟩ := b2.loop hl2 hL2
                  have hend : ∀ jump : Option Code, (Instr.endRound L.blk jump).run P w2 = .ok (.bool jump.isNone) { w2 with heap := w2.heap.setIfInBounds L.blk (.loop { p1' with state := if jump.isNone then .ready else .done, pending := jump }) } := fun jump => by
                    simp only [Instr.endRound, Sem.run_bind, run_getLoop p1, Result.andThen_ok]
                    rw [run_setObj (P := P) p1 (by simp)]
                    simp
                  have hS2 : ∀ (st : LoopState) (jump : Option Code), Sim w0 μ2 (f2.h.put l (.loop { r2 with state := st, pending := jump })) { w2 with heap := w2.heap.setIfInBounds L.blk (.loop { p1' with state := st, pending := jump }) } := fun st jump =>
                    b2.putObj (.loop { r2 with state := st, pending := jump }) (.loop { p1' with state := st, pending := jump }) hl2 hL2 rfl (fun w' hw => ⟨s0, _, hw, rfl, rfl, p4, p5, p6, p7, p8, D2, p9, p10⟩)
                  split at ev
                  · simp at ev
                  · rename_i hms2
                    have hle : μ.le μ2 := Mu.le_trans a1 b1
                    rw [s7, s8]
                    split at ev
                    · simp only [Option.some.injEq, Prod.mk.injEq] at ev
                      obtain ⟨rfl, rfl⟩ := ev
                      refine ⟨_, .bool true, μ2, hle, hS2 .ready none, by simp [VR], Steps.trans hto (Steps.trans b5 (.one ?_))⟩
                      exact stepR_round_end (b := b) rfl rfl (hend none)
                    · simp only [Option.some.injEq, Prod.mk.injEq] at ev
                      obtain ⟨rfl, rfl⟩ := ev
                      obtain ⟨todo, b5⟩ := b5
                      refine ⟨_, .bool false, μ2, hle, hS2 .done (some .ret), by simp [VR], Steps.trans hto (Steps.trans b5 (.one ?_))⟩
                      exact stepR_round_ret (b := b) rfl rfl (hend (some .ret))
                    · rename_i id
                      simp only [Option.some.injEq, Prod.mk.injEq] at ev
                      obtain ⟨rfl, rfl⟩ := ev
                      obtain ⟨todo, hx, b5⟩ := b5.2 rfl
                      refine ⟨_, .bool false, μ2, hle, hS2 .done (some (.exit id)), by simp [VR], Steps.trans hto (Steps.trans b5 (.one ?_))⟩
                      exact stepR_round_exit (b := b) rfl rfl hx (hend (some (.exit id)))
                · simp at ev
              · simp at ev
          · simp at ev
        · simp at ev
  · simp at ev

theorem marks_steps {μ : Mu} {w0 : Frz} : ∀ (ms : List Nat) (h h' : Heap) (w : World) (fr : Frame) (cs : List Frame), takeMarks ms h = some h' → Sim w0 μ h w → DRel μ ms fr.defers → fr.mode = .returning →
    ∃ w', Sim w0 μ h' w' ∧ Steps P (lone fr cs w) (lone { fr with defers := [] } cs w')
  | [], h, h', w, fr, cs, e, S, hd, hm => by
    simp only [takeMarks, Option.some.injEq] at e; subst e
    simp only [DRel] at hd
    refine ⟨w, S, ?_⟩
    rw [← hd]; exact Steps.refl _ _
  | m :: ms, h, h', w, fr, cs, e, S, hd, hm => by
    obtain ⟨L, ds, hL, hds, hfd⟩ := hd
    simp only [takeMarks] at e
    split at e
    · rename_i hg
      obtain ⟨L', e1, e2⟩ := S.at_ m _ hg
      rw [hL] at e1; simp at e1; subst e1
      obtain ⟨g1, g2⟩ := e2
      simp only [Bool.false_eq_true, if_false] at g2
      have hS := S.putObj (.defers true) (.deferred none) hg hL rfl (fun w' hw => ⟨g1, by simpa using hw⟩)
      obtain ⟨w', k1, k2⟩ := marks_steps ms _ h' _ { fr with defers := ds } cs e hS hds hm
      refine ⟨w', k1, Steps.head ?_ k2⟩
      have htk : (Instr.takeDeferred L.blk).run P w = .ok [] { w with heap := w.heap.setIfInBounds L.blk (.deferred none) } := by
        simp only [Instr.takeDeferred, Sem.run_bind, run_getObj (P := P) g2 (by simp), Result.andThen_ok]
        simp only [run_setObj (P := P) g2 (by simp), Result.andThen_ok, Sem.run_pure]
      refine step_lone_go ?_
      simp [stepG, hm, unwind, hfd, Sem.runT_eq, htk]
    · simp at e

theorem sound_F {n : Nat} (hT : TypesOk P T) (hFu : FuncsOk P F) (hC : SoundC P T F n) : SoundF P T F (n + 1) := by
  intro f args h v h' ev w0 μ w vargs S hargs
  simp only [callF] at ev
  split at ev
  · simp at ev
  · rename_i fn hfn
    obtain ⟨q1, q2⟩ := hFu f fn hfn
    split at ev
    · simp at ev
    · rename_i c hc
      refine ⟨⟨fn, q1, q2, by rw [hc]; rfl⟩, fun cs => ?_⟩
      let b : Frame := { (default : Frame) with fn := f, kind := .normal }
      have hal := hargs.len
      have henter : Frame.enter P f vargs .normal = b.atR { tmps := vargs ++ Array.replicate (fn.ntmps - vargs.size) undef, defers := [] } [.code c] := by
        simp [Frame.enter, Frame.atR, q1, hc, b]
        rfl
      have hs0 : VRs μ (args ++ List.replicate (fn.ntmps - args.length) undefA) (vargs ++ Array.replicate (fn.ntmps - vargs.size) undef).toList := by
        rw [Array.toList_append]
        refine hargs.append ?_
        simp only [Array.toList_replicate]
        have : vargs.size = args.length := by simpa using hal
        rw [this]
        exact VRs.replicate (VR.undef μ) _
      have key : ∀ e f1, evalC T F n f none c { s := args ++ List.replicate (fn.ntmps - args.length) undefA, ms := [], h } = some (e, f1) → (∀ id, e ≠ .exit id) → (match takeMarks f1.ms f1.h with
          | none => none
          | some h2 =>
            match resultsA T h2 f1.s fn.results.toList with
            | some [v] => some (v, h2)
            | some l => some (.tup l, h2)
            | none => none) = some (v, h') →
          ∃ w' fr vv μ', μ.le μ' ∧ Sim w0 μ' h' w' ∧ VR μ' v vv ∧ Steps P (lone (Frame.enter P f vargs .normal) cs w) (lone fr cs w') ∧ fr.fn = f ∧ fr.leaving P w' (.returned vv) := by
        intro e f1 h1 hne ev
        obtain ⟨μ1, w1, act1, a1, a2, a3, a4, a5⟩ := hC f none c _ e f1 h1 w0 μ w { tmps := vargs ++ Array.replicate (fn.ntmps - vargs.size) undef, defers := [] } b [] cs S hs0 rfl rfl rfl rfl
        rw [← henter] at a5
        have hret : ∃ todo, Steps P (lone (Frame.enter P f vargs .normal) cs w) (lone { b.atR act1 todo with mode := .returning } cs w1) := by
          cases e with
          | normal => exact ⟨[], Steps.trans a5 (.one (stepR_end rfl))⟩
          | ret => obtain ⟨todo, a5⟩ := a5; exact ⟨_, Steps.trans a5 (.one (stepR_ret rfl))⟩
          | exit id => exact absurd rfl (hne id)
        obtain ⟨todo, hret⟩ := hret
        split at ev
        · simp at ev
        · rename_i h2 hmk
          obtain ⟨w2, m1, m2⟩ := marks_steps (P := P) f1.ms f1.h h2 w1 { b.atR act1 todo with mode := .returning } cs hmk a2 a4 rfl
          have fin : ∀ l, resultsA T h2 f1.s fn.results.toList = some l → (v, h') = (packA l, h2) → ∃ w' fr vv μ', μ.le μ' ∧ Sim w0 μ' h' w' ∧ VR μ' v vv ∧ Steps P (lone (Frame.enter P f vargs .normal) cs w) (lone fr cs w') ∧ fr.fn = f ∧ fr.leaving P w' (.returned vv) := by
            intro l hl hv
            simp only [Prod.mk.injEq] at hv
            obtain ⟨rfl, rfl⟩ := hv
            obtain ⟨vv, r1, r2⟩ := results_run (P := P) hT m1 a3 hl
            exact ⟨w2, _, vv, μ1, a1, m1, r2, Steps.trans hret m2, rfl, rfl, rfl, rfl, fn, q1, r1⟩
          split at ev
          · rename_i v1 hl
            simp only [Option.some.injEq] at ev
            exact fin _ hl (by rw [← ev]; rfl)
          · rename_i l hne1 hl
            simp only [Option.some.injEq] at ev
            refine fin _ hl ?_
            rw [← ev]
            cases l with
            | nil => rfl
            | cons x l => cases l with
              | nil => exact (hne1 x rfl).elim
              | cons y l => rfl
          · simp at ev
      split at ev
      · simp at ev
      · simp at ev
      · rename_i e f1 hne h1
        exact key e f1 h1 (fun id he => hne id he) ev

theorem sound (hM : P.follows .mixedOrders = true) (hT : TypesOk P T) (hFu : FuncsOk P F) : ∀ n, (SoundC P T F n ∧ SoundL P T F n ∧ SoundO P T F n ∧ SoundF P T F n ∧ SoundR P T F n) ∧ ∀ m, m ≤ n → SoundS P T F m
  | 0 => ⟨⟨fun _ _ _ _ _ _ ev => by simp [evalC] at ev, fun _ _ _ _ _ _ ev => by simp [evalC] at ev, fun _ _ _ _ _ _ ev => by simp [evalOs] at ev, fun _ _ _ _ _ ev => by simp [callF] at ev, fun _ _ _ _ _ ev => by simp [roundF] at ev⟩,
    fun m hm => by
      have : m = 0 := by omega
      subst this
      intro _ _ _ _ _ _ _ ev; simp [evalOs] at ev⟩
  | n + 1 => by
    obtain ⟨⟨hC, hL, hO, hF, hR⟩, hS⟩ := sound hM hT hFu n
    have hS1 := sound_S hT hFu hF hR
    refine ⟨⟨sound_C hM hT hC hS hO hF hL, sound_L hC hL, sound_O hS1 hO, sound_F hT hFu hC, sound_R hC⟩, fun m hm => ?_⟩
    rcases Nat.lt_or_ge m (n + 1) with h | h
    · exact hS m (by omega)
    · have : m = n + 1 := by omega
      subst this; exact hS1

/-- **What the abstract machine tells of a call is so.** -/
theorem calls_of (hM : P.follows .mixedOrders = true) (hT : TypesOk P T) (hFu : FuncsOk P F) {n f : Nat} {args : List AV} {h h' : Heap} {v : AV} (e : callF T F n f args h = some (v, h')) {w0 : Frz} {w : World} {μ : Mu} {vargs : Array Value} (S : Sim w0 μ h w) (hargs : VRs μ args vargs.toList) :
    Calls P f vargs w fun e w' => ∃ vv μ', e = .returned vv ∧ μ.le μ' ∧ Sim w0 μ' h' w' ∧ VR μ' v vv := by
  intro cs
  obtain ⟨w', fr, vv, μ', m1, m2, m3, m4, m5, m6⟩ := ((sound hM hT hFu n).1.2.2.2.1 f args h v h' e w0 μ w vargs S hargs).2 cs
  exact ⟨.returned vv, w', fr, ⟨vv, μ', rfl, m1, m2, m3⟩, m4, m5, m6⟩

end Go.Am

/-
  The abstract machine: tables out of a program; a law without arguments.
-/
namespace Go.Am
open Go.RowKit

def fieldsKnown (P : Program) : TypeDesc → Bool
  | .struct fs => fs.toList.all fun f => (P.info? f.type).isSome
  | _ => true

def eqFine (P : Program) (t : Nat) : TypeDesc → Bool
  | .struct _ => !P.eqGuardType P.depth t && !P.stoodInHeld t
  | _ => false

/-- Is a zero of its type's form? -/
def zeroFine (d : TypeDesc) : Value → Bool
  | .agg _ => (TK.of d).isAgg
  | _ => !(TK.of d).isAgg

/-- What a program says of a type. -/
def mkTI (P : Program) (t : Nat) : Option TI :=
  match P.underlying t, P.info? t with
  | some d, some i =>
    (match i.zero with
    | some z => (match ofLeafs z.cells.toList with
      | some zl =>
        if zl.length = i.size ∧ fieldsKnown P d = true ∧ zeroFine d z = true then
          some { kind := TK.of d, size := i.size, bytes := i.bytes, zero := zl, eqOk := eqFine P t d }
        else none
      | none => none)
    | none => none)
  | _, _ => none

theorem mkTI_ok {P : Program} {t : Nat} {ti : TI} (e : mkTI P t = some ti) : TypeOk P t ti := by
  unfold mkTI at e
  split at e
  · rename_i d i hu hi
    split at e
    · rename_i z hz
      split at e
      · rename_i zl hzl
        split at e
        · rename_i hc
          simp only [Option.some.injEq] at e; subst e
          refine ⟨⟨d, hu, rfl⟩, ⟨i, hi, rfl, rfl, z, hz, hzl⟩, hc.1, ?_, ?_, ?_⟩
          · intro fs hfs f hf
            rw [hu] at hfs; simp only [Option.some.injEq] at hfs; subst hfs
            have := hc.2.1
            simp only [fieldsKnown, List.all_eq_true] at this
            exact this f hf
          · intro he
            unfold eqFine at he
            split at he
            · simpa using he
            · simp at he
          · intro i' z' hi' hz'
            rw [hi] at hi'; simp only [Option.some.injEq] at hi'; subst hi'
            rw [hz] at hz'; simp only [Option.some.injEq] at hz'; subst hz'
            have hf := hc.2.2
            have key : ∀ z : Value, zeroFine d z = true → ((TK.of d).isAgg = true → ∃ cs, z = .agg cs) ∧ ((TK.of d).isAgg = false → ∀ cs, z ≠ .agg cs) := by
              intro z hf
              cases z with
              | agg cs => exact ⟨fun _ => ⟨_, rfl⟩, fun h => by simp only [zeroFine] at hf; rw [hf] at h; cases h⟩
              | _ => exact ⟨fun h => by simp only [zeroFine] at hf; rw [h] at hf; simp at hf, fun _ cs => by simp⟩
            exact key z hf
        · simp at e
      · simp at e
    · simp at e
  · simp at e

/-- A table out of a list. -/
def tabT (l : List (Option TI)) : TT := fun t => (l[t]?).join

theorem tabT_ok {P : Program} {n : Nat} {l : List (Option TI)} (h : (List.range n).map (mkTI P) = l) : TypesOk P (tabT l) := by
  subst h
  intro t ti e
  unfold tabT at e
  rw [List.getElem?_map] at e
  rcases Nat.lt_or_ge t n with ht | ht
  · rw [List.getElem?_range ht] at e
    simp at e
    exact mkTI_ok e
  · rw [List.getElem?_eq_none (by simpa using ht)] at e; simp at e

def okFunc (fn : Func) : Option Func := if (fn.body.isSome || fn.name == "internal/bytealg.IndexByteString") && !(fn.name == "runtime.NumGoroutine") then some fn else none

def tabF (l : List (Option Func)) : Nat → Option Func := fun f => (l[f]?).join

theorem tabF_ok {P : Program} {l : List (Option Func)} (h : P.funcs.toList.map okFunc = l) : FuncsOk P (tabF l) := by
  subst h
  intro f fn e
  unfold tabF at e
  rw [List.getElem?_map] at e
  cases hf : P.funcs.toList[f]? with
  | none => rw [hf] at e; simp at e
  | some g =>
    rw [hf] at e
    simp only [Option.map_some, Option.join_some] at e
    unfold okFunc at e
    split at e
    · rename_i hc
      simp only [Option.some.injEq] at e; subst e
      simp only [Bool.and_eq_true, Bool.not_eq_true'] at hc
      exact ⟨by simpa using hf, hc.2⟩
    · simp at e

def heap0 : Heap := ⟨0, .nil⟩
def mu0 : Mu := fun _ => none

theorem sim0 (w : World) : Sim (.all w) mu0 heap0 w :=
  ⟨fun b x e => by simp [heap0, Heap.get, HT.get] at e, fun b c x y L M e => by simp [heap0, Heap.get, HT.get] at e, fun k o b e => by simp only [Frz.all, Option.map_eq_some_iff, Prod.mk.injEq] at e; obtain ⟨a, e1, e2, _⟩ := e; subst e2; exact e1, fun b x L o e => by simp [heap0, Heap.get, HT.get] at e, fun b L e => by simp [mu0] at e, fun b _ => by simp [heap0, Heap.get, HT.get], fun b hb => by simp [Frz.all] at hb, Side.refl _⟩

theorem Sim.below {w0 w : World} {μ : Mu} {h : Heap} (S : Sim (.all w0) μ h w) : Below w0.heap.size w0 w := by
  have ho : ∀ k, k < w0.heap.size → w.heap[k]? = w0.heap[k]? := fun k hk => by
    have := S.old k w0.heap[k] false (by simp [Frz.all, Array.getElem?_eq_getElem hk])
    rw [this, Array.getElem?_eq_getElem hk]
  refine ⟨S.side.os, S.side.tape, S.side.output, ?_, ho⟩
  rcases Nat.eq_zero_or_pos w0.heap.size with h0 | h0
  · omega
  · have := ho (w0.heap.size - 1) (by omega)
    rw [Array.getElem?_eq_getElem (by omega : w0.heap.size - 1 < w0.heap.size)] at this
    have := (Array.getElem?_eq_some_iff.1 this).1
    omega

/-- A law: it tells true. -/
theorem law_of {P : Program} {T : TT} {F : Nat → Option Func} (hM : P.follows .mixedOrders = true) (hT : TypesOk P T) (hF : FuncsOk P F) {n f : Nat} {args : List AV} {h h' : Heap} (e : callF T F n f args h = some (.bool true, h')) {w : World} {μ : Mu} {vargs : Array Value}
    (S : Sim (.all w) μ h w) (hargs : VRs μ args vargs.toList) : Calls P f vargs w fun e w' => e = .returned (.bool true) ∧ Below w.heap.size w w' :=
  (calls_of hM hT hF e S hargs).mono fun e' w' ⟨vv, μ', he, _, hS, hv⟩ => by
    simp only [VR] at hv; subst hv
    exact ⟨he, hS.below⟩

end Go.Am
