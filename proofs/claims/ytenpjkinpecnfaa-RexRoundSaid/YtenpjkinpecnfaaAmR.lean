/-
  The abstract machine: a region whose order is drawn: what stands ahead of what, what is newly made.
-/
import Derived.Test.YtenpjkinpecnfaaAmNa
import Derived.Test.YtenpjkinpecnfaaAmQ
import Derived.Test.YtenpjkinpecnfaaAmLin
namespace Go.Am
variable {P : Program} {T : TT} {F : Nat → Option Func}

/-! ### what stands ahead of what -/
theorem befores_len : ∀ (l : List Oper) (acc : List Nat), (befores l acc).length = acc.length + l.length
  | [], acc => by simp [befores]
  | o :: l, acc => by rw [befores, befores_len l]; simp; omega

theorem befores_old : ∀ (l : List Oper) (acc : List Nat) (i : Nat), i < acc.length → (befores l acc).getD i 0 = acc.getD i 0
  | [], acc, i, _ => rfl
  | o :: l, acc, i, h => by
    rw [befores, befores_old l _ i (by simp; omega)]
    simp [List.getD_eq_getElem?_getD, List.getElem?_append_left h]

theorem testBit_fold (acc : List Nat) (j : Nat) : ∀ (es : List Edge) (s : Nat), (es.foldl (fun s e => s ||| 2 ^ e.on ||| acc.getD e.on 0) s).testBit j = true → s.testBit j = true ∨ ∃ e ∈ es, j = e.on ∨ (acc.getD e.on 0).testBit j = true
  | [], s, h => .inl h
  | e :: es, s, h => by
    rw [List.foldl_cons] at h
    rcases testBit_fold acc j es _ h with h | ⟨e', h1, h2⟩
    · rw [Nat.testBit_or, Nat.testBit_or, Bool.or_eq_true, Bool.or_eq_true] at h
      rcases h with (h | h) | h
      · exact .inl h
      · rw [Nat.testBit_two_pow] at h
        exact .inr ⟨e, List.mem_cons_self .., .inl (by simpa using h : e.on = j).symm⟩
      · exact .inr ⟨e, List.mem_cons_self .., .inr h⟩
    · exact .inr ⟨e', List.mem_cons_of_mem _ h1, h2⟩

theorem befores_new : ∀ (l : List Oper) (acc : List Nat), (∀ i o, l[i]? = some o → ∀ e ∈ edges o, e.on < acc.length + i) → ∀ i o j, l[i]? = some o → ((befores l acc).getD (acc.length + i) 0).testBit j = true →
    ∃ e ∈ edges o, j = e.on ∨ ((befores l acc).getD e.on 0).testBit j = true
  | [], acc, _, i, o, j, h, _ => by simp at h
  | x :: l, acc, hb, 0, o, j, h, ht => by
    simp at h; subst h
    have hlen : acc.length < (acc ++ [(edges x).foldl (fun s e => s ||| 2 ^ e.on ||| acc.getD e.on 0) 0]).length := by simp
    rw [befores, Nat.add_zero, befores_old l _ _ hlen] at ht
    simp only [List.getD_eq_getElem?_getD, List.getElem?_concat_length, Option.getD_some] at ht
    have ht2 : ((edges x).foldl (fun s e => s ||| 2 ^ e.on ||| acc.getD e.on 0) 0).testBit j = true := by simpa only [List.getD_eq_getElem?_getD] using ht
    rcases testBit_fold acc j _ _ ht2 with h | ⟨e, h1, h2⟩
    · simp at h
    · refine ⟨e, h1, ?_⟩
      rcases h2 with h2 | h2
      · exact .inl h2
      · have := hb 0 x rfl e h1
        rw [befores, befores_old l _ _ (by simp; omega)]
        refine .inr ?_
        rw [List.getD_eq_getElem?_getD, List.getElem?_append_left (by omega), ← List.getD_eq_getElem?_getD]; exact h2
  | x :: l, acc, hb, i + 1, o, j, h, ht => by
    rw [befores] at ht ⊢
    refine befores_new l _ (fun i o h e he => ?_) i o j (by simpa using h) (by simpa [Nat.add_assoc, Nat.add_comm 1] using ht)
    have := hb (i + 1) o (by simpa using h) e he
    simp; omega

/-- What is asked of such a region. -/
structure DOk (T : TT) (ops : Array Oper) : Prop where
  back : ∀ (i : Nat) o, ops[i]? = some o → ∀ e ∈ edges o, e.on < i
  kind : ∀ (i : Nat) o, ops[i]? = some o → dkind T o.op ≠ .no
  pre : ∀ (i : Nat) o j, ops[i]? = some o → ((befores ops.toList []).getD i 0).testBit j = true → ∃ e ∈ edges o, j = e.on ∨ ((befores ops.toList []).getD e.on 0).testBit j = true
  lt : ∀ i j, ((befores ops.toList []).getD i 0).testBit j = true → j < i
  ord : ∀ (i j : Nat) a b, i < j → ops[i]? = some a → ops[j]? = some b → clash T ops.toList a b = true → ((befores ops.toList []).getD j 0).testBit i = true

theorem drawOk_ok {ops : Array Oper} (h : drawOk T ops = true) : DOk T ops := by
  unfold drawOk at h
  simp only [Bool.and_eq_true, List.all_eq_true] at h
  obtain ⟨h2, h3⟩ := h
  have back : ∀ (i : Nat) o, ops[i]? = some o → ∀ e ∈ edges o, e.on < i := by
    intro i o ho e he
    have := h2 (o, i) (by rw [List.mem_zipIdx_iff_getElem?]; simpa using ho)
    simp only [decide_eq_true_eq] at this
    exact this.1 e he
  have pre : ∀ (i : Nat) o j, ops[i]? = some o → ((befores ops.toList []).getD i 0).testBit j = true → ∃ e ∈ edges o, j = e.on ∨ ((befores ops.toList []).getD e.on 0).testBit j = true := by
    intro i o j ho ht
    exact befores_new ops.toList [] (fun i o h e he => by simpa using back i o (by simpa using h) e he) i o j (by simpa using ho) (by simpa using ht)
  refine ⟨back, ?_, pre, ?_, ?_⟩
  · intro i o ho hk
    have := h2 (o, i) (by rw [List.mem_zipIdx_iff_getElem?]; simpa using ho)
    simp [hk] at this
  · intro i
    induction i using Nat.strongRecOn with
    | ind i ih =>
      intro j hj
      rcases Nat.lt_or_ge i ops.size with hi | hi
      · obtain ⟨e, he, h⟩ := pre i ops[i] j (Array.getElem?_eq_getElem hi) hj
        have hlt := back i ops[i] (Array.getElem?_eq_getElem hi) e he
        rcases h with rfl | h
        · exact hlt
        · have := ih e.on hlt j h; omega
      · rw [List.getD_eq_getElem?_getD, List.getElem?_eq_none (by rw [befores_len]; simpa using hi)] at hj
        simp at hj
  · intro i j a b hij ha hb hc
    have := h3 (b, j) (by rw [List.mem_zipIdx_iff_getElem?]; simpa using hb) (a, i) (by rw [List.mem_zipIdx_iff_getElem?]; simpa using ha)
    simpa [hij, hc] using this

/-! ### what is newly made -/
theorem new_sim (hT : TypesOk P T) {μ : Mu} {ρ : Operand → Option AV} {ρ' : Operand → Value} (hρ : Rho μ ρ ρ') (o : Oper) (hk : dkind T o.op = .new) {id : Nat} {v : AV} {b : Blk} (e : allocA T ρ o.op id = some (v, b)) (w : World) :
    ∃ cs mv arr t, b = .cells cs true ∧ (execOp ρ' o).run P w = .ok (.value mv) { w with heap := w.heap.push (.cells arr t) } ∧ cs.length ≤ arr.size ∧
      (∀ (i : Nat) (a : AV), cs[i]? = some a → ∃ v, arr[i]? = some v ∧ VR μ a v) ∧ VR (μ.upd id ⟨w.heap.size, 0, arr.size⟩) v mv := by
  have fin : ∀ {s : Sem Value} {cs : List AV} {h : Heap}, h = (⟨id, .nil⟩ : Heap).add (.cells cs true) → h.get id = some b → execOp ρ' o = (do pure (.value (← s))) → NewTo P μ w s v id cs →
      ∃ cs mv arr t, b = .cells cs true ∧ (execOp ρ' o).run P w = .ok (.value mv) { w with heap := w.heap.push (.cells arr t) } ∧ cs.length ≤ arr.size ∧
      (∀ (i : Nat) (a : AV), cs[i]? = some a → ∃ v, arr[i]? = some v ∧ VR μ a v) ∧ VR (μ.upd id ⟨w.heap.size, 0, arr.size⟩) v mv := by
    intro s cs h h1 h2 h3 ⟨mv, arr, t, n1, n2, n3, n4⟩
    subst h1
    rw [Heap.get_add] at h2
    simp at h2
    exact ⟨cs, mv, arr, t, h2.symm, by rw [h3]; simp [n1], n2, n3, n4⟩
  unfold allocA at e
  split at e
  · rename_i v' h hop
    split at e
    · rename_i b' hb
      simp only [Option.some.injEq, Prod.mk.injEq] at e
      obtain ⟨rfl, rfl⟩ := e
      obtain ⟨dst, op, type, pos, after, guard⟩ := o
      simp only at hop hk fin
      cases op with
      | alloc t =>
        simp only [opA] at hop
        split at hop
        · rename_i ti ht
          simp only [Option.some.injEq, Prod.mk.injEq] at hop
          obtain ⟨rfl, rfl⟩ := hop
          exact fin rfl hb rfl (alloc_new hT ht μ w id)
        · simp at hop
      | box t x =>
        simp only [opA] at hop
        split at hop
        · rename_i a ha
          split at hop
          · simp only [Option.some.injEq, Prod.mk.injEq] at hop
            obtain ⟨rfl, rfl⟩ := hop
            exact fin rfl hb rfl (box_new (hρ _ _ ha) w id)
          · simp at hop
        · simp at hop
      | buildSlice t n ps =>
        simp only [opA] at hop
        split at hop
        · rename_i l hl
          have hp := evalParts_rel hρ hl
          obtain ⟨cs, q1, q2⟩ := buildSlice_new (P := P) hT (qs := ps.map fun (i, x) => (i, ρ' x)) (by simpa using hp) hop w
          exact fin q1 hb rfl q2
        · simp at hop
      | makeSlice t l c =>
        simp only [opA] at hop
        split at hop
        · rename_i a1 b1 hl hc
          obtain ⟨cs, q1, q2⟩ := makeSlice_new (P := P) hT (hρ _ _ hl) (hρ _ _ hc) hop w
          exact fin q1 hb rfl q2
        · simp at hop
      | call c =>
        obtain ⟨cl, args, ts⟩ := c
        cases cl with
        | builtin b => cases b <;> simp [dkind] at hk
        | _ => simp [dkind] at hk
      | convert s d x =>
        simp only [dkind] at hk
        split at hk
        · split at hk <;> simp at hk
        · simp at hk
      | _ => simp [dkind] at hk
    · simp at e
  · simp at e

/-! ### what only reads -/
theorem quiet_same {ρ : Operand → Option AV} {op : Op} {h h' : Heap} {v : AV} (hk : dkind T op = .quiet) (e : opA T ρ op h = some (v, h')) : h' = h := by
  cases op with
  | call c =>
    obtain ⟨cl, args, ts⟩ := c
    cases cl with
    | builtin b =>
      simp only [opA] at e
      split at e
      · rename_i l hl
        cases b with
        | cap =>
          simp only [builtinA] at e
          split at e <;> first
            | (simp at e; done)
            | (rename_i h1 h2; simp_all; done)
            | (split at e <;> (try split at e) <;> simp_all; done)
            | simp_all
        | _ =>
          first
          | (simp [dkind] at hk; done)
          | (simp only [builtinA] at e
             split at e <;> first
               | (simp at e; done)
               | (rename_i h1 h2; simp_all; done)
               | (split at e <;> simp_all; done)
               | simp_all)
      · simp at e
    | _ => simp [opA] at e
  | convert s d x =>
    simp only [dkind] at hk
    simp only [opA] at e
    split at e
    · rename_i a ha
      unfold convA at e
      split at e
      · rename_i ts td hs hd
        rw [hd] at hk
        simp only at hk
        split at e
        · simp at e; exact e.2.symm
        · simp at e; exact e.2.symm
        · simp_all
        · split at e
          · split at e
            · split at e
              · simp at e; exact e.2.symm
              · split at e
                · simp at e; exact e.2.symm
                · split at e
                  · split at e
                    · simp at e; exact e.2.symm
                    · simp at e
                  · simp at e
            · simp at e
          · simp at e
        · simp at e
      · simp at e
    · simp at e
  | _ =>
    first
      | (simp [dkind] at hk; done)
      | (simp only [opA] at e
         repeat' split at e
         all_goals first
           | (simp at e; done)
           | (simp only [Option.some.injEq, Prod.mk.injEq] at e; exact e.2.symm))

end Go.Am
