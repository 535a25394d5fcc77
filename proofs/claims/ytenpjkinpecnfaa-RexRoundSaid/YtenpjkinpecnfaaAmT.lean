/-
  The abstract machine: a region whose order is drawn, in whatever order.
-/
import Derived.Test.YtenpjkinpecnfaaAmS
namespace Go.Am
variable {P : Program} {T : TT} {F : Nat → Option Func}

theorem allocA_mine {ρ : Operand → Option AV} {op : Op} {id : Nat} {v : AV} {b : Blk} (hk : dkind T op = .new) (e : allocA T ρ op id = some (v, b)) : b.mine = true := by
  have key : ∀ h, opA T ρ op ⟨id, .nil⟩ = some (v, h) → ∃ cs, h = (⟨id, .nil⟩ : Heap).add (.cells cs true) := by
    intro h hop
    cases op with
    | alloc t =>
      simp only [opA] at hop
      split at hop
      · simp only [Option.some.injEq, Prod.mk.injEq] at hop; exact ⟨_, hop.2.symm⟩
      · simp at hop
    | box t x =>
      simp only [opA] at hop
      split at hop
      · split at hop
        · simp only [Option.some.injEq, Prod.mk.injEq] at hop; exact ⟨_, hop.2.symm⟩
        · simp at hop
      · simp at hop
    | buildSlice t n ps =>
      simp only [opA, buildSliceA] at hop
      repeat' split at hop
      all_goals first
        | (simp at hop; done)
        | (simp only [Option.some.injEq, Prod.mk.injEq] at hop; exact ⟨_, hop.2.symm⟩)
    | makeSlice t l c =>
      simp only [opA, makeSliceA] at hop
      repeat' split at hop
      all_goals first
        | (simp at hop; done)
        | (simp only [Option.some.injEq, Prod.mk.injEq] at hop; exact ⟨_, hop.2.symm⟩)
    | call c =>
      obtain ⟨cl, args, ts⟩ := c
      cases cl with
      | builtin b => cases b <;> simp [dkind] at hk
      | _ => simp [dkind] at hk
    | convert s d x =>
      simp only [dkind] at hk
      split at hk
      · split at hk <;> simp at hk
      · simp at hk
    | _ => simp [dkind] at hk
  unfold allocA at e
  split at e
  · rename_i v' h hop
    split at e
    · rename_i b' hb
      simp only [Option.some.injEq, Prod.mk.injEq] at e
      obtain ⟨rfl, rfl⟩ := e
      obtain ⟨cs, rfl⟩ := key _ hop
      rw [Heap.get_add] at hb
      simp at hb
      rw [← hb]; rfl
    · simp at e
  · simp at e

theorem runA_plain {n : Nat} {s : List AV} {op : Op} {h : Heap} (hk : dkind T op ≠ .eff) : runA T F n s op h = opA T (evalO s) op h := by
  cases op with
  | call c =>
    obtain ⟨cl, args, ts⟩ := c
    cases cl with
    | value f => exact absurd rfl hk
    | _ => rfl
  | _ => rfl

/-! ### counting -/
theorem cnt_mono (ops : List Oper) {i : Nat} : ∀ {j : Nat}, i ≤ j → cnt T ops i ≤ cnt T ops j
  | 0, h => by have : i = 0 := by omega
               subst this; exact Nat.le_refl _
  | j + 1, h => by
    rcases Nat.lt_or_ge i (j + 1) with h1 | h1
    · have := cnt_mono ops (i := i) (j := j) (by omega)
      simp only [cnt]; omega
    · have : i = j + 1 := by omega
      subst this; exact Nat.le_refl _

theorem cnt_lt {ops : List Oper} {i j : Nat} (h : i < j) (he : isEff T ops i = true) : cnt T ops i < cnt T ops j := by
  have := cnt_mono (T := T) ops (i := i + 1) (j := j) h
  simp only [cnt, he, if_true] at this; omega

theorem cnt_ex {ops : List Oper} : ∀ {i k : Nat}, k < cnt T ops i → ∃ e, e < i ∧ isEff T ops e = true ∧ cnt T ops e = k
  | 0, k, h => by simp [cnt] at h
  | i + 1, k, h => by
    simp only [cnt] at h
    by_cases hk : k < cnt T ops i
    · obtain ⟨e, h1, h2, h3⟩ := cnt_ex hk
      exact ⟨e, by omega, h2, h3⟩
    · split at h
      · rename_i he; exact ⟨i, by omega, he, by omega⟩
      · omega

theorem effs_len (ops : List Oper) : ∀ N, ((List.range N).filter (isEff T ops)).length = cnt T ops N
  | 0 => rfl
  | N + 1 => by
    rw [List.range_succ, List.filter_append, List.length_append, effs_len ops N]
    simp only [cnt, List.filter_cons, List.filter_nil]
    split <;> simp

theorem effs_get {ops : List Oper} : ∀ {N k e : Nat}, ((List.range N).filter (isEff T ops))[k]? = some e → isEff T ops e = true ∧ e < N ∧ cnt T ops e = k
  | 0, k, e, h => by simp at h
  | N + 1, k, e, h => by
    rw [List.range_succ, List.filter_append] at h
    rcases Nat.lt_or_ge k ((List.range N).filter (isEff T ops)).length with hk | hk
    · rw [List.getElem?_append_left hk] at h
      obtain ⟨h1, h2, h3⟩ := effs_get h
      exact ⟨h1, by omega, h3⟩
    · rw [List.getElem?_append_right hk] at h
      simp only [List.filter_cons, List.filter_nil] at h
      split at h
      · rename_i he
        rw [effs_len] at hk h
        have h0 : k - cnt T ops N = 0 := by
          have := (List.getElem?_eq_some_iff.1 h).1
          simp at this; omega
        rw [h0] at h
        simp at h; subst h
        exact ⟨he, by omega, by omega⟩
      · simp at h

/-! ### what is kept, of all -/
structure DFin (T : TT) (F : Nat → Option Func) (n : Nat) (ops : Array Oper) (base : Nat) (s0 : List AV) (h0 : Heap) (st : DSt) : Prop where
  ok : DOk T ops
  inv : DInv T F n ops.toList base ops.size s0 h0 st
  chk : drawChk T ops.toList base st = true
  two : 0 < ops.size → 2 ≤ n

def wr (ops : Array Oper) (j t : Nat) : Prop := ∃ o, ops[j]? = some o ∧ o.dst = some t

theorem putA_ne {s : List AV} {d : Option Nat} {t : Nat} {v : AV} (h : d ≠ some t) : (putA s d v)[t]? = s[t]? := by
  cases d with
  | none => rfl
  | some d => simp only [putA]; rw [List.getElem?_set_ne]; intro e; exact h (by rw [e])

theorem putA_len (s : List AV) (d : Option Nat) (v : AV) : (putA s d v).length = s.length := by cases d <;> simp [putA]

variable {n0 base : Nat} {ops : Array Oper} {s0 : List AV} {h0 : Heap} {st : DSt}

theorem DFin.mine (D : DFin T F n0 ops base s0 h0 st) {j : Nat} {x : Blk} (hm : (j, x) ∈ st.nb) : x.mine = true := by
  obtain ⟨o1, k1, k2⟩ := D.inv.knd _ hm
  obtain ⟨o, s, s', msk, h, h1, h2, h3, h4, h5⟩ := D.inv.all j (D.inv.nb _ hm)
  simp only at k1
  rw [k1] at h1; cases h1
  rcases h5 with ⟨a, _⟩ | ⟨a, b, v, y, c1, c2, c3⟩ | ⟨a, b, c, d⟩ | ⟨a, _⟩ | ⟨a, _⟩
  · rw [k2] at a; cases a
  · have := D.inv.one j x y hm c3
    subst this
    exact allocA_mine a c1
  · exact absurd hm (d x)
  · rw [k2] at a; cases a
  · rw [k2] at a; cases a

theorem DFin.put (D : DFin T F n0 ops base s0 h0 st) {j : Nat} (hj : j < ops.size) : ∃ o v s, ops[j]? = some o ∧ (st.ss ++ [st.s])[j]? = some s ∧ (st.ss ++ [st.s])[j + 1]? = some (putA s o.dst v) := by
  obtain ⟨o, s, s', msk, h, h1, h2, h3, h4, h5⟩ := D.inv.all j hj
  have ho : ops[j]? = some o := by simpa using h1
  rcases h5 with ⟨a, h', m, b1, b2, b3⟩ | ⟨a, b, v, y, c1, c2, c3⟩ | ⟨a, b, c, d⟩ | ⟨a, b, v, h', c1, c2⟩ | ⟨a, b, c⟩
  · obtain ⟨o', v, e1, e2, _⟩ := evalOs_one b3
    rw [h1] at e1; cases e1
    exact ⟨o, v, s, ho, h2, by rw [h3, e2]⟩
  · exact ⟨o, v, s, ho, h2, by rw [h3, c2]⟩
  · exact ⟨o, undefA, s, ho, h2, by rw [h3, c]⟩
  · exact ⟨o, v, s, ho, h2, by rw [h3, c2]⟩
  · exact ⟨o, undefA, s, ho, h2, by rw [h3, c]⟩

theorem DFin.const (D : DFin T F n0 ops base s0 h0 st) {t : Nat} : ∀ (d a : Nat) (x y : List AV), (∀ j, a ≤ j → j < a + d → ¬ wr ops j t) → a + d ≤ ops.size → (st.ss ++ [st.s])[a]? = some x → (st.ss ++ [st.s])[a + d]? = some y → x[t]? = y[t]?
  | 0, a, x, y, _, _, hx, hy => by rw [Nat.add_zero, hx] at hy; cases hy; rfl
  | d + 1, a, x, y, hw, hle, hx, hy => by
    obtain ⟨o, v, s, h1, h2, h3⟩ := D.put (j := a + d) (by omega)
    have hy' : (st.ss ++ [st.s])[a + d + 1]? = some y := hy
    rw [h3] at hy'; cases hy'
    rw [putA_ne (fun e => hw (a + d) (by omega) (by omega) ⟨o, h1, e⟩)]
    exact D.const d a x s (fun j h4 h5 => hw j h4 (by omega)) (by omega) hx h2

theorem DFin.len (D : DFin T F n0 ops base s0 h0 st) : ∀ (k : Nat) (x : List AV), k ≤ ops.size → (st.ss ++ [st.s])[k]? = some x → x.length = s0.length
  | 0, x, _, hx => by rw [D.inv.s0] at hx; cases hx; rfl
  | k + 1, x, hk, hx => by
    obtain ⟨o, v, s, h1, h2, h3⟩ := D.put (j := k) (by omega)
    rw [h3] at hx; cases hx
    rw [putA_len]; exact D.len k s (by omega) h2

theorem clash_read {a b : Oper} {ops : List Oper} {d : Nat} (h1 : a.dst = some d) (h2 : d ∈ readsOf ops b) : clash T ops a b = true ∧ clash T ops b a = true := by
  have : (readsOf ops b).contains d = true := by simpa using h2
  constructor <;> simp [clash, h1, h2]

theorem clash_write {a b : Oper} {ops : List Oper} {d : Nat} (h1 : a.dst = some d) (h2 : b.dst = some d) : clash T ops a b = true := by
  simp [clash, h1, h2]

theorem DFin.effOrd (D : DFin T F n0 ops base s0 h0 st) {e i : Nat} (h : e < i) (h1 : isEff T ops.toList e = true) (h2 : isEff T ops.toList i = true) : ((befores ops.toList []).getD i 0).testBit e = true := by
  unfold isEff at h1 h2
  split at h1
  · rename_i a ha
    split at h2
    · rename_i b hb
      exact D.ok.ord e i a b h (by simpa using ha) (by simpa using hb) (by
        have e1 : dkind T a.op = .eff := by simpa using h1
        have e2 : dkind T b.op = .eff := by simpa using h2
        simp [clash, e1, e2])
    · simp at h2
  · simp at h1

/-- What only reads, at any heap that may stand there. -/
theorem DFin.quiet (D : DFin T F n0 ops base s0 h0 st) {i k msk : Nat} {o : Oper} {s s' : List AV} {h : Heap} (hi : i < ops.size) (ho : ops.toList[i]? = some o) (hq : dkind T o.op = .quiet) (hs : (st.ss ++ [st.s])[i]? = some s) (hs' : (st.ss ++ [st.s])[i + 1]? = some s')
    (hw : wantedA o ops.toList s = true) (hk : (st.hs ++ [(st.msk, st.h)])[k]? = some (msk, h)) (hm : msk.testBit i = false) (he : ∀ e, isEff T ops.toList e = true → cnt T ops.toList e = k → ((befores ops.toList []).getD i 0).testBit e = false) :
    ∃ v h', opA T (evalO s) o.op (heapFor base st.nb ((befores ops.toList []).getD i 0) msk h) = some (v, h') ∧ s' = putA s o.dst v := by
  obtain ⟨o1, t, t', msk1, h1, q1, q2, q3, q4, q5⟩ := D.inv.all i hi
  rw [ho] at q1; cases q1
  rw [hs] at q2; cases q2
  rw [hs'] at q3; cases q3
  obtain ⟨v0, h0', c1, c2⟩ : ∃ v h', opA T (evalO s) o.op (heapFor base st.nb ((befores ops.toList []).getD i 0) msk1 h1) = some (v, h') ∧ s' = putA s o.dst v := by
    rcases q5 with ⟨a, _⟩ | ⟨a, _⟩ | ⟨a, _⟩ | ⟨a, b, v, h', c1, c2⟩ | ⟨a, b, _⟩
    · rw [hq] at a; cases a
    · rw [hq] at a; cases a
    · rw [hq] at a; cases a
    · exact ⟨v, h', c1, c2⟩
    · rw [hw] at b; cases b
  have hc := D.chk
  unfold drawChk at hc
  simp only [Bool.or_eq_true] at hc
  rcases hc with hc | hc
  · -- nothing is changed at all
    have hn : cnt T ops.toList ops.size = 0 := by
      have := effs_len (T := T) ops.toList ops.toList.length
      have h2 : ((List.range ops.toList.length).filter (isEff T ops.toList)) = [] := List.isEmpty_iff.1 hc
      rw [h2] at this; simpa using this.symm
    have hl := D.inv.hs
    rw [hn] at hl
    have hnil : st.hs = [] := List.length_eq_zero_iff.1 hl
    rw [hnil] at hk q4
    have k0 : k = 0 := by have := (List.getElem?_eq_some_iff.1 hk).1; simp at this; exact this
    have k1 : cnt T ops.toList i = 0 := by have := (List.getElem?_eq_some_iff.1 q4).1; simp at this; exact this
    rw [k0] at hk; rw [k1, hk] at q4
    cases q4
    exact ⟨v0, h0', c1, c2⟩
  · rw [List.all_eq_true] at hc
    have h1' := hc (o, i) (by rw [List.mem_zipIdx_iff_getElem?]; exact ho)
    have e1 : (st.ss ++ [st.s]).getD i [] = s := by rw [List.getD_eq_getElem?_getD, hs]; rfl
    have e2 : (st.ss ++ [st.s]).getD (i + 1) [] = s' := by rw [List.getD_eq_getElem?_getD, hs']; rfl
    simp only [hq, e1, e2, hw, bne_self_eq_false, Bool.not_true, Bool.false_or, List.all_eq_true] at h1'
    have h2 := h1' ((msk, h), k) (by rw [List.mem_zipIdx_iff_getElem?]; exact hk)
    simp only [hm, Bool.false_or, Bool.or_eq_true] at h2
    rcases h2 with h2 | h2
    · split at h2
      · rename_i e hge
        obtain ⟨g1, g2, g3⟩ := effs_get (T := T) (ops := ops.toList) (N := ops.toList.length) (k := k) (e := e) hge
        rw [he e g1 g3] at h2; cases h2
      · simp at h2
    · unfold sameV at h2
      split at h2
      · rename_i v h' hop
        refine ⟨v, h', hop, ?_⟩
        rw [c2]
        cases hd : o.dst with
        | none => rfl
        | some d =>
          rw [hd] at h2 c2
          simp only at h2
          simp only [putA] at c2 ⊢
          rcases Nat.lt_or_ge d s.length with hdl | hdl
          · have : s'[d]? = some v0 := by rw [c2]; simp [hdl]
            rw [this] at h2
            simp only at h2
            rw [AV.eqb_eq _ _ h2]
          · rw [List.set_eq_of_length_le hdl, List.set_eq_of_length_le hdl]
      · simp at h2

end Go.Am
