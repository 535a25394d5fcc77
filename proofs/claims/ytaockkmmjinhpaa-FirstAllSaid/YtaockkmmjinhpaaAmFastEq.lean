/-
  The abstract machine: the record of functions tells what the evaluator tells.
-/
import Derived.Test.YtaockkmmjinhpaaAmFast
namespace Go.Am
open Go.RowKit

theorem ST.get_put : ∀ (f : Nat) (t : ST) (n m : Nat) (x : AV), n < f → (ST.put f t n x).get m = if n = m then x else t.get m
  | 0, t, n, m, x, h => by omega
  | f + 1, t, n, m, x, h => by
    have ih := fun t k => ST.get_put f t k
    cases t with
    | nil =>
      simp only [ST.put]
      split
      · rename_i h0; subst h0
        simp only [ST.get]
        by_cases hm : m = 0
        · subst hm; simp
        · have h0 : ¬ 0 = m := fun e => hm e.symm
          simp [hm, h0]
      · split
        · simp only [ST.get]
          by_cases hm : m = 0
          · subst hm; rename_i h0 _; simp [h0]
          · rw [if_neg hm]
            split
            · rw [ih _ _ _ _ (by omega)]
              by_cases he : n / 2 = m / 2
              · rw [if_pos he, if_pos (by omega)]
              · rw [if_neg he, if_neg (by omega)]; rfl
            · rw [if_neg (by omega)]
        · simp only [ST.get]
          by_cases hm : m = 0
          · subst hm; rename_i h0 _; simp [h0]
          · rw [if_neg hm]
            split
            · rw [if_neg (by omega)]
            · rw [ih _ _ _ _ (by omega)]
              by_cases he : n / 2 - 1 = m / 2 - 1
              · rw [if_pos he, if_pos (by omega)]
              · rw [if_neg he, if_neg (by omega)]; rfl
    | node v l r =>
      simp only [ST.put]
      split
      · rename_i h0; subst h0
        simp only [ST.get]
        by_cases hm : m = 0
        · subst hm; simp
        · have h0 : ¬ 0 = m := fun e => hm e.symm
          simp [hm, h0]
      · split
        · simp only [ST.get]
          by_cases hm : m = 0
          · subst hm; rename_i h0 _; simp [h0]
          · rw [if_neg hm, if_neg hm]
            split
            · rw [ih _ _ _ _ (by omega)]
              by_cases he : n / 2 = m / 2
              · rw [if_pos he, if_pos (by omega)]
              · rw [if_neg he, if_neg (by omega)]
            · rw [if_neg (by omega)]
        · simp only [ST.get]
          by_cases hm : m = 0
          · subst hm; rename_i h0 _; simp [h0]
          · rw [if_neg hm, if_neg hm]
            split
            · rw [if_neg (by omega)]
            · rw [ih _ _ _ _ (by omega)]
              by_cases he : n / 2 - 1 = m / 2 - 1
              · rw [if_pos he, if_pos (by omega)]
              · rw [if_neg he, if_neg (by omega)]

theorem Sl.toL_get (s : Sl) (i : Nat) : s.toL[i]? = if i < s.n then some (s.t.get i) else none := by
  unfold Sl.toL
  rw [List.getElem?_map]
  split
  · rename_i h; rw [List.getElem?_range h]; rfl
  · rename_i h; rw [List.getElem?_eq_none (by simpa using h)]; rfl

theorem Sl.toL_getD (s : Sl) (i : Nat) : s.toL.getD i undefA = s.get i := by
  rw [List.getD_eq_getElem?_getD, Sl.toL_get]
  unfold Sl.get
  split <;> rfl

theorem Sl.toL_len (s : Sl) : s.toL.length = s.n := by simp [Sl.toL]

theorem Sl.toL_set (s : Sl) (i : Nat) (v : AV) : (s.set i v).toL = s.toL.set i v := by
  refine List.ext_getElem? fun j => ?_
  rw [List.getElem?_set, Sl.toL_len]
  unfold Sl.set
  split
  · rename_i hi
    rw [Sl.toL_get, Sl.toL_get]
    simp only
    rw [ST.get_put _ _ _ _ _ (Nat.lt_succ_self i)]
    by_cases hj : i = j
    · subst hj; simp [hi]
    · simp [hj]
  · rename_i hi
    rw [Sl.toL_get]
    by_cases hj : i = j
    · subst hj; simp [hi]
    · simp [hj]

theorem putF_eq (s : Sl) (d : Option Nat) (v : AV) : (putF s d v).toL = putA s.toL d v := by
  cases d with
  | none => rfl
  | some d => exact Sl.toL_set s d v

theorem evalOF_eq (s : Sl) : evalOF s = evalO s.toL := by
  funext x
  cases x with
  | tmp t => simp only [evalOF, evalO, Sl.toL_getD]
  | _ => rfl

theorem wantedF_eq (o : Oper) (ops : List Oper) (s : Sl) : wantedF o ops s = wantedA o ops s.toL := by
  unfold wantedF wantedA
  cases o.guard with
  | none => rfl
  | some p =>
    obtain ⟨j, want⟩ := p
    simp only
    cases ops[j]? with
    | none => rfl
    | some g =>
      simp only
      cases g.dst with
      | none => rfl
      | some d =>
        simp only
        rw [Sl.toL_get]
        unfold Sl.get
        by_cases hd : d < s.n
        · rw [if_pos hd, if_pos hd]; cases s.t.get d <;> rfl
        · rw [if_neg hd, if_neg hd]; rfl

def FrmF.toA (f : FrmF) : Frm := ⟨f.s.toL, f.ms, f.h⟩

/-- The two tell the same, n deep. -/
structure LvEq (T : TT) (F : Nat → Option Func) (n : Nat) : Prop where
  c : ∀ fn ro c f, evalC T F n fn ro c f.toA = ((lv T F n).c fn ro c f).map fun p => (p.1, p.2.toA)
  o : ∀ ops is s h, evalOs T F n ops is s.toL h = ((lv T F n).o ops is s h).map fun p => (p.1.toL, p.2)
  d : ∀ ops bf base is st, evalDs T F n ops bf base is st.toD = ((lv T F n).d ops bf base is st).map DStF.toD
  f : ∀ f args h, callF T F n f args h = (lv T F n).f f args h
  r : ∀ l args h, roundF T F n l args h = (lv T F n).r l args h

variable {T : TT} {F : Nat → Option Func}

theorem lvEq_o {n : Nat} (ih : LvEq T F n) (ops : List Oper) (is : List Nat) (s : Sl) (h : Heap) : evalOs T F (n + 1) ops is s.toL h = ((lv T F (n + 1)).o ops is s h).map fun p => (p.1.toL, p.2) := by
  show _ = (evalOsP T F (lv T F n) ops is s h).map _
  cases is with
  | nil => simp [evalOs, evalOsP]
  | cons i is =>
    simp only [evalOs, evalOsP]
    cases ops[i]? with
    | none => rfl
    | some o =>
      simp only [wantedF_eq]
      have hop : ∀ r : Option (AV × Heap), (match r with | some (v, h') => evalOs T F n ops is (putA s.toL o.dst v) h' | none => none) = (match r with | some (v, h') => (lv T F n).o ops is (putF s o.dst v) h' | none => none).map fun p : Sl × Heap => (p.1.toL, p.2) := by
        intro r
        cases r with
        | none => rfl
        | some p => simp only [← putF_eq]; exact ih.o _ _ _ _
      have hrun : (match o.op with
          | .call { callee := .value f, args, .. } =>
            (match evalO s.toL f, evalAll (evalO s.toL) args.toList with
            | some (.func (.func g) caps), some l => (match externO F g (l ++ caps) with | some v => some (v, h) | none => callF T F n g (l ++ caps) h)
            | some (.func (.yield l) _), some as => roundF T F n l as h
            | _, _ => none)
          | op => opA T (evalO s.toL) op h) = (match o.op with
          | .call { callee := .value f, args, .. } =>
            (match evalOF s f, evalAll (evalOF s) args.toList with
            | some (.func (.func g) caps), some l => (match externO F g (l ++ caps) with | some v => some (v, h) | none => (lv T F n).f g (l ++ caps) h)
            | some (.func (.yield l) _), some as => (lv T F n).r l as h
            | _, _ => none)
          | op => opA T (evalOF s) op h) := by
        simp only [evalOF_eq, ih.f, ih.r]
      split
      · exact (congrArg (fun r : Option (AV × Heap) => match r with | some (v, h') => evalOs T F n ops is (putA s.toL o.dst v) h' | none => none) hrun).trans (hop _)
      · rw [← putF_eq]; exact ih.o _ _ _ _

/-- Does a call tell true? -/
def tells (r : Option (AV × Heap)) : Bool := match r with | some (.bool b, _) => b | _ => false

end Go.Am
