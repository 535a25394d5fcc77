/-
  The abstract machine: the record of functions tells what the evaluator tells.
-/
import Derived.Test.YtaockkmmjinhpaaAmFast
namespace Go.Am
open Go.RowKit

theorem ST.get_put : ∀ (f : Nat) (t : ST) (n m : Nat) (x : AV), n < f → (ST.put f t n x).get m = if n = m then x else t.get m
  | 0, t, n, m, x, h => by omega
  | f + 1, t, n, m, x, h => by
    have ih := fun t k => ST.get_put f t k
    cases t with
    | nil =>
      simp only [ST.put]
      split
      · rename_i h0; subst h0
        simp only [ST.get]
        by_cases hm : m = 0
        · subst hm; simp
        · have h0 : ¬ 0 = m := fun e => hm e.symm
          simp [hm, h0]
      · split
        · simp only [ST.get]
          by_cases hm : m = 0
          · subst hm; rename_i h0 _; simp [h0]
          · rw [if_neg hm]
            split
            · rw [ih _ _ _ _ (by omega)]
              by_cases he : n / 2 = m / 2
              · rw [if_pos he, if_pos (by omega)]
              · rw [if_neg he, if_neg (by omega)]; rfl
            · rw [if_neg (by omega)]
        · simp only [ST.get]
          by_cases hm : m = 0
          · subst hm; rename_i h0 _; simp [h0]
          · rw [if_neg hm]
            split
            · rw [if_neg (by omega)]
            · rw [ih _ _ _ _ (by omega)]
              by_cases he : n / 2 - 1 = m / 2 - 1
              · rw [if_pos he, if_pos (by omega)]
              · rw [if_neg he, if_neg (by omega)]; rfl
    | node v l r =>
      simp only [ST.put]
      split
      · rename_i h0; subst h0
        simp only [ST.get]
        by_cases hm : m = 0
        · subst hm; simp
        · have h0 : ¬ 0 = m := fun e => hm e.symm
          simp [hm, h0]
      · split
        · simp only [ST.get]
          by_cases hm : m = 0
          · subst hm; rename_i h0 _; simp [h0]
          · rw [if_neg hm, if_neg hm]
            split
            · rw [ih _ _ _ _ (by omega)]
              by_cases he : n / 2 = m / 2
              · rw [if_pos he, if_pos (by omega)]
              · rw [if_neg he, if_neg (by omega)]
            · rw [if_neg (by omega)]
        · simp only [ST.get]
          by_cases hm : m = 0
          · subst hm; rename_i h0 _; simp [h0]
          · rw [if_neg hm, if_neg hm]
            split
            · rw [if_neg (by omega)]
            · rw [ih _ _ _ _ (by omega)]
              by_cases he : n / 2 - 1 = m / 2 - 1
              · rw [if_pos he, if_pos (by omega)]
              · rw [if_neg he, if_neg (by omega)]

theorem Sl.toL_get (s : Sl) (i : Nat) : s.toL[i]? = if i < s.n then some (s.t.get i) else none := by
  unfold Sl.toL
  rw [List.getElem?_map]
  split
  · rename_i h; rw [List.getElem?_range h]; rfl
  · rename_i h; rw [List.getElem?_eq_none (by simpa using h)]; rfl

theorem Sl.toL_getD (s : Sl) (i : Nat) : s.toL.getD i undefA = s.get i := by
  rw [List.getD_eq_getElem?_getD, Sl.toL_get]
  unfold Sl.get
  split <;> rfl

theorem Sl.toL_len (s : Sl) : s.toL.length = s.n := by simp [Sl.toL]

theorem Sl.toL_set (s : Sl) (i : Nat) (v : AV) : (s.set i v).toL = s.toL.set i v := by
  refine List.ext_getElem? fun j => ?_
  rw [List.getElem?_set, Sl.toL_len]
  unfold Sl.set
  split
  · rename_i hi
    rw [Sl.toL_get, Sl.toL_get]
    simp only
    rw [ST.get_put _ _ _ _ _ (Nat.lt_succ_self i)]
    by_cases hj : i = j
    · subst hj; simp [hi]
    · simp [hj]
  · rename_i hi
    rw [Sl.toL_get]
    by_cases hj : i = j
    · subst hj; simp [hi]
    · simp [hj]

theorem putF_eq (s : Sl) (d : Option Nat) (v : AV) : (putF s d v).toL = putA s.toL d v := by
  cases d with
  | none => rfl
  | some d => exact Sl.toL_set s d v

theorem evalOF_eq (s : Sl) : evalOF s = evalO s.toL := by
  funext x
  cases x with
  | tmp t => simp only [evalOF, evalO, Sl.toL_getD]
  | _ => rfl

theorem wantedF_eq (o : Oper) (ops : List Oper) (s : Sl) : wantedF o ops s = wantedA o ops s.toL := by
  unfold wantedF wantedA
  cases o.guard with
  | none => rfl
  | some p =>
    obtain ⟨j, want⟩ := p
    simp only
    cases ops[j]? with
    | none => rfl
    | some g =>
      simp only
      cases g.dst with
      | none => rfl
      | some d =>
        simp only
        rw [Sl.toL_get]
        unfold Sl.get
        by_cases hd : d < s.n
        · rw [if_pos hd, if_pos hd]; cases s.t.get d <;> rfl
        · rw [if_neg hd, if_neg hd]; rfl

theorem resultsF_eq (T : TT) (h : Heap) (s : Sl) : ∀ l, resultsF T h s l = resultsA T h s.toL l
  | [] => rfl
  | .tmp t :: l => by simp only [resultsF, resultsA, resultsF_eq T h s l, Sl.toL_getD]; rfl
  | .cell a t :: l => by simp only [resultsF, resultsA, resultsF_eq T h s l, Sl.toL_getD]; rfl

theorem stOf_get : ∀ (l : List AV) (i : Nat) (t : ST) (j : Nat), (stOf l i t).get j = if i ≤ j ∧ j < i + l.length then l.getD (j - i) undefA else t.get j
  | [], i, t, j => by simp [stOf]; omega
  | v :: l, i, t, j => by
    rw [stOf, stOf_get l (i + 1) _ j, ST.get_put _ _ _ _ _ (Nat.lt_succ_self i)]
    by_cases hj : i = j
    · subst hj; simp; omega
    · by_cases h1 : i + 1 ≤ j ∧ j < i + 1 + l.length
      · rw [if_pos h1, if_pos (by simp; omega)]
        obtain ⟨d, hd⟩ : ∃ d, j - i = d + 1 := ⟨j - i - 1, by omega⟩
        rw [hd, show j - (i + 1) = d by omega]; simp
      · rw [if_neg h1, if_neg hj, if_neg (by simp; omega)]

theorem Sl.ofL_eq (l : List AV) : (Sl.ofL l).toL = l := by
  refine List.ext_getElem? fun j => ?_
  rw [Sl.toL_get]
  simp only [Sl.ofL, stOf_get]
  split
  · rename_i h; rw [if_pos (by omega), Nat.sub_zero, List.getD_eq_getElem?_getD, List.getElem?_eq_getElem h]; rfl
  · rename_i h; rw [List.getElem?_eq_none (by omega)]

theorem Sl.init_eq (l : List AV) (n : Nat) : (Sl.init l n).toL = l ++ List.replicate (n - l.length) undefA := by
  refine List.ext_getElem? fun j => ?_
  rw [Sl.toL_get]
  simp only [Sl.init, stOf_get]
  rw [List.getElem?_append]
  by_cases h : j < l.length
  · rw [if_pos (by omega), if_pos (by omega), if_pos h, Nat.sub_zero, List.getD_eq_getElem?_getD, List.getElem?_eq_getElem h]; rfl
  · rw [if_neg h, List.getElem?_replicate]
    by_cases h2 : j < max l.length n
    · rw [if_pos h2, if_neg (by omega), if_pos (by omega)]; rfl
    · rw [if_neg h2, if_neg (by omega)]

def FrmF.toA (f : FrmF) : Frm := ⟨f.s.toL, f.ms, f.h⟩

/-- The two tell the same, n deep. -/
structure LvEq (T : TT) (F : Nat → Option Func) (n : Nat) : Prop where
  c : ∀ fn ro c f, evalC T F n fn ro c f.toA = ((lv T F n).c fn ro c f).map fun p => (p.1, p.2.toA)
  o : ∀ ops is s h, evalOs T F n ops is s.toL h = ((lv T F n).o ops is s h).map fun p => (p.1.toL, p.2)
  d : ∀ ops bf base is st, evalDs T F n ops bf base is st.toD = ((lv T F n).d ops bf base is st).map DStF.toD
  f : ∀ f args h, callF T F n f args h = (lv T F n).f f args h
  r : ∀ l args h, roundF T F n l args h = (lv T F n).r l args h

variable {T : TT} {F : Nat → Option Func}

theorem lvEq_zero : LvEq T F 0 := ⟨fun _ _ _ _ => by simp only [evalC]; rfl, fun _ _ _ _ => by simp only [evalOs]; rfl, fun _ _ _ _ _ => by simp only [evalDs]; rfl, fun _ _ _ => by simp only [callF]; rfl, fun _ _ _ => by simp only [roundF]; rfl⟩

theorem lvEq_o {n : Nat} (ih : LvEq T F n) (ops : List Oper) (is : List Nat) (s : Sl) (h : Heap) : evalOs T F (n + 1) ops is s.toL h = ((lv T F (n + 1)).o ops is s h).map fun p => (p.1.toL, p.2) := by
  show _ = (evalOsP T F (lv T F n) ops is s h).map _
  cases is with
  | nil => simp [evalOs, evalOsP]
  | cons i is =>
    simp only [evalOs, evalOsP]
    cases ops[i]? with
    | none => rfl
    | some o =>
      simp only [wantedF_eq]
      have hop : ∀ r : Option (AV × Heap), (match r with | some (v, h') => evalOs T F n ops is (putA s.toL o.dst v) h' | none => none) = (match r with | some (v, h') => (lv T F n).o ops is (putF s o.dst v) h' | none => none).map fun p : Sl × Heap => (p.1.toL, p.2) := by
        intro r
        cases r with
        | none => rfl
        | some p => simp only [← putF_eq]; exact ih.o _ _ _ _
      have hrun : (match o.op with
          | .call { callee := .value f, args, .. } =>
            (match evalO s.toL f, evalAll (evalO s.toL) args.toList with
            | some (.func (.func g) caps), some l => (match externO F g (l ++ caps) with | some v => some (v, h) | none => callF T F n g (l ++ caps) h)
            | some (.func (.yield l) _), some as => roundF T F n l as h
            | _, _ => none)
          | op => opA T (evalO s.toL) op h) = (match o.op with
          | .call { callee := .value f, args, .. } =>
            (match evalOF s f, evalAll (evalOF s) args.toList with
            | some (.func (.func g) caps), some l => (match externO F g (l ++ caps) with | some v => some (v, h) | none => (lv T F n).f g (l ++ caps) h)
            | some (.func (.yield l) _), some as => (lv T F n).r l as h
            | _, _ => none)
          | op => opA T (evalOF s) op h) := by
        simp only [evalOF_eq, ih.f, ih.r]
      split
      · exact (congrArg (fun r : Option (AV × Heap) => match r with | some (v, h') => evalOs T F n ops is (putA s.toL o.dst v) h' | none => none) hrun).trans (hop _)
      · rw [← putF_eq]; exact ih.o _ _ _ _

theorem lvEq_f {n : Nat} (ih : LvEq T F n) (f : Nat) (args : List AV) (h : Heap) : callF T F (n + 1) f args h = (lv T F (n + 1)).f f args h := by
  show _ = callFP T F (lv T F n) f args h
  simp only [callF, callFP]
  cases F f with
  | none => rfl
  | some fn =>
    simp only
    cases fn.body with
    | none => rfl
    | some c =>
      simp only
      have hc := ih.c f none c ⟨.init args fn.ntmps, [], h⟩
      simp only [FrmF.toA, Sl.init_eq] at hc
      rw [hc]
      cases (lv T F n).c f none c ⟨.init args fn.ntmps, [], h⟩ with
      | none => rfl
      | some p =>
        obtain ⟨e, f1⟩ := p
        cases e <;> simp only [Option.map_some, FrmF.toA, ← resultsF_eq] <;> rfl

theorem lvEq_r {n : Nat} (ih : LvEq T F n) (l : Nat) (args : List AV) (h : Heap) : roundF T F (n + 1) l args h = (lv T F (n + 1)).r l args h := by
  show _ = roundFP T F (lv T F n) l args h
  simp only [roundF, roundFP]
  cases h.get l with
  | none => rfl
  | some b =>
    cases b with
    | loop r =>
      simp only
      split
      · rfl
      · have hc := ih.c r.fn (some l) r.assign ⟨.ofL (setAll r.tmps r.params args), [], h⟩
        simp only [FrmF.toA, Sl.ofL_eq] at hc
        rw [hc]
        cases (lv T F n).c r.fn (some l) r.assign ⟨.ofL (setAll r.tmps r.params args), [], h⟩ with
        | none => rfl
        | some p =>
          obtain ⟨e, f1⟩ := p
          cases e with
          | normal =>
            simp only [Option.map_some]
            cases f1.h.get l with
            | none => rfl
            | some b1 =>
              cases b1 with
              | loop r1 =>
                simp only
                split
                · rfl
                · have hc2 := ih.c r.fn (some l) r.body ⟨f1.s, f1.ms, f1.h.put l (.loop { r1 with state := .busy })⟩
                  simp only [FrmF.toA] at hc2
                  rw [hc2]
                  cases (lv T F n).c r.fn (some l) r.body ⟨f1.s, f1.ms, f1.h.put l (.loop { r1 with state := .busy })⟩ with
                  | none => rfl
                  | some q => obtain ⟨e2, f2⟩ := q; rfl
              | _ => rfl
          | _ => rfl
    | _ => rfl

theorem lvEq_d {n : Nat} (ih : LvEq T F n) (ops : List Oper) (bf : List Nat) (base : Nat) (is : List Nat) (st : DStF) : evalDs T F (n + 1) ops bf base is st.toD = ((lv T F (n + 1)).d ops bf base is st).map DStF.toD := by
  show _ = (evalDsP T F (lv T F n) ops bf base is st).map _
  cases is with
  | nil => simp only [evalDs, evalDsP]; rfl
  | cons i is =>
    simp only [evalDs, evalDsP]
    cases ops[i]? with
    | none => rfl
    | some o =>
      simp only
      cases dkind T o.op with
      | eff =>
        simp only
        have ho := ih.o ops [i] st.s (heapFor base st.nb (bf.getD i 0) st.msk st.h)
        simp only [DStF.toD]
        rw [ho]
        cases (lv T F n).o ops [i] st.s (heapFor base st.nb (bf.getD i 0) st.msk st.h) with
        | none => rfl
        | some p =>
          obtain ⟨s', h'⟩ := p
          simp only [Option.map_some]
          rw [← ih.d]
          simp [DStF.toD]
      | new =>
        simp only [DStF.toD, wantedF_eq, evalOF_eq]
        by_cases hw : wantedA o ops st.s.toL = true
        · simp only [hw, if_true]
          cases allocA T (evalO st.s.toL) o.op (base + i) with
          | none => rfl
          | some p =>
            obtain ⟨v, b⟩ := p
            simp only
            rw [← ih.d]
            simp [DStF.toD, putF_eq]
        · simp only [hw, if_false, Bool.false_eq_true]
          rw [← ih.d]
          simp [DStF.toD, putF_eq]
      | quiet =>
        simp only [DStF.toD, wantedF_eq, evalOF_eq]
        by_cases hw : wantedA o ops st.s.toL = true
        · simp only [hw, if_true]
          cases opA T (evalO st.s.toL) o.op (heapFor base st.nb (bf.getD i 0) st.msk st.h) with
          | none => rfl
          | some p =>
            obtain ⟨v, b⟩ := p
            simp only
            rw [← ih.d]
            simp [DStF.toD, putF_eq]
        · simp only [hw, if_false, Bool.false_eq_true]
          rw [← ih.d]
          simp [DStF.toD, putF_eq]
      | no => rfl

theorem sameVF_eq (r : Option (AV × Heap)) (dst : Option Nat) (s' : Sl) : sameVF r dst s' = sameV r dst s'.toL := by
  cases r with
  | none => rfl
  | some p =>
    cases dst with
    | none => rfl
    | some d =>
      simp only [sameVF, sameV, Sl.toL_get]
      by_cases hd : d < s'.n
      · rw [if_pos hd, if_pos hd]
      · rw [if_neg hd, if_neg hd]

theorem drawChkF_eq (ops : List Oper) (base : Nat) (st : DStF) : drawChkF T ops base st = drawChk T ops base st.toD := by
  have key : ∀ i, ((st.ss ++ [st.s]).getD i ⟨0, .nil⟩).toL = (st.toD.ss ++ [st.toD.s]).getD i [] := by
    intro i
    have : st.toD.ss ++ [st.toD.s] = (st.ss ++ [st.s]).map Sl.toL := by simp [DStF.toD]
    rw [this, List.getD_eq_getElem?_getD, List.getD_eq_getElem?_getD, List.getElem?_map]
    cases (st.ss ++ [st.s])[i]? <;> rfl
  unfold drawChkF drawChk
  simp only [wantedF_eq, evalOF_eq, sameVF_eq, key]
  rfl

theorem lvEq_c {n : Nat} (ih : LvEq T F n) (fn : Nat) (ro : Option Nat) (c : Code) (f : FrmF) : evalC T F (n + 1) fn ro c f.toA = ((lv T F (n + 1)).c fn ro c f).map fun p => (p.1, p.2.toA) := by
  show _ = (evalCP T F (lv T F n) fn ro c f).map _
  cases c with
  | skip => simp only [evalC, evalCP]; rfl
  | label l => simp only [evalC, evalCP]; rfl
  | exit i => simp only [evalC, evalCP]; rfl
  | ret => simp only [evalC, evalCP]; rfl
  | goto l => simp only [evalC, evalCP]; rfl
  | refuse w => simp only [evalC, evalCP]; rfl
  | scope x => simp only [evalC, evalCP]; exact ih.c _ _ _ _
  | seq a b =>
    simp only [evalC, evalCP, ih.c fn ro a f]
    cases (lv T F n).c fn ro a f with
    | none => rfl
    | some p =>
      obtain ⟨e, f1⟩ := p
      cases e with
      | normal => exact ih.c _ _ _ _
      | _ => rfl
  | loop x =>
    simp only [evalC, evalCP, ih.c fn ro x f]
    cases (lv T F n).c fn ro x f with
    | none => rfl
    | some p =>
      obtain ⟨e, f1⟩ := p
      cases e with
      | normal => exact ih.c _ _ _ _
      | _ => rfl
  | block id x =>
    simp only [evalC, evalCP, ih.c fn ro x f]
    cases (lv T F n).c fn ro x f with
    | none => rfl
    | some p =>
      obtain ⟨e, f1⟩ := p
      cases e with
      | exit i =>
        simp only [Option.map_some]
        by_cases hi : i = id
        · simp only [hi, if_true]; rfl
        · simp only [hi, if_false]; rfl
      | _ => rfl
  | cond x a b =>
    simp only [evalC, evalCP, evalOF_eq]
    rw [show f.toA.s = f.s.toL from rfl]
    cases evalO f.s.toL x with
    | none => rfl
    | some v =>
      cases v with
      | bool b => cases b <;> exact ih.c _ _ _ _
      | _ => rfl
  | region i ops draw =>
    cases draw with
    | false =>
      simp only [evalC, evalCP, Bool.false_eq_true, if_false]
      have ho := ih.o ops.toList (List.range ops.size) f.s f.h
      rw [show f.toA.s = f.s.toL from rfl, show f.toA.h = f.h from rfl, ho]
      cases (lv T F n).o ops.toList (List.range ops.size) f.s f.h with
      | none => rfl
      | some p => rfl
    | true =>
      simp only [evalC, evalCP, if_true]
      by_cases hd : drawOk T ops = true
      · simp only [hd, if_true]
        have h2 := ih.d ops.toList (befores ops.toList []) f.h.nxt (List.range ops.size) ⟨[], f.s, [], 0, ⟨f.h.nxt + ops.size, f.h.l⟩, []⟩
        rw [show (⟨[], f.s, [], 0, ⟨f.h.nxt + ops.size, f.h.l⟩, []⟩ : DStF).toD = ⟨[], f.toA.s, [], 0, ⟨f.toA.h.nxt + ops.size, f.toA.h.l⟩, []⟩ from rfl] at h2
        rw [show f.toA.h.nxt = f.h.nxt from rfl] at h2 ⊢
        rw [h2]
        cases (lv T F n).d ops.toList (befores ops.toList []) f.h.nxt (List.range ops.size) ⟨[], f.s, [], 0, ⟨f.h.nxt + ops.size, f.h.l⟩, []⟩ with
        | none => rfl
        | some st =>
          simp only [Option.map_some, drawChkF_eq]
          by_cases hc : drawChk T ops.toList f.h.nxt st.toD = true
          · simp only [hc, if_true]; rfl
          · simp only [hc, if_false, Bool.false_eq_true]; rfl
      · simp only [hd, if_false, Bool.false_eq_true]; rfl
  | rangeFunc g ps assign body =>
    have hen : enterA ro f.toA = enterA ro ⟨[], f.ms, f.h⟩ := by cases ro <;> rfl
    simp only [evalC, evalCP, evalOF_eq, hen, ih.f]
    rw [show f.toA.s = f.s.toL from rfl]
    cases evalO f.s.toL g with
    | none => rfl
    | some v =>
      cases v with
      | func fv caps =>
        cases fv with
        | func k =>
          simp only
          cases enterA ro ⟨[], f.ms, f.h⟩ with
          | none => rfl
          | some q =>
            obtain ⟨df, ms, h⟩ := q
            simp only
            cases (lv T F n).f k (.func (.yield h.nxt) [] :: caps) (h.add (.loop { state := .ready, pending := none, fn := fn, tmps := f.s.toL, params := ps.toList, assign, body, defers := df })) with
            | none => rfl
            | some p =>
              obtain ⟨v2, h2⟩ := p
              simp only
              cases h2.get h.nxt with
              | none => rfl
              | some b =>
                cases b with
                | loop r =>
                  simp only
                  by_cases hb : r.state = .busy
                  · simp only [hb, if_true]; rfl
                  · simp only [hb, if_false]
                    cases r.pending with
                    | none => rfl
                    | some c => cases c <;> rfl
                | _ => rfl
        | _ => rfl
      | _ => rfl

theorem lvEq : ∀ n, LvEq T F n
  | 0 => lvEq_zero
  | n + 1 => have ih := lvEq n; ⟨lvEq_c ih, lvEq_o ih, lvEq_d ih, lvEq_f ih, lvEq_r ih⟩

/-- Does a call tell true? -/
def tells (r : Option (AV × Heap)) : Bool := match r with | some (.bool b, _) => b | _ => false

theorem law0F_of {P : Program} {T : TT} {F : Nat → Option Func} (hM : P.follows .mixedOrders = true) (hT : TypesOk P T) (hF : FuncsOk P F) (n f : Nat) (e : tells ((lv T F n).f f [] heap0) = true) (w : World) :
    Calls P f #[] w fun e w' => e = .returned (.bool true) ∧ Below w.heap.size w w' := by
  rw [← (lvEq n).f] at e
  exact law0_of hM hT hF (n := n) e w

end Go.Am
