/-
  The abstract machine: numbers, strings, equality, what is read: what these come to in the model.
-/
import Derived.Test.YtenpjkinpecnfaaAmC
import Derived.Laws.StructEq
namespace Go.Am
variable {P : Program} {T : TT} {w0 : Frz} {w : World} {μ : Mu} {h h' : Heap}

/-- What an operation comes to. -/
def OpTo (P : Program) (w0 : Frz) (μ : Mu) (w : World) (s : Sem Value) (a : AV) (h' : Heap) : Prop :=
  ∃ μ' w' v, s.run P w = .ok v w' ∧ μ.le μ' ∧ Sim w0 μ' h' w' ∧ VR μ' a v

theorem OpTo.plain {s : Sem Value} {a : AV} {v : Value} (S : Sim w0 μ h w) (e : s.run P w = .ok v w) (hv : VR μ a v) : OpTo P w0 μ w s a h :=
  ⟨μ, w, v, e, Mu.le_refl _, S, hv⟩

/-! ### numbers and strings -/
def scal : AV → Value
  | .int k n => .int k n
  | .bool b => .bool b
  | .str s => .string ⟨s.toArray⟩
  | _ => undef

theorem intOp_run {op : BinOp} {k : IntKind} {x y : Int} {a : AV} (e : intOp op k x y = some a) (t : TypeId) :
    (∀ w, (binOp op t (.int k x) (.int k y)).run P w = .ok (scal a) w) ∧ ∀ μ, VR μ a (scal a) := by
  cases op <;> simp only [intOp] at e <;> first
    | (simp at e; done)
    | (split at e
       · simp at e
       · rename_i h0
         simp only [Option.some.injEq] at e; subst e
         exact ⟨fun w => by simp [binOp, Op.intDiv, h0, scal], fun μ => by simp [VR, scal]⟩)
    | (simp only [Option.some.injEq] at e; subst e
       exact ⟨fun w => by simp [binOp, Op.intArith, Op.intBits, Op.intCmp, scal], fun μ => by simp [VR, scal]⟩)

theorem shiftOp_run {op : BinOp} {k k' : IntKind} {x y : Int} {a : AV} (e : shiftOp op k x y = some a) (hs : op = .shl ∨ op = .shr) (t : TypeId) :
    (∀ w, (binOp op t (.int k x) (.int k' y)).run P w = .ok (scal a) w) ∧ ∀ μ, VR μ a (scal a) := by
  unfold shiftOp at e
  split at e
  · simp at e
  · rename_i hy
    rcases hs with rfl | rfl
    · simp only [Option.some.injEq] at e; subst e
      exact ⟨fun w => by simp [binOp, Op.shift, hy, scal], fun μ => by simp [VR, scal]⟩
    · simp only [Option.some.injEq] at e; subst e
      exact ⟨fun w => by simp [binOp, Op.shift, hy, scal], fun μ => by simp [VR, scal]⟩

theorem toList_mk (l : List UInt8) : (⟨l.toArray⟩ : ByteArray).toList = l := by
  rw [ByteArray.toList_eq]

theorem size_mk (l : List UInt8) : (⟨l.toArray⟩ : ByteArray).size = l.length := by simp [ByteArray.size]

theorem strOp_run {op : BinOp} {x y : List UInt8} {a : AV} (e : strOp op x y = some a) (t : TypeId) :
    (∀ w, (binOp op t (.string ⟨x.toArray⟩) (.string ⟨y.toArray⟩)).run P w = .ok (scal a) w) ∧ ∀ μ, VR μ a (scal a) := by
  cases op <;> simp only [strOp] at e <;> try (simp at e; done)
  · split at e
    · simp at e
    · rename_i hn
      simp only [Option.some.injEq] at e; subst e
      refine ⟨fun w => ?_, fun μ => by simp [VR, scal]⟩
      have hm : IntKind.i64.max = 9223372036854775807 := by decide
      have ha : (⟨x.toArray⟩ : ByteArray) ++ ⟨y.toArray⟩ = ⟨(x ++ y).toArray⟩ := by
        apply ByteArray.ext
        simp
      simp only [binOp, Op.stringOp, size_mk, hm]
      rw [if_neg hn, ha]; rfl
  all_goals
    simp only [Option.some.injEq] at e; subst e
    exact ⟨fun w => by simp [binOp, Op.stringOp, scal], fun μ => by simp [VR, scal]⟩

/-! ### equality -/
theorem VR.ptr_some {b o : Nat} {v : Value} (h : VR μ (.ptr (some (b, o))) v) : ∃ L, μ b = some L ∧ v = .pointer (some ⟨L.blk, L.base + o, none⟩) := by
  simpa only [VR] using h

theorem under_of {t : Nat} {ti : TI} (k : TypeOk P t ti) : ∃ d, P.underlying t = some d ∧ ti.kind = TK.of d := k.under

theorem TK.of_bool {d : TypeDesc} (e : TK.of d = .bool) : d = .bool := by cases d <;> simp_all [TK.of]
theorem TK.of_int {d : TypeDesc} {k : IntKind} (e : TK.of d = .int k) : d = .int k := by cases d <;> simp_all [TK.of]
theorem TK.of_str {d : TypeDesc} (e : TK.of d = .str) : d = .string := by cases d <;> simp_all [TK.of]
theorem TK.of_ptr {d : TypeDesc} {k : Nat} (e : TK.of d = .ptr k) : d = .pointer k := by cases d <;> simp_all [TK.of]
theorem TK.of_slc {d : TypeDesc} {k : Nat} (e : TK.of d = .slc k) : d = .slice k := by cases d <;> simp_all [TK.of]
theorem TK.of_arr {d : TypeDesc} {n k : Nat} (e : TK.of d = .arr n k) : d = .array n k := by cases d <;> simp_all [TK.of]
theorem TK.of_map {d : TypeDesc} {n k : Nat} (e : TK.of d = .map n k) : d = .map n k := by cases d <;> simp_all [TK.of]
theorem TK.of_func {d : TypeDesc} (e : TK.of d = .func) : ∃ a b c, d = .func a b c := by cases d <;> simp_all [TK.of]
theorem TK.of_strct {d : TypeDesc} {fs : List (Bool × Nat × Nat)} (e : TK.of d = .strct fs) : ∃ gs : Array Field, d = .struct gs ∧ fs = gs.toList.map fun f => (f.name == "_", f.type, f.offset) := by
  cases d <;> simp_all [TK.of]

theorem eqFields_run (hT : TypesOk P T) {d e : Nat} (ih : ∀ t x y b vx vy, eqv T d t x y = some b → VR μ x vx → VR μ y vy → ∀ w, (Op.equalIn (d + e) t vx vy).run P w = .ok b w)
    {xs ys : List AV} {vxs vys : Array Value} (hx : VRs μ xs vxs.toList) (hy : VRs μ ys vys.toList) : ∀ (gs : List Field) (b : Bool),
    eqFs T (eqv T d) xs ys (gs.map fun f => (f.name == "_", f.type, f.offset)) = some b → ∀ w, (Op.eqFields (d + e) vxs vys gs).run P w = .ok b w
  | [], b, e1, w => by simp [eqFs] at e1; simp [Op.eqFields, e1]
  | g :: gs, b, e1, w => by
    simp only [List.map_cons, eqFs] at e1
    by_cases hn : g.name = "_"
    · simp only [hn, beq_self_eq_true, if_true] at e1
      simp only [Op.eqFields, hn, ne_eq, not_true_eq_false, if_false]
      exact eqFields_run hT ih hx hy gs b e1 w
    · have hb : (g.name == "_") = false := by simpa using hn
      rw [hb] at e1
      simp only [Bool.false_eq_true, if_false] at e1
      split at e1
      · rename_i a c ha hc
        obtain ⟨va, r1, r2⟩ := run_part (P := P) hT hx ha
        obtain ⟨vc, r3, r4⟩ := run_part (P := P) hT hy hc
        split at e1
        · rename_i hq
          simp only [Op.eqFields, ne_eq, hn, not_false_eq_true, if_true, Sem.run_bind, r1, r3, Result.andThen_ok, ih _ _ _ _ _ _ hq r2 r4]
          simp only [Bool.not_true, Bool.false_eq_true, if_false]
          exact eqFields_run hT ih hx hy gs b e1 w
        · rename_i hq
          simp at e1; subst e1
          simp only [Op.eqFields, ne_eq, hn, not_false_eq_true, if_true, Sem.run_bind, r1, r3, Result.andThen_ok, ih _ _ _ _ _ _ hq r2 r4]
          simp
        · simp at e1
      · simp at e1

theorem eqv_run (hT : TypesOk P T) (e : Nat) : ∀ (d t : Nat) (x y : AV) (b : Bool) (vx vy : Value), eqv T d t x y = some b → VR μ x vx → VR μ y vy → ∀ w, (Op.equalIn (d + e) t vx vy).run P w = .ok b w
  | 0, t, x, y, b, vx, vy, h, _, _ => by simp [eqv] at h
  | d + 1, t, x, y, b, vx, vy, hq, hx, hy => by
    intro w
    have ih := eqv_run hT e d
    rw [show d + 1 + e = (d + e) + 1 by omega]
    unfold eqv at hq
    split at hq
    · simp at hq
    · rename_i ti ht
      have k := hT _ _ ht
      obtain ⟨dd, hu, hk⟩ := k.under
      split at hq
      · rename_i a c hk'
        simp only [VR] at hx hy; subst hx hy; simp at hq; subst hq
        rw [hk'] at hk; have hd := TK.of_bool hk.symm; subst hd
        simp [Op.equalIn, run_under hu]
      · rename_i k1 k2 a k3 c hk'
        simp only [VR] at hx hy; subst hx hy
        split at hq
        · rename_i hkk; simp at hq; subst hq
          rw [hk'] at hk; have hd := TK.of_int hk.symm; subst hd
          simp [Op.equalIn, run_under hu, hkk]
        · simp at hq
      · rename_i a c hk'
        simp only [VR] at hx hy; subst hx hy; simp at hq; subst hq
        rw [hk'] at hk; have hd := TK.of_str hk.symm; subst hd
        simp [Op.equalIn, run_under hu, beq_toListBytes]
      · rename_i e1 c hk'
        rw [hk'] at hk; have hd := TK.of_ptr hk.symm; subst hd
        simp only [VR] at hx; subst hx
        cases c with
        | none => simp only [VR] at hy; subst hy; simp at hq; subst hq; simp [Op.equalIn, run_under hu]
        | some p => obtain ⟨b1, o1⟩ := p; simp only [VR] at hy; obtain ⟨L, _, rfl⟩ := hy; simp at hq; subst hq; simp [Op.equalIn, run_under hu]
      · rename_i e1 p hk'
        rw [hk'] at hk; have hd := TK.of_ptr hk.symm; subst hd
        obtain ⟨b1, o1⟩ := p
        simp only [VR] at hx hy; obtain ⟨L, _, rfl⟩ := hx; subst hy; simp at hq; subst hq
        simp [Op.equalIn, run_under hu]
      · rename_i e1 n1 c1 z1 c n2 c2 z2 hk'
        rw [hk'] at hk; have hd := TK.of_slc hk.symm; subst hd
        simp only [VR] at hx; obtain ⟨c3, _, _, rfl⟩ := hx
        cases c with
        | none => simp only [VR] at hy; obtain ⟨c4, _, _, rfl⟩ := hy; simp at hq; subst hq; simp [Op.equalIn, run_under hu]
        | some p => obtain ⟨b1, o1⟩ := p; simp only [VR] at hy; obtain ⟨L, _, _, _, rfl, _⟩ := hy; simp at hq; subst hq; simp [Op.equalIn, run_under hu]
      · rename_i e1 p n1 c1 z1 n2 c2 z2 hk'
        rw [hk'] at hk; have hd := TK.of_slc hk.symm; subst hd
        obtain ⟨b1, o1⟩ := p
        simp only [VR] at hx hy; obtain ⟨L, _, _, _, rfl, _⟩ := hx; obtain ⟨c4, _, _, rfl⟩ := hy; simp at hq; subst hq
        simp [Op.equalIn, run_under hu]
      · rename_i e1 e2 c hk'
        rw [hk'] at hk; have hd := TK.of_map hk.symm; subst hd
        simp only [VR] at hx; subst hx
        cases c with
        | none => simp only [VR] at hy; subst hy; simp at hq; subst hq; simp [Op.equalIn, run_under hu]
        | some p => simp only [VR] at hy; obtain ⟨L, _, rfl⟩ := hy; simp at hq; subst hq; simp [Op.equalIn, run_under hu]
      · rename_i e1 e2 p hk'
        rw [hk'] at hk; have hd := TK.of_map hk.symm; subst hd
        simp only [VR] at hx hy; obtain ⟨L, _, rfl⟩ := hx; subst hy; simp at hq; subst hq
        simp [Op.equalIn, run_under hu]
      · rename_i hk'
        rw [hk'] at hk; obtain ⟨_, _, _, hd⟩ := TK.of_func hk.symm; subst hd
        simp only [VR] at hx hy; subst hx hy; simp at hq; subst hq
        simp [Op.equalIn, run_under hu]
      · rename_i f1 caps hk'
        rw [hk'] at hk; obtain ⟨_, _, _, hd⟩ := TK.of_func hk.symm; subst hd
        simp only [VR] at hx; subst hx; simp at hq; subst hq
        cases f1 with
        | func f => simp only [VR] at hy; obtain ⟨_, _, rfl⟩ := hy; simp [Op.equalIn, run_under hu]
        | yield l => simp only [VR] at hy; obtain ⟨_, _, _, rfl⟩ := hy; simp [Op.equalIn, run_under hu]
        | method _ => simp [VR] at hy
        | methodOf _ _ => simp [VR] at hy
        | via _ _ _ _ => simp [VR] at hy
      · rename_i f1 caps hk'
        rw [hk'] at hk; obtain ⟨_, _, _, hd⟩ := TK.of_func hk.symm; subst hd
        simp only [VR] at hy; subst hy; simp at hq; subst hq
        cases f1 with
        | func f => simp only [VR] at hx; obtain ⟨_, _, rfl⟩ := hx; simp [Op.equalIn, run_under hu]
        | yield l => simp only [VR] at hx; obtain ⟨_, _, _, rfl⟩ := hx; simp [Op.equalIn, run_under hu]
        | method _ => simp [VR] at hx
        | methodOf _ _ => simp [VR] at hx
        | via _ _ _ _ => simp [VR] at hx
      · rename_i fs xs ys hk'
        rw [hk'] at hk; obtain ⟨gs, hd, hfs⟩ := TK.of_strct hk.symm; subst hd
        simp only [VR] at hx hy; obtain ⟨vxs, hx, rfl⟩ := hx; obtain ⟨vys, hy, rfl⟩ := hy
        split at hq
        · rename_i hok
          have hfo : P.fieldsOf t = gs := by simp [Program.fieldsOf, hu]
          rw [run_equalIn_struct w (d + e) t vxs vys (by rw [hfo]; exact hu) (k.eq hok).2, hfo]
          subst hfs
          exact eqFields_run hT ih hx hy gs.toList b hq w
        · simp at hq
      · simp at hq

end Go.Am
