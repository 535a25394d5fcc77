/-
  The abstract machine: drawn regions of which the last operation may change what was read (it stands behind all others).
-/
import Derived.Test.YtaockkmmjinhpaaAmUr
set_option linter.unusedVariables false
namespace Go.Am
open Go
variable {T : TT} {F : Nat → Option Func}

def UZ (T : TT) (F : Nat → Option Func) (P : Nat → Prop) (all : List Oper) (bf : List Nat) (base : Nat) : List Oper → Nat → List AV → Heap → List (Nat × Blk) → Nat → (List AV → Heap → Prop) → Prop
  | [], _, s, h, nb, msk, Q => Q s (putsA base (nb.filter fun p => !msk.testBit p.1) h)
  | o :: l, i, s, h, nb, msk, Q =>
    match dkind T o.op with
    | .eff => UL T F all [o] s (heapFor base nb (bf.getD i 0) msk h) fun s' h' => ((∀ b, P b → h'.get b = h.get b) ∨ lastB all bf i = true) ∧ UZ T F P all bf base l (i + 1) s' h' nb (msk ||| bf.getD i 0) Q
    | .new =>
      (wantedA o all s = true → match allocA T (evalO s) o.op (base + i) with
        | some (v, b) => UZ T F P all bf base l (i + 1) (putA s o.dst v) h (nb ++ [(i, b)]) msk Q
        | none => False) ∧
      (wantedA o all s = false → UZ T F P all bf base l (i + 1) (putA s o.dst undefA) h nb msk Q)
    | .quiet =>
      (wantedA o all s = true → ∃ v, (FirmN T (evalO s) o.op P h v base nb (bf.getD i 0) all bf i ∨ safeB T all bf i = true ∧ opA T (evalO s) o.op (heapFor base nb (bf.getD i 0) msk h) = some (v, heapFor base nb (bf.getD i 0) msk h)) ∧ UZ T F P all bf base l (i + 1) (putA s o.dst v) h nb msk Q) ∧
      (wantedA o all s = false → UZ T F P all bf base l (i + 1) (putA s o.dst undefA) h nb msk Q)
    | .no => False
theorem UD_of_UZ {P : Nat → Prop} {all : List Oper} {bf : List Nat} {base : Nat} {h0 : Heap} {Q : List AV → Heap → Prop} (hP : ∀ b, P b → b < base) : ∀ {l : List Oper} {i : Nat} {st : DSt} (_ : all.drop i = l) (_ : i ≤ all.length) (_ : WInv T P all bf base h0 i st) (_ : UZ T F P all bf base l i st.s st.h st.nb st.msk Q),
    UD T F all bf base l i st fun st' => WInv T P all bf base h0 all.length st' ∧ Q st'.s (putsA base (st'.nb.filter fun p => !st'.msk.testBit p.1) st'.h)
  | [], i, st, hd, hle, I, w => by
    have hi : all.length ≤ i := by
      have := congrArg List.length hd
      simp at this; omega
    have : i = all.length := by omega
    exact ⟨this ▸ I, w⟩
  | o :: l, i, st, hd, hle, I, w => by
    have hk : all[i]? = some o := by
      have := congrArg (fun x => x[0]?) hd
      simpa using this
    have hd' : all.drop (i + 1) = l := by
      have := congrArg (List.drop 1) hd
      simpa [List.drop_drop, Nat.add_comm] using this
    have hlt : i + 1 ≤ all.length := (List.getElem?_eq_some_iff.1 hk).1
    have hold : ∀ b, P b → st.h.get b = h0.get b := fun b hb => (I.old (st.msk, st.h) (by simp)).resolve_right (fun x => by omega) b hb
    have hat : effAt T all i = (dkind T o.op == .eff) := by simp only [effAt, hk]
    unfold UZ at w
    unfold UD
    split at w
    · rename_i hkd
      simp only [hkd]
      refine w.mono fun s' h' ⟨q1, q2⟩ => ?_
      exact UD_of_UZ hP hd' hlt (I.eff hlt (by rw [hat, hkd]; rfl) (q1.imp (fun q1 b hb => (q1 b hb).trans (hold b hb)) id)) q2
    · rename_i hkd
      simp only [hkd]
      have hne : effAt T all i = false := by rw [hat, hkd]; rfl
      refine ⟨fun hw => ?_, fun hw => ?_⟩
      · have w1 := w.1 hw
        split at w1
        · rename_i v b hv
          rw [hv]
          refine UD_of_UZ hP hd' hlt (I.next hlt rfl hne rfl rfl rfl (.inr ⟨b, rfl⟩) fun o' ho' hq' => ?_) w1
          rw [hk] at ho'; simp only [Option.some.injEq] at ho'; subst ho'
          rw [hkd] at hq'; simp at hq'
        · exact w1.elim
      · refine UD_of_UZ hP hd' hlt (I.next hlt rfl hne rfl rfl rfl (.inl rfl) fun o' ho' hq' => ?_) (w.2 hw)
        rw [hk] at ho'; simp only [Option.some.injEq] at ho'; subst ho'
        rw [hkd] at hq'; simp at hq'
    · rename_i hkd
      simp only [hkd]
      have hne : effAt T all i = false := by rw [hat, hkd]; rfl
      refine ⟨fun hw => ?_, fun hw => ?_⟩
      · obtain ⟨v, hf, w1⟩ := w.1 hw
        have hv : opA T (evalO st.s) o.op (heapFor base st.nb (bf.getD i 0) st.msk st.h) = some (v, heapFor base st.nb (bf.getD i 0) st.msk st.h) := hf.elim (fun hf => hf.elim (fun hf => hf _ fun b hb => heapFor_get (hP b hb)) fun ⟨a, blk, n1, n2, n3, n4⟩ => n4 _ (heapFor_new I.unq n2 n3 ((I.msk0 a i n1 (st.msk, st.h) (by simp)).2 (Nat.le_refl _)))) fun hf => hf.2
        rw [hv]
        refine UD_of_UZ hP hd' hlt (I.next hlt rfl hne rfl rfl rfl (.inl rfl) fun o' ho' _ _ => ?_) w1
        rw [hk] at ho'; simp only [Option.some.injEq] at ho'; subst ho'
        exact ⟨rfl, v, hf.imp (fun hf => hf.imp (fun hf g hg => hf g fun b hb => (hg b hb).trans (hold b hb).symm) id) fun hf => ⟨hf.1, _, hf.2⟩, rfl⟩
      · refine UD_of_UZ hP hd' hlt (I.next hlt rfl hne rfl rfl rfl (.inl rfl) fun o' ho' _ hw' => ?_) (w.2 hw)
        rw [hk] at ho'; simp only [Option.some.injEq] at ho'; subst ho'
        rw [hw] at hw'; simp at hw'
    · exact w.elim
theorem DrawZ_of (P : Nat → Prop) {ops : Array Oper} {fn : Nat} {ro : Option Nat} {i : Nat} {s : List AV} {ms : List Nat} {h : Heap} {Q : AE → Frm → Prop} (hd : drawOk T ops = true) (hP : ∀ b, P b → b < h.nxt)
    (w : UZ T F P ops.toList (befores ops.toList []) h.nxt ops.toList 0 s (h.bump ops.size) [] 0 fun s h => Q .normal ⟨s, ms, h⟩) : @DrawU T F ⟨s, ms, h⟩ ⟨fn, ro, .region i ops true, Q⟩ := by
  show UP T F fn ro (.region i ops true) ⟨s, ms, h⟩ Q
  rw [UP_drawn]
  refine ⟨hd, ?_⟩
  have := UD_of_UZ hP (all := ops.toList) (bf := befores ops.toList []) (base := h.nxt) (h0 := h.bump ops.size) (st := ⟨[], s, [], 0, h.bump ops.size, []⟩) (i := 0) rfl (Nat.zero_le _) ⟨rfl, rfl, fun q hq => .inl fun b hb => by
    simp only [List.nil_append, List.mem_singleton] at hq; subst hq; rfl, by simp, .nil, fun a _ _ q hq => (by simp only [List.nil_append, List.mem_singleton] at hq; subst hq; simp), fun j hj => absurd hj (Nat.not_lt_zero _)⟩ w
  exact this.mono fun st ⟨I, q⟩ => ⟨I.chk hP, q⟩
section
variable {P : Nat → Prop} {all l : List Oper} {bf : List Nat} {base i msk : Nat} {s : List AV} {h : Heap} {nb : List (Nat × Blk)} {Q : List AV → Heap → Prop} {d : Option Nat} {op : Op} {ty : TypeId} {pos : String} {after : Array Edge}
theorem UZ_pure (hk : dkind T op = .quiet) (hp : pureOp T op = true) : UZ T F P all bf base (⟨d, op, ty, pos, after, none⟩ :: l) i s h nb msk Q = @OBk (opA T (evalO s) op h) ⟨fun v _ => @SetK (putA s d v) h ⟨fun s h => UZ T F P all bf base l (i + 1) s h nb msk Q⟩⟩ := by
  rw [UZ]
  simp only [hk, wantedA, true_imp_iff, Bool.true_eq_false, false_imp_iff, and_true, OBk, OB, SetK]
  refine propext ⟨fun ⟨v, hf, w⟩ => ?_, fun w => ?_⟩
  · have : opA T (evalO s) op h = some (v, h) := hf.elim (fun hf => hf.elim (fun hf => hf h fun _ _ => rfl) fun ⟨a, blk, _, _, _, n4⟩ => pure_any hp (n4 (h.put (base + a) blk) (by rw [Heap.get_put, if_pos rfl])) h) fun hf => pure_any hp hf.2 h
    rw [this]; exact w
  · cases hx : opA T (evalO s) op h with
    | none => rw [hx] at w; exact w.elim
    | some p =>
      rw [hx] at w
      obtain ⟨v, h'⟩ := p
      exact ⟨v, .inl (.inl fun g _ => pure_any hp hx g), w⟩
@[go_sem ↓] theorem UZ_move {x} : UZ T F P all bf base (⟨d, .move x, ty, pos, after, none⟩ :: l) i s h nb msk Q = @OBk (opA T (evalO s) (.move x) h) ⟨fun v _ => @SetK (putA s d v) h ⟨fun s h => UZ T F P all bf base l (i + 1) s h nb msk Q⟩⟩ := UZ_pure rfl rfl
@[go_sem ↓] theorem UZ_assign {x} : UZ T F P all bf base (⟨d, .assign x, ty, pos, after, none⟩ :: l) i s h nb msk Q = @OBk (opA T (evalO s) (.assign x) h) ⟨fun v _ => @SetK (putA s d v) h ⟨fun s h => UZ T F P all bf base l (i + 1) s h nb msk Q⟩⟩ := UZ_pure rfl rfl
@[go_sem ↓] theorem UZ_binOp {op t x y e} : UZ T F P all bf base (⟨d, .binOp op t x y e, ty, pos, after, none⟩ :: l) i s h nb msk Q = @OBk (opA T (evalO s) (.binOp op t x y e) h) ⟨fun v _ => @SetK (putA s d v) h ⟨fun s h => UZ T F P all bf base l (i + 1) s h nb msk Q⟩⟩ := UZ_pure rfl rfl
@[go_sem ↓] theorem UZ_unOp {op t x} : UZ T F P all bf base (⟨d, .unOp op t x, ty, pos, after, none⟩ :: l) i s h nb msk Q = @OBk (opA T (evalO s) (.unOp op t x) h) ⟨fun v _ => @SetK (putA s d v) h ⟨fun s h => UZ T F P all bf base l (i + 1) s h nb msk Q⟩⟩ := UZ_pure rfl rfl
@[go_sem ↓] theorem UZ_extract {x i} : UZ T F P all bf base (⟨d, .extract x i, ty, pos, after, none⟩ :: l) i s h nb msk Q = @OBk (opA T (evalO s) (.extract x i) h) ⟨fun v _ => @SetK (putA s d v) h ⟨fun s h => UZ T F P all bf base l (i + 1) s h nb msk Q⟩⟩ := UZ_pure rfl rfl
@[go_sem ↓] theorem UZ_build {t x} : UZ T F P all bf base (⟨d, .build t x, ty, pos, after, none⟩ :: l) i s h nb msk Q = @OBk (opA T (evalO s) (.build t x) h) ⟨fun v _ => @SetK (putA s d v) h ⟨fun s h => UZ T F P all bf base l (i + 1) s h nb msk Q⟩⟩ := UZ_pure rfl rfl
@[go_sem ↓] theorem UZ_nilCheck {x} : UZ T F P all bf base (⟨d, .nilCheck x, ty, pos, after, none⟩ :: l) i s h nb msk Q = @OBk (opA T (evalO s) (.nilCheck x) h) ⟨fun v _ => @SetK (putA s d v) h ⟨fun s h => UZ T F P all bf base l (i + 1) s h nb msk Q⟩⟩ := UZ_pure rfl rfl
@[go_sem ↓] theorem UZ_slice {t x a b c} : UZ T F P all bf base (⟨d, .slice t x a b c, ty, pos, after, none⟩ :: l) i s h nb msk Q = @OBk (opA T (evalO s) (.slice t x a b c) h) ⟨fun v _ => @SetK (putA s d v) h ⟨fun s h => UZ T F P all bf base l (i + 1) s h nb msk Q⟩⟩ := UZ_pure rfl rfl
@[go_sem ↓] theorem UZ_fieldAddr {t x f} : UZ T F P all bf base (⟨d, .fieldAddr t x f, ty, pos, after, none⟩ :: l) i s h nb msk Q = @OBk (opA T (evalO s) (.fieldAddr t x f) h) ⟨fun v _ => @SetK (putA s d v) h ⟨fun s h => UZ T F P all bf base l (i + 1) s h nb msk Q⟩⟩ := UZ_pure rfl rfl
@[go_sem ↓] theorem UZ_field {t x f} : UZ T F P all bf base (⟨d, .field t x f, ty, pos, after, none⟩ :: l) i s h nb msk Q = @OBk (opA T (evalO s) (.field t x f) h) ⟨fun v _ => @SetK (putA s d v) h ⟨fun s h => UZ T F P all bf base l (i + 1) s h nb msk Q⟩⟩ := UZ_pure rfl rfl
@[go_sem ↓] theorem UZ_indexAddr {t x f} : UZ T F P all bf base (⟨d, .indexAddr t x f, ty, pos, after, none⟩ :: l) i s h nb msk Q = @OBk (opA T (evalO s) (.indexAddr t x f) h) ⟨fun v _ => @SetK (putA s d v) h ⟨fun s h => UZ T F P all bf base l (i + 1) s h nb msk Q⟩⟩ := UZ_pure rfl rfl
@[go_sem ↓] theorem UZ_index {t x f} : UZ T F P all bf base (⟨d, .index t x f, ty, pos, after, none⟩ :: l) i s h nb msk Q = @OBk (opA T (evalO s) (.index t x f) h) ⟨fun v _ => @SetK (putA s d v) h ⟨fun s h => UZ T F P all bf base l (i + 1) s h nb msk Q⟩⟩ := UZ_pure rfl rfl
@[go_sem ↓] theorem UZ_pick {c x y} : UZ T F P all bf base (⟨d, .pick c x y, ty, pos, after, none⟩ :: l) i s h nb msk Q = @OBk (opA T (evalO s) (.pick c x y) h) ⟨fun v _ => @SetK (putA s d v) h ⟨fun s h => UZ T F P all bf base l (i + 1) s h nb msk Q⟩⟩ := UZ_pure rfl rfl
@[go_sem ↓] theorem UZ_makeFunc {c x y} : UZ T F P all bf base (⟨d, .makeFunc c x y, ty, pos, after, none⟩ :: l) i s h nb msk Q = @OBk (opA T (evalO s) (.makeFunc c x y) h) ⟨fun v _ => @SetK (putA s d v) h ⟨fun s h => UZ T F P all bf base l (i + 1) s h nb msk Q⟩⟩ := UZ_pure rfl rfl
@[go_sem ↓] theorem UZ_makeInterface {t x} : UZ T F P all bf base (⟨d, .makeInterface t x, ty, pos, after, none⟩ :: l) i s h nb msk Q = @OBk (opA T (evalO s) (.makeInterface t x) h) ⟨fun v _ => @SetK (putA s d v) h ⟨fun s h => UZ T F P all bf base l (i + 1) s h nb msk Q⟩⟩ := UZ_pure rfl rfl
@[go_sem ↓] theorem UZ_min {args ts} : UZ T F P all bf base (⟨d, .call { callee := .builtin .min, args, argTypes := ts }, ty, pos, after, none⟩ :: l) i s h nb msk Q = @OBk (opA T (evalO s) (.call { callee := .builtin .min, args, argTypes := ts }) h) ⟨fun v _ => @SetK (putA s d v) h ⟨fun s h => UZ T F P all bf base l (i + 1) s h nb msk Q⟩⟩ := UZ_pure rfl rfl
@[go_sem ↓] theorem UZ_max {args ts} : UZ T F P all bf base (⟨d, .call { callee := .builtin .max, args, argTypes := ts }, ty, pos, after, none⟩ :: l) i s h nb msk Q = @OBk (opA T (evalO s) (.call { callee := .builtin .max, args, argTypes := ts }) h) ⟨fun v _ => @SetK (putA s d v) h ⟨fun s h => UZ T F P all bf base l (i + 1) s h nb msk Q⟩⟩ := UZ_pure rfl rfl
@[go_sem ↓] theorem UZ_len {args t} : UZ T F P all bf base (⟨d, .call { callee := .builtin .len, args, argTypes := ⟨[t]⟩ }, ty, pos, after, none⟩ :: l) i s h nb msk Q = @condK (some (.bool (lenPure T t)))
    ⟨@OBk (opA T (evalO s) (.call { callee := .builtin .len, args, argTypes := ⟨[t]⟩ }) h) ⟨fun v _ => @SetK (putA s d v) h ⟨fun s h => UZ T F P all bf base l (i + 1) s h nb msk Q⟩⟩, UZ T F P all bf base (⟨d, .call { callee := .builtin .len, args, argTypes := ⟨[t]⟩ }, ty, pos, after, none⟩ :: l) i s h nb msk Q⟩ := by
  cases hp : lenPure T t with
  | true =>
    rw [condK_true]
    exact UZ_pure (op := .call { callee := .builtin .len, args, argTypes := ⟨[t]⟩ }) rfl hp
  | false => rw [condK_false]; exact rfl
@[go_sem ↓] theorem UZ_load' {t x} : UZ T F P all bf base (⟨d, .load t x, ty, pos, after, none⟩ :: l) i s h nb msk Q = @LoadK ⟨UZ T F P all bf base (⟨d, .load t x, ty, pos, after, none⟩ :: l) i s h nb msk Q⟩ := propext Iff.rfl
theorem LoadK_ofZ {t x b o} (hx : evalO s x = some (.ptr (some (b, o)))) (hb : P b) (w : @OBk (opA T (evalO s) (.load t x) h) ⟨fun v _ => @SetK (putA s d v) h ⟨fun s h => UZ T F P all bf base l (i + 1) s h nb msk Q⟩⟩) :
    @LoadK ⟨UZ T F P all bf base (⟨d, .load t x, ty, pos, after, none⟩ :: l) i s h nb msk Q⟩ := by
  show UZ T F P all bf base (⟨d, .load t x, ty, pos, after, none⟩ :: l) i s h nb msk Q
  rw [UZ]
  simp only [dkind, wantedA, true_imp_iff, Bool.true_eq_false, false_imp_iff, and_true]
  simp only [opA, hx, OBk, OB, SetK] at w
  cases hl : loadVar T h t b o with
  | none => rw [hl] at w; exact w.elim
  | some v =>
    rw [hl] at w
    refine ⟨v, .inl (.inl fun g hg => ?_), w⟩
    simp only [opA, hx]
    rw [load_any (hg b hb), hl]
theorem LoadK_newJZ {t x a o blk} (hx : evalO s x = some (.ptr (some (base + a, o)))) (hn : newJ T all bf a i = true) (hm : (a, blk) ∈ nb) (hb : (bf.getD i 0).testBit a = true) (w : @OBk (opA T (evalO s) (.load t x) (h.put (base + a) blk)) ⟨fun v _ => @SetK (putA s d v) h ⟨fun s h => UZ T F P all bf base l (i + 1) s h nb msk Q⟩⟩) :
    @LoadK ⟨UZ T F P all bf base (⟨d, .load t x, ty, pos, after, none⟩ :: l) i s h nb msk Q⟩ := by
  show UZ T F P all bf base (⟨d, .load t x, ty, pos, after, none⟩ :: l) i s h nb msk Q
  rw [UZ]
  simp only [dkind, wantedA, true_imp_iff, Bool.true_eq_false, false_imp_iff, and_true]
  simp only [opA, hx, OBk, OB, SetK] at w
  cases hl : loadVar T (h.put (base + a) blk) t (base + a) o with
  | none => rw [hl] at w; exact w.elim
  | some v =>
    rw [hl] at w
    refine ⟨v, .inl (.inr ⟨a, blk, hn, hm, hb, fun g hg => ?_⟩), w⟩
    simp only [opA, hx]
    rw [load_any (hg.trans (by rw [Heap.get_put, if_pos rfl] : some blk = (h.put (base + a) blk).get (base + a))), hl]
theorem UZ_eff (hk : dkind T op = .eff) : UZ T F P all bf base (⟨d, op, ty, pos, after, none⟩ :: l) i s h nb msk Q = UK T F op s (heapFor base nb (bf.getD i 0) msk h) fun v h' => ((∀ b, P b → h'.get b = h.get b) ∨ lastB all bf i = true) ∧ @SetK (putA s d v) h' ⟨fun s h' => UZ T F P all bf base l (i + 1) s h' nb (msk ||| bf.getD i 0) Q⟩ := by
  rw [UZ]
  simp only [hk, UL_op, UL_nil, SetK]
@[go_sem ↓] theorem UZ_call {f args ts} : UZ T F P all bf base (⟨d, .call { callee := .value f, args, argTypes := ts }, ty, pos, after, none⟩ :: l) i s h nb msk Q = UK T F (.call { callee := .value f, args, argTypes := ts }) s (heapFor base nb (bf.getD i 0) msk h) fun v h' => ((∀ b, P b → h'.get b = h.get b) ∨ lastB all bf i = true) ∧ @SetK (putA s d v) h' ⟨fun s h' => UZ T F P all bf base l (i + 1) s h' nb (msk ||| bf.getD i 0) Q⟩ := UZ_eff rfl
@[go_sem ↓] theorem UZ_append {args ts} : UZ T F P all bf base (⟨d, .call { callee := .builtin .append, args, argTypes := ts }, ty, pos, after, none⟩ :: l) i s h nb msk Q = UK T F (.call { callee := .builtin .append, args, argTypes := ts }) s (heapFor base nb (bf.getD i 0) msk h) fun v h' => ((∀ b, P b → h'.get b = h.get b) ∨ lastB all bf i = true) ∧ @SetK (putA s d v) h' ⟨fun s h' => UZ T F P all bf base l (i + 1) s h' nb (msk ||| bf.getD i 0) Q⟩ := UZ_eff rfl
@[go_sem ↓] theorem UZ_store {t x y} : UZ T F P all bf base (⟨d, .store t x y, ty, pos, after, none⟩ :: l) i s h nb msk Q = UK T F (.store t x y) s (heapFor base nb (bf.getD i 0) msk h) fun v h' => ((∀ b, P b → h'.get b = h.get b) ∨ lastB all bf i = true) ∧ @SetK (putA s d v) h' ⟨fun s h' => UZ T F P all bf base l (i + 1) s h' nb (msk ||| bf.getD i 0) Q⟩ := UZ_eff rfl
@[go_sem ↓] theorem UZ_nil : UZ T F P all bf base [] i s h nb msk Q = @SetK s (putsF base nb msk h) ⟨Q⟩ := propext Iff.rfl
theorem UZ_new (hk : dkind T op = .new) : UZ T F P all bf base (⟨d, op, ty, pos, after, none⟩ :: l) i s h nb msk Q = @AllocK (allocA T (evalO s) op (base + i)) ⟨fun v b => @SetK (putA s d v) h ⟨fun s h => UZ T F P all bf base l (i + 1) s h (nb ++ [(i, b)]) msk Q⟩⟩ := by
  rw [UZ]
  simp only [hk, wantedA, true_imp_iff, Bool.true_eq_false, false_imp_iff, and_true, AllocK, SetK]
  rfl
@[go_sem ↓] theorem UZ_buildSlice {t n x} : UZ T F P all bf base (⟨d, .buildSlice t n x, ty, pos, after, none⟩ :: l) i s h nb msk Q = @AllocK (allocA T (evalO s) (.buildSlice t n x) (base + i)) ⟨fun v b => @SetK (putA s d v) h ⟨fun s h => UZ T F P all bf base l (i + 1) s h (nb ++ [(i, b)]) msk Q⟩⟩ := UZ_new rfl
@[go_sem ↓] theorem UZ_alloc {t} : UZ T F P all bf base (⟨d, .alloc t, ty, pos, after, none⟩ :: l) i s h nb msk Q = @AllocK (allocA T (evalO s) (.alloc t) (base + i)) ⟨fun v b => @SetK (putA s d v) h ⟨fun s h => UZ T F P all bf base l (i + 1) s h (nb ++ [(i, b)]) msk Q⟩⟩ := UZ_new rfl
@[go_sem ↓] theorem UZ_box {t x} : UZ T F P all bf base (⟨d, .box t x, ty, pos, after, none⟩ :: l) i s h nb msk Q = @AllocK (allocA T (evalO s) (.box t x) (base + i)) ⟨fun v b => @SetK (putA s d v) h ⟨fun s h => UZ T F P all bf base l (i + 1) s h (nb ++ [(i, b)]) msk Q⟩⟩ := UZ_new rfl
@[go_sem ↓] theorem UZ_makeSlice {t x y} : UZ T F P all bf base (⟨d, .makeSlice t x y, ty, pos, after, none⟩ :: l) i s h nb msk Q = @AllocK (allocA T (evalO s) (.makeSlice t x y) (base + i)) ⟨fun v b => @SetK (putA s d v) h ⟨fun s h => UZ T F P all bf base l (i + 1) s h (nb ++ [(i, b)]) msk Q⟩⟩ := UZ_new rfl
end
/-- A region whose order is drawn: the rows of what stands ahead are given. -/
theorem DrawZ_of' (P : Nat → Prop) (bf : List Nat) {l : List Oper} {fn : Nat} {ro : Option Nat} {i : Nat} {s : List AV} {ms : List Nat} {h : Heap} {Q : AE → Frm → Prop} (hd : drawOk T ⟨l⟩ = true) (hbf : befores l [] = bf) (hP : ∀ b, P b → b < h.nxt)
    (w : UZ T F P l bf h.nxt l 0 s (h.bump l.length) [] 0 fun s h => Q .normal ⟨s, ms, h⟩) : @DrawU T F ⟨s, ms, h⟩ ⟨fn, ro, .region i ⟨l⟩ true, Q⟩ := by
  subst hbf
  exact DrawZ_of P hd hP w

end Go.Am
