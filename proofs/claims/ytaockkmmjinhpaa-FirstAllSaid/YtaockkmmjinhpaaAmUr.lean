/-
  Loops over functions, weakest conditions.
-/
import Derived.Test.YtaockkmmjinhpaaAmRp
namespace Go.Am
set_option linter.unusedVariables false
variable {T : TT} {F : Nat → Option Func}

/-- What comes behind a loop over a function. -/
def rangeK (Q : AE → Frm → Prop) (s : List AV) (ms : List Nat) (l : Nat) (h2 : Heap) : Prop := ∃ r, h2.get l = some (.loop r) ∧ r.state ≠ .busy ∧
  (match r.pending with
  | none => Q .normal ⟨s, ms, h2.put l (.loop { r with state := .exhausted })⟩
  | some .ret => Q .ret ⟨s, ms, h2.put l (.loop { r with state := .exhausted })⟩
  | some (.exit id) => Q (.exit id) ⟨s, ms, h2.put l (.loop { r with state := .exhausted })⟩
  | some _ => False)

theorem UC.range {fn : Nat} {ro : Option Nat} {g : Operand} {ps : Array Tmp} {a b : Code} {s : List AV} {ms : List Nat} {h : Heap} {Q : AE → Frm → Prop} {k : Nat} {caps : List AV} {df : Nat} {ms' : List Nat} {h1 : Heap}
    (hg : evalO s g = some (.func (.func k) caps)) (he : enterA ro ⟨s, ms, h⟩ = some (df, ms', h1))
    (w : UF T F k (.func (.yield h1.nxt) [] :: caps) (h1.add (.loop { state := .ready, pending := none, fn := fn, tmps := s, params := ps.toList, assign := a, body := b, defers := df })) fun _ h2 => rangeK Q s ms' h1.nxt h2) :
    UC T F fn ro (.rangeFunc g ps a b) ⟨s, ms, h⟩ Q := by
  intro hg2 R
  obtain ⟨h3, e3, R3⟩ := enterA_le R (s' := s) he
  obtain ⟨n, v, g4, e4, h4, R4, r, hr, hb, q⟩ := w _ (R3.add _)
  rw [← R3.nxt] at e4
  have hr' := R4.hasL hr
  rw [← R3.nxt] at hr' hr
  obtain ⟨st, pd, rf, rt, rp, ra, rb, rd⟩ := r
  simp only at hb
  cases pd with
  | none =>
    refine ⟨n + 1, .normal, ⟨s, ms', g4.put h3.nxt (.loop ⟨.exhausted, none, rf, rt, rp, ra, rb, rd⟩)⟩, ?_, h4.put h1.nxt (.loop ⟨.exhausted, none, rf, rt, rp, ra, rb, rd⟩), ?_, q⟩
    · rw [evalC]
      simp only [hg, e3, e4, hr', if_neg hb]
    · rw [R3.nxt]; exact R4.put _ _
  | some c =>
    cases c with
    | ret =>
      refine ⟨n + 1, .ret, ⟨s, ms', g4.put h3.nxt (.loop ⟨.exhausted, some .ret, rf, rt, rp, ra, rb, rd⟩)⟩, ?_, h4.put h1.nxt (.loop ⟨.exhausted, some .ret, rf, rt, rp, ra, rb, rd⟩), ?_, q⟩
      · rw [evalC]
        simp only [hg, e3, e4, hr', if_neg hb]
      · rw [R3.nxt]; exact R4.put _ _
    | exit id =>
      refine ⟨n + 1, .exit id, ⟨s, ms', g4.put h3.nxt (.loop ⟨.exhausted, some (.exit id), rf, rt, rp, ra, rb, rd⟩)⟩, ?_, h4.put h1.nxt (.loop ⟨.exhausted, some (.exit id), rf, rt, rp, ra, rb, rd⟩), ?_, q⟩
      · rw [evalC]
        simp only [hg, e3, e4, hr', if_neg hb]
      · rw [R3.nxt]; exact R4.put _ _
    | _ => exact q.elim

/-- What comes behind a round. -/
def roundK (l : Nat) (K : AV → Heap → Prop) (e : AE) (f : Frm) : Prop := f.ms = [] ∧ ∃ r, f.h.get l = some (.loop r) ∧
  (match e with
  | .normal => K (.bool true) (f.h.put l (.loop { r with state := .ready, pending := none }))
  | .ret => K (.bool false) (f.h.put l (.loop { r with state := .done, pending := some .ret }))
  | .exit id => K (.bool false) (f.h.put l (.loop { r with state := .done, pending := some (.exit id) })))
/-- What comes behind a round's variables are set. -/
def assignK (T : TT) (F : Nat → Option Func) (l : Nat) (fn : Nat) (body : Code) (K : AV → Heap → Prop) (e : AE) (f : Frm) : Prop := e = .normal ∧ f.ms = [] ∧ ∃ r, f.h.get l = some (.loop r) ∧ r.state = .ready ∧
  UP T F fn (some l) body ⟨f.s, [], f.h.put l (.loop { r with state := .busy })⟩ (roundK l K)

theorem UR.of {l : Nat} {args : List AV} {h : Heap} {K : AV → Heap → Prop} {r : LoopR} (hr : h.get l = some (.loop r)) (ha : args.length = r.params.length)
    (w : UP T F r.fn (some l) r.assign ⟨setAll r.tmps r.params args, [], h⟩ (assignK T F l r.fn r.body K)) : UR T F l args h K := by
  intro g R
  obtain ⟨n, e, f1, e1, h1, R1, rfl, hm, r1, hr1, hs, w2⟩ := w.run g R
  obtain ⟨m, e2, f2, e3, h2, R2, hm2, r2, hr2, q⟩ := w2.run _ (R1.put l _)
  have hms : f1.ms = [] := hm
  have hms2 : f2.ms = [] := hm2
  have hf : ({ s := f1.s, ms := [], h := f1.h.put l (.loop { r1 with state := .busy }) } : Frm) = { f1 with h := f1.h.put l (.loop { r1 with state := .busy }) } := by rw [← hms]
  have key : roundF T F (max n m + 1) l args g = (match e2 with
      | .normal => some (.bool true, f2.h.put l (.loop { r2 with state := .ready, pending := none }))
      | .ret => some (.bool false, f2.h.put l (.loop { r2 with state := .done, pending := some .ret }))
      | .exit id => some (.bool false, f2.h.put l (.loop { r2 with state := .done, pending := some (.exit id) }))) := by
    have n1 : ¬ (args.length ≠ r.params.length) := fun h => h ha
    have n2 : ¬ (r1.state ≠ .ready ∨ f1.ms ≠ []) := by rintro (h | h); exact h hs; exact h hms
    have n3 : ¬ (f2.ms ≠ []) := fun h => h hms2
    rw [roundF, R.hasL hr]
    simp only [if_neg n1]
    rw [evalC_le (Nat.le_max_left n m) e1]
    simp only [R1.hasL hr1, if_neg n2]
    rw [hf] at e3
    rw [evalC_le (Nat.le_max_right n m) e3]
    simp only [R2.hasL hr2, if_neg n3]
    cases e2 <;> rfl
  cases e2 with
  | normal => exact ⟨_, _, _, key, _, R2.put l _, q⟩
  | ret => exact ⟨_, _, _, key, _, R2.put l _, q⟩
  | exit i => exact ⟨_, _, _, key, _, R2.put l _, q⟩

/-- A call of what a loop over a function hands in. -/
def yieldU (T : TT) (F : Nat → Option Func) (l : Nat) (r : Option (List AV)) (h : Heap) [K : KH] : Prop := match r with
  | some as => UR T F l as h K.k
  | none => False
/-- A call of a function that is a value. -/
def callvU (T : TT) (F : Nat → Option Func) (fv : Option AV) (r : Option (List AV)) (h : Heap) [K : KH] : Prop := match fv with
  | some (.func (.func g) caps) => (match r with | some l => @callVU T F g (some (l ++ caps)) h K | none => False)
  | some (.func (.yield l) _) => @yieldU T F l r h K
  | _ => False
@[go_sem] theorem callvU_func {g : Nat} {caps l : List AV} {h : Heap} {K : KH} : @callvU T F (some (.func (.func g) caps)) (some l) h K = @callVU T F g (some (l ++ caps)) h K := rfl
@[go_sem] theorem callvU_yield {l : Nat} {c : List AV} {r : Option (List AV)} {h : Heap} {K : KH} : @callvU T F (some (.func (.yield l) c)) r h K = @yieldU T F l r h K := rfl
@[go_sem ↓] theorem UK_callt {t args ts} {s : List AV} {h : Heap} {k : AV → Heap → Prop} : UK T F (.call { callee := .value (.tmp t), args, argTypes := ts }) s h k = @callvU T F (evalO s (.tmp t)) (evalAll (evalO s) args.toList) h ⟨k⟩ := by
  simp only [UK, callvU, callVU, yieldU]
  cases evalO s (.tmp t) with
  | none => rfl
  | some v =>
    cases v with
    | func f caps =>
      cases f with
      | func g => cases evalAll (evalO s) args.toList <;> rfl
      | yield l => cases evalAll (evalO s) args.toList <;> rfl
      | _ => rfl
    | _ => rfl

theorem get_add_self {h : Heap} {x : Blk} : (h.add x).get h.nxt = some x := by rw [Heap.get_add, if_pos rfl]
theorem get_put_self {h : Heap} {b : Nat} {x : Blk} : (h.put b x).get b = some x := by rw [Heap.get_put, if_pos rfl]
theorem get_add_lt {h : Heap} {x : Blk} {b : Nat} (hb : b < h.nxt) : (h.add x).get b = h.get b := by rw [Heap.get_add, if_neg (by omega)]
theorem get_put_ne {h : Heap} {b c : Nat} {x : Blk} (hb : b ≠ c) : (h.put b x).get c = h.get c := by rw [Heap.get_put, if_neg hb]
/-- Behind it less is known. -/
theorem UF.genq {f : Nat} {args : List AV} {h : Heap} {P : AV → Heap → Prop} (w : ∀ Q : AV → Heap → Prop, (∀ v h' h0, Le h0 h' → P v h0 → Q v h') → UF T F f args h Q) : UF T F f args h P :=
  UF.lessQ (w (fun v h' => ∃ h0, Le h0 h' ∧ P v h0) fun _ _ h0 l p => ⟨h0, l, p⟩)
theorem Upd.putNew {S : Nat → Prop} {h h' : Heap} (u : Upd S h h') {b : Nat} (hb : h.nxt ≤ b) (x : Blk) : Upd S h (h'.put b x) :=
  ⟨u.nxt, fun c hc hs => by rw [get_put_ne (by omega)]; exact u.get c hc hs, fun c cs hc g => by rw [get_put_ne (by omega)]; exact u.frz c cs hc g⟩
section
variable {α : Type} [Rep α]
theorem LFresh.upd {m : Nat} {h h' : Heap} {v : AV} {xs : List α} {S : Nat → Prop} (s : LFresh m h v xs) (u : Upd S h h') (hS : ∀ b, m ≤ b → v.blk = some b → ¬ S b) : LFresh m h' v xs := by
  obtain ⟨ls, a, b⟩ := s
  exact ⟨ls, a.keep u.nxt fun c h1 h2 h3 => u.get c h2 (hS c h1 h3), b.pst u.pst⟩
theorem LFresh.ext {m : Nat} {h h' : Heap} {v : AV} {xs : List α} (s : LFresh m h v xs) (e : Ext h h') : LFresh m h' v xs := s.upd (e.upd (fun _ => False)) (fun _ _ _ h => h)
theorem LFresh.blk {m : Nat} {h : Heap} {v : AV} {xs : List α} (s : LFresh m h v xs) {b : Nat} (e : v.blk = some b) : m ≤ b := by
  obtain ⟨ls, a, _⟩ := s; exact a.blk e
theorem LFresh.lt {m : Nat} {h : Heap} {v : AV} {xs : List α} (s : LFresh m h v xs) {b : Nat} (e : v.blk = some b) : b < h.nxt := by
  obtain ⟨ls, a, _⟩ := s
  rcases a with ⟨_, a, z, rfl, _⟩ | ⟨b', o, cs, rfl, hm, hb⟩
  · cases a <;> simp [AV.blk] at e
  · simp [AV.blk] at e; subst e; exact hb.lt
/-- A list of our own is frozen. -/
theorem LFresh.frz {m : Nat} {h : Heap} {v : AV} {xs : List α} (s : LFresh m h v xs) : ∃ h', Le h' h ∧ h'.nxt = h.nxt ∧ Lst h' v xs ∧ Upd (fun b => m ≤ b ∧ v.blk = some b) h h' := by
  obtain ⟨ls, a, r⟩ := s
  rcases a with ⟨rfl, a, z, rfl, hz⟩ | ⟨b', o, cs, rfl, hm, hb⟩
  · exact ⟨h, Le.refl _, rfl, ⟨[], .inl ⟨rfl, a, some 0, z, rfl, hz⟩, r⟩, Upd.refl _ _⟩
  · exact ⟨h.frz b', frz_le _ _, by simp, ⟨ls, .inr ⟨b', o, none, cs, rfl, ⟨by simpa using hb.lt, frz_eq hb.get, hb.len, hb.room, hb.win⟩, by simp⟩, r.pst (frz_pst _ _)⟩, frz_upd ⟨hm, rfl⟩⟩
theorem LFresh.mine {m : Nat} {h : Heap} {v : AV} {xs : List α} (s : LFresh m h v xs) {b : Nat} (e : v.blk = some b) : ∃ cs, h.get b = some (.cells cs true) := by
  obtain ⟨ls, a, _⟩ := s
  rcases a with ⟨_, a, z, rfl, _⟩ | ⟨b', o, cs, rfl, hm, hb⟩
  · cases a <;> simp [AV.blk] at e
  · simp [AV.blk] at e; subst e; exact ⟨cs, hb.get⟩
/-- A list that may grow: one of our own, or one that was written out. -/
def LGrow (m : Nat) (h : Heap) (v : AV) (xs : List α) : Prop := LFresh m h v xs ∨ (0 < xs.length ∧ Lst h v xs ∧ ∃ a z, v = .slc a xs.length (some xs.length) z)
theorem LFresh.grow {m : Nat} {h : Heap} {v : AV} {xs : List α} (s : LFresh m h v xs) : LGrow m h v xs := .inl s
theorem LGrow.nil {m : Nat} {h : Heap} : LGrow (α := α) m h (.slc none 0 (some 0) 0) [] := .inl LFresh.nil
theorem LGrow.own {m : Nat} {h : Heap} {v : AV} {xs : List α} (s : LGrow m h v xs) : LOwn m h v xs := by
  rcases s with s | ⟨hp, ⟨ls, a, b⟩, a', z, e⟩
  · exact s.own
  · have := b.length
    exact ⟨ls, .inr (.inl ⟨by omega, a.slc, a', z, by rw [this]; exact e⟩), b⟩
theorem LGrow.upd {m : Nat} {h h' : Heap} {v : AV} {xs : List α} {S : Nat → Prop} (s : LGrow m h v xs) (u : Upd S h h') (hS : ∀ b, m ≤ b → v.blk = some b → ¬ S b) : LGrow m h' v xs := by
  rcases s with s | ⟨hp, a, e⟩
  · exact .inl (s.upd u hS)
  · exact .inr ⟨hp, a.pst u.pst, e⟩
theorem LGrow.ext {m : Nat} {h h' : Heap} {v : AV} {xs : List α} (s : LGrow m h v xs) (e : Ext h h') : LGrow m h' v xs := s.upd (e.upd (fun _ => False)) (fun _ _ _ h => h)
theorem LGrow.le {m m' : Nat} {h : Heap} {v : AV} {xs : List α} (s : LGrow m h v xs) (hm : m' ≤ m) : LGrow m' h v xs := s.imp (fun s => s.le hm) id
theorem LGrow.form {m : Nat} {h : Heap} {v : AV} {xs : List α} (s : LGrow m h v xs) : ∃ a n cap z, v = .slc a n cap z ∧ n = xs.length := s.own.form
theorem LGrow.blk {m : Nat} {h : Heap} {v : AV} {xs : List α} (s : LGrow m h v xs) {b : Nat} (e : v.blk = some b) : m ≤ b := by
  rcases s with s | ⟨hp, a, a', z, rfl⟩
  · exact s.blk e
  · cases a' <;> simp [AV.blk] at e
theorem LGrow.lt {m : Nat} {h : Heap} {v : AV} {xs : List α} (s : LGrow m h v xs) {b : Nat} (e : v.blk = some b) : b < h.nxt := by
  rcases s with s | ⟨hp, a, a', z, rfl⟩
  · exact s.lt e
  · cases a' <;> simp [AV.blk] at e
theorem LGrow.mine {m : Nat} {h : Heap} {v : AV} {xs : List α} (s : LGrow m h v xs) {b : Nat} (e : v.blk = some b) : ∃ cs, h.get b = some (.cells cs true) := by
  rcases s with s | ⟨hp, a, a', z, rfl⟩
  · exact s.mine e
  · cases a' <;> simp [AV.blk] at e
theorem LGrow.frz {m : Nat} {h : Heap} {v : AV} {xs : List α} (s : LGrow m h v xs) : ∃ h', Le h' h ∧ h'.nxt = h.nxt ∧ Lst h' v xs ∧ Upd (fun b => m ≤ b ∧ v.blk = some b) h h' := by
  rcases s with s | ⟨hp, a, e⟩
  · exact s.frz
  · exact ⟨h, Le.refl _, rfl, a, Upd.refl _ _⟩
/-- More of a list that may grow. -/
theorem gappend {K : KH} {m : Nat} {h : Heap} {v x : AV} {t e : Nat} {ti te : TI} {xs ys : List α} (ht : T t = some ti) (hk : ti.kind = .slc e) (he : T e = some te) (hsz : te.size = Rep.sz α) (hb0 : te.bytes ≠ 0) (hb1 : te.bytes ≤ 1048576)
    (s : LGrow m h v xs) (sx : LSlc h x ys) (hm : m ≤ h.nxt) (hr : (xs.length + ys.length) * te.bytes ≤ roomA)
    (k : ∀ v' h', LGrow m h' v' (xs ++ ys) → Upd (fun b => v.blk = some b) h h' → (∀ b, v'.blk = some b → v.blk = some b ∨ h.nxt ≤ b) → K.k v' h') :
    @OBk (appendA T t v x h) K := by
  refine lappend ht hk he hsz hb0 hb1 s.own sx hm hr fun v' h' n1 g1 o1 c1 p1 => ?_
  rcases c1 with ⟨rfl, rfl, rfl⟩ | ⟨L, b⟩
  · exact k _ _ (by simpa using s) (Upd.refl _ _) fun b e => .inl e
  · exact k _ _ (.inl L) ⟨n1, fun b hb hne => g1 b hb hne, p1.frz⟩ fun c e => .inr (b c e)
/-- A slice that is written out. -/
theorem LSlc.lit {h : Heap} {b n : Nat} {xs : List α} {ls : List (List AV)} {wr : Bool} {cs : List AV} {z : Nat} (hb : b < h.nxt) (hg : h.get b = some (.cells cs wr)) (hc : cs = ls.flatten) (hr : Reps h xs ls) (hn : n = ls.length) (hz : z = Rep.sz α) : LSlc h (.slc (some (b, 0)) n (some n) z) xs := by
  subst hn; subst hz; subst hc
  exact ⟨ls, Slc.lit' hb hg hr.lens, hr⟩
end

@[go_sem] theorem gbool_undef {w : Bool} : gbool undefA w = false := rfl
/-! guards in regions whose order is drawn -/
def UEskip (T : TT) (F : Nat → Option Func) (P : Nat → Prop) (all : List Oper) (bf : List Nat) (base : Nat) (k : DK) (d : Option Nat) (l : List Oper) (i : Nat) (s : List AV) (h : Heap) (nb : List (Nat × Blk)) (msk : Nat) (Q : List AV → Heap → Prop) : Prop := match k with
  | .eff => (∀ b, P b → (heapFor base nb (bf.getD i 0) msk h).get b = h.get b) ∧ UE T F P all bf base l (i + 1) (putA s d undefA) (heapFor base nb (bf.getD i 0) msk h) nb (msk ||| bf.getD i 0) Q
  | .no => False
  | _ => UE T F P all bf base l (i + 1) (putA s d undefA) h nb msk Q
@[go_sem] theorem UEskip_eff {P : Nat → Prop} {all : List Oper} {bf : List Nat} {base : Nat} {d : Option Nat} {l : List Oper} {i : Nat} {s : List AV} {h : Heap} {nb : List (Nat × Blk)} {msk : Nat} {Q : List AV → Heap → Prop} :
    UEskip T F P all bf base .eff d l i s h nb msk Q = ((∀ b, P b → (heapFor base nb (bf.getD i 0) msk h).get b = h.get b) ∧ @SetK (putA s d undefA) (heapFor base nb (bf.getD i 0) msk h) ⟨fun s h => UE T F P all bf base l (i + 1) s h nb (msk ||| bf.getD i 0) Q⟩) := by
  simp [UEskip, SetK]
@[go_sem] theorem UEskip_new {P : Nat → Prop} {all : List Oper} {bf : List Nat} {base : Nat} {d : Option Nat} {l : List Oper} {i : Nat} {s : List AV} {h : Heap} {nb : List (Nat × Blk)} {msk : Nat} {Q : List AV → Heap → Prop} :
    UEskip T F P all bf base .new d l i s h nb msk Q = @SetK (putA s d undefA) h ⟨fun s h => UE T F P all bf base l (i + 1) s h nb msk Q⟩ := by
  simp [UEskip, SetK]
@[go_sem] theorem UEskip_quiet {P : Nat → Prop} {all : List Oper} {bf : List Nat} {base : Nat} {d : Option Nat} {l : List Oper} {i : Nat} {s : List AV} {h : Heap} {nb : List (Nat × Blk)} {msk : Nat} {Q : List AV → Heap → Prop} :
    UEskip T F P all bf base .quiet d l i s h nb msk Q = @SetK (putA s d undefA) h ⟨fun s h => UE T F P all bf base l (i + 1) s h nb msk Q⟩ := by
  simp [UEskip, SetK]
theorem UE_g {P : Nat → Prop} {all l : List Oper} {bf : List Nat} {base i msk : Nat} {s : List AV} {h : Heap} {nb : List (Nat × Blk)} {Q : List AV → Heap → Prop} {d : Option Nat} {op : Op} {ty : TypeId} {pos : String} {after : Array Edge} {j : Nat} {w : Bool} :
    UE T F P all bf base (⟨d, op, ty, pos, after, some (j, w)⟩ :: l) i s h nb msk Q = @condK (gval (gslot all j) s w) ⟨UE T F P all bf base (⟨d, op, ty, pos, after, none⟩ :: l) i s h nb msk Q, UEskip T F P all bf base (dkind T op) d l i s h nb msk Q⟩ := by
  rw [← wanted_g (op := op) (d := d) (ty := ty) (pos := pos) (after := after)]
  simp only [condK, UE, UEskip]
  cases dkind T op with
  | eff => simp [UL, wantedA]
  | new => simp [wantedA]
  | quiet => simp [wantedA]
  | no => simp

/-- How many blocks there are. -/
theorem heapN : (∀ (h : Heap) (x : Blk), (h.add x).nxt = h.nxt + 1) ∧ (∀ (h : Heap) (b : Nat) (x : Blk), (h.put b x).nxt = h.nxt) ∧ (∀ (h : Heap) (b : Nat), (h.del b).nxt = h.nxt) ∧ ∀ (h : Heap) (n : Nat), (h.bump n).nxt = h.nxt + n :=
  ⟨fun _ _ => by simp, fun _ _ _ => by simp, fun _ _ => by simp, fun _ _ => by simp⟩
attribute [go_sem] implies_true bne_self_eq_false decide_true decide_false Int.cast_ofNat_Int Bool.and_true Bool.true_and Bool.and_false Bool.false_and Bool.not_true Bool.not_false
@[go_sem ↓] theorem UE_gq {P : Nat → Prop} {all l : List Oper} {bf : List Nat} {base i msk : Nat} {s : List AV} {h : Heap} {nb : List (Nat × Blk)} {Q : List AV → Heap → Prop} {d : Option Nat} {op : Op} {ty : TypeId} {pos : String} {after : Array Edge} {j : Nat} {w : Bool} :
    UE T F P all bf base (⟨d, op, ty, pos, after, some (j, w)⟩ :: l) i s h nb msk Q = @condK (gval (gslot all j) s w) ⟨UE T F P all bf base (⟨d, op, ty, pos, after, none⟩ :: l) i s h nb msk Q, UEskip T F P all bf base (dkind T op) d l i s h nb msk Q⟩ := UE_g
@[go_sem] theorem dkind_move {x} : dkind T (.move x) = .quiet := rfl
@[go_sem] theorem dkind_assign {x} : dkind T (.assign x) = .quiet := rfl
@[go_sem] theorem dkind_binOp {o t x y e} : dkind T (.binOp o t x y e) = .quiet := rfl
@[go_sem] theorem dkind_unOp {o t x} : dkind T (.unOp o t x) = .quiet := rfl
@[go_sem] theorem dkind_load {t x} : dkind T (.load t x) = .quiet := rfl
@[go_sem] theorem dkind_pick {a b c} : dkind T (.pick a b c) = .quiet := rfl
@[go_sem] theorem dkind_nilCheck {x} : dkind T (.nilCheck x) = .quiet := rfl
@[go_sem] theorem dkind_fieldAddr {t x f} : dkind T (.fieldAddr t x f) = .quiet := rfl
@[go_sem] theorem dkind_field {t x f} : dkind T (.field t x f) = .quiet := rfl
@[go_sem] theorem dkind_indexAddr {t x f} : dkind T (.indexAddr t x f) = .quiet := rfl
@[go_sem] theorem dkind_index {t x f} : dkind T (.index t x f) = .quiet := rfl
@[go_sem] theorem dkind_slice {t x a b c} : dkind T (.slice t x a b c) = .quiet := rfl
@[go_sem] theorem dkind_extract {x i} : dkind T (.extract x i) = .quiet := rfl
@[go_sem] theorem dkind_build {t x} : dkind T (.build t x) = .quiet := rfl
@[go_sem] theorem dkind_lookup {t x k o} : dkind T (.lookup t x k o) = .quiet := rfl
@[go_sem] theorem dkind_makeFunc {f a b} : dkind T (.makeFunc f a b) = .quiet := rfl
@[go_sem] theorem dkind_makeInterface {t x} : dkind T (.makeInterface t x) = .quiet := rfl
@[go_sem] theorem dkind_alloc {t} : dkind T (.alloc t) = .new := rfl
@[go_sem] theorem dkind_box {t x} : dkind T (.box t x) = .new := rfl
@[go_sem] theorem dkind_buildSlice {t n x} : dkind T (.buildSlice t n x) = .new := rfl
@[go_sem] theorem dkind_makeSlice {t x y} : dkind T (.makeSlice t x y) = .new := rfl
@[go_sem] theorem dkind_store {t x y} : dkind T (.store t x y) = .eff := rfl
@[go_sem] theorem dkind_callv {f args ts} : dkind T (.call { callee := .value f, args, argTypes := ts }) = .eff := rfl
@[go_sem] theorem dkind_len {args ts} : dkind T (.call { callee := .builtin .len, args, argTypes := ts }) = .quiet := rfl
@[go_sem] theorem dkind_append {args ts} : dkind T (.call { callee := .builtin .append, args, argTypes := ts }) = .eff := rfl

end Go.Am
