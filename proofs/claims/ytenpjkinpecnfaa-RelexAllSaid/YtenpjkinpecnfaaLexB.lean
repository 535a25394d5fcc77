import Derived.Test.YtenpjkinpecnfaaDfaG
import Derived.KernelRfl
/-
  Layer lex: the rows of kinds.
-/
namespace Go.Proofs.Ytenpjkinpecnfaa
open Go Go.Am
set_option maxRecDepth 100000
set_option maxHeartbeats 4000000
set_option linter.unusedSimpArgs false
set_option linter.unusedVariables false

theorem parse_frz {h : Heap} {s : List UInt8} : UF T F 24 [.str s] h fun v' h' => Ext h h' ∧ match parse s with
    | some l => ∃ v, v' = .tup [v, .bool true] ∧ Lst h' v l
    | none => v' = .tup [.slc none 0 (some 0) 0, .bool false] := by
  refine UF.lessQ (parse_uf.mono ?_)
  rintro v' h' ⟨e, m⟩
  cases hp : parse s with
  | none => rw [hp] at m; exact ⟨h', Le.refl _, e, m⟩
  | some l =>
    rw [hp] at m
    obtain ⟨v, rfl, L⟩ := m
    obtain ⟨h9, l9, n9, L9, u9⟩ := L.frz
    exact ⟨h9, l9, ((e.upd (h.nxt ≤ ·)).trans (u9.weak fun b _ => And.left)).ext fun b hb => by omega, v, rfl, L9⟩

/-- What the rows of kinds come to. -/
def RowsOf (h : Heap) (v : AV) (ts : List Tok) : Prop :=
  (v = .tup [.slc none 0 (some 0) 0, .bool false] ∧ ∃ t ∈ ts, parse t.rex = none) ∨
  ∃ es : List Rx, PatsOf ts (es.map Rx.items) ∧ (∀ e ∈ es, Fit e) ∧
    ((∃ w G S R, v = .tup [w, .bool true] ∧ Lst h w R ∧ RowFit G S R es) ∨ (v = .tup [.slc none 0 (some 0) 0, .bool false] ∧ 8 < (es.map ncls).sum))

theorem LexRows40_uf {h : Heap} {v : AV} {ts : List Tok} (sl : Lst h v ts) (hl : ts.length ≤ 20) : UF T F 40 [v] h fun v' h' => Ext h h' ∧ RowsOf h' v' ts := by
  obtain ⟨a, n, c, z, rfl, hn⟩ := sl.form
  refine UF.gen fun Q hQ => UF.of (F_40) (c := _) rfl ?_
  unfold Try.f40
  simp only [List.length, Nat.reduceSub, Nat.reduceAdd, List.replicate, List.cons_append, List.nil_append]
  simp (disch := omega) only [go_sem, seval]
  refine LoopU_while (fun m st hh => ∃ (i : Nat) (ls : List (List Item)) (w : AV), i ≤ ts.length ∧ m = ts.length - i ∧ Ext h hh ∧ ls.length = i ∧ (∀ j t, j < i → ts[j]? = some t → parse t.rex = ls[j]?) ∧ LGrow h.nxt hh w ls ∧
      Keep st 36 [(4, w), (10, .slc a n c z), (11, .int .i64 (n : Nat)), (12, .int .i64 (i : Nat))]) ts.length
    ⟨0, [], _, by omega, by omega, Ext.refl _, rfl, fun j t h1 => by omega, LGrow.nil, rfl, by simp [Has]⟩ ?_
  rintro m st hh ⟨i, ls, w, hi, rfl, eh, hls, hps, L, hk⟩
  obtain ⟨wa, wn, wc, wz, rfl, hwn⟩ := L.form
  rw [hk.eq]
  obtain ⟨k4, k10, k11, k12, -⟩ := hk.2
  simp only [slotsFrom, Nat.reduceAdd] at k4 k10 k11 k12 ⊢
  simp only [k4, k10, k11, k12]
  simp (disch := omega) only [go_sem, seval]
  by_cases hlt : (i : Int) < (n : Int)
  · have hil : i < ts.length := by omega
    obtain ⟨b1, o1, cs1, l1, rfl, rfl, hb1, hg1, rfl, hr1, ht1, hc1⟩ := sl.at_ (i := i) (x := ts[i]) (List.getElem?_eq_getElem hil) (k := 3) rfl
    have g1 : hh.get b1 = _ := (eh.get _ hb1).trans hg1
    simp (disch := omega) only [go_sem, seval, hlt, g1, Int.toNat_natCast, hr1, ht1]
    have e3 : Ext hh ((hh.add (.cells [.str [], .str [], .bool false] true)).put hh.nxt (.cells [.str ts[i].name, .str ts[i].rex, .bool ts[i].skip] true)) := (Ext.add _ _).put (Nat.le_refl _)
    have g3 : ((hh.add (.cells [.str [], .str [], .bool false] true)).put hh.nxt (.cells [.str ts[i].name, .str ts[i].rex, .bool ts[i].skip] true)).get hh.nxt = some (.cells [.str ts[i].name, .str ts[i].rex, .bool ts[i].skip] true) := get_put_self
    generalize ((hh.add (.cells [.str [], .str [], .bool false] true)).put hh.nxt (.cells [.str ts[i].name, .str ts[i].rex, .bool ts[i].skip] true)) = h3 at e3 g3 ⊢
    refine callV_ofU F_24 rfl ((parse_frz (s := ts[i].rex)).mono ?_)
    rintro v4 h4 ⟨e4, m4⟩
    simp (disch := omega) only [go_sem, seval]
    have hti : ts[i]? = some ts[i] := List.getElem?_eq_getElem hil
    cases hp : parse ts[i].rex with
    | none =>
      rw [hp] at m4
      subst m4
      simp (disch := omega) only [go_sem, seval]
      exact hQ _ _ ⟨(eh.trans e3).trans e4, .inl ⟨rfl, ts[i], List.getElem_mem hil, hp⟩⟩
    | some l =>
      rw [hp] at m4
      obtain ⟨v5, rfl, L5⟩ := m4
      obtain ⟨a5, n5, c5, z5, rfl, hn5⟩ := L5.form
      simp (disch := omega) only [go_sem, seval]
      refine gappend (m := h.nxt) (xs := ls) (ys := [l]) T_40 rfl T_28 rfl (by decide) (by decide) (((L.ext e3).ext e4).ext (Ext.add _ _)) (LSlc.lit (b := h4.nxt) (ls := [[.slc a5 n5 c5 z5]]) (by simp) get_add_self rfl (Reps.one (x := l) ⟨_, rfl, L5.ext (Ext.add _ _)⟩) rfl rfl) (by have := eh.nxt; have := e3.nxt; have := e4.nxt; simp; omega) (by simp [roomA]; omega) ?_
      intro v' h' L' u' hb'
      have uA : Upd (h.nxt ≤ ·) h h' := (((eh.trans e3).trans (e4.trans (Ext.add _ _))).upd _).trans' u' fun b h1 h2 => L.blk h1
      simp (disch := omega) only [go_sem, seval]
      refine AgainK.mk (ts.length - (i + 1)) (by simp only; omega) ⟨i + 1, ls ++ [l], v', by omega, rfl, uA.ext fun b hb => by omega, by simp [hls], fun j t h1 h2 => ?_, L', rfl, by simp [Has]⟩
      by_cases hji : j = i
      · subst hji
        rw [hti] at h2; simp only [Option.some.injEq] at h2; subst h2
        rw [hp, List.getElem?_append_right (by omega), hls]; simp
      · rw [List.getElem?_append_left (by omega)]; exact hps j t (by omega) h2
  · simp (disch := omega) only [go_sem, seval, hlt]
    have hin : i = ts.length := by omega
    have hP : PatsOf ts ls := ⟨by omega, fun j t h1 => hps j t (by have := (List.getElem?_eq_some_iff.1 h1).1; omega) h1⟩
    obtain ⟨es, hes, hfit⟩ := rx_list hP.mem
    have hel : es.length ≤ 20 := by have := hP.1; rw [hes, List.length_map] at this; omega
    obtain ⟨h9, l9, n9, L9, u9⟩ := L.frz
    rw [hes] at L9 hP
    have e9 : Ext h h9 := ((eh.upd (h.nxt ≤ ·)).trans (u9.weak fun b _ => And.left)).ext fun b hb => by omega
    refine callV_ofU F_29 rfl ((UF.less l9 (NfaOf_uf L9 hfit (by omega))).mono ?_)
    rintro v10 h10 ⟨e10, G, L10, A⟩
    simp (disch := omega) only [go_sem, seval]
    refine callV_ofU F_34 rfl ((DfaOf_es L10 A hel).mono ?_)
    rintro v11 h11 ⟨e11, m11⟩
    simp (disch := omega) only [go_sem, seval]
    rcases m11 with ⟨S, R, L11, W⟩ | ⟨rfl, hc⟩
    · obtain ⟨ra, rn, rc, rz, rfl, hrn⟩ := L11.form
      have hr0 : (rn : Int) > 0 := by have := W.len; omega
      simp (disch := omega) only [go_sem, seval, hr0]
      exact hQ _ _ ⟨(e9.trans e10).trans e11, .inr ⟨es, hP, hfit, .inl ⟨_, G, S, R, rfl, L11, W⟩⟩⟩
    · simp (disch := omega) only [go_sem, seval]
      exact hQ _ _ ⟨(e9.trans e10).trans e11, .inr ⟨es, hP, hfit, .inr ⟨rfl, hc⟩⟩⟩

/-- A token. -/
structure Tk where
  kind : Int
  at_ : Nat
  len : Nat
instance : Rep Tk := ⟨3, fun _ x cs => cs = [.int .i64 x.kind, .int .i64 (x.at_ : Nat), .int .i64 (x.len : Nat)], fun e => by rw [e]; rfl, fun e => by rw [e]; rfl, fun e _ => e⟩
/-- How a text is read from a place on. -/
inductive Toks (es : List Rx) (s : List UInt8) : Nat → List Tk → Prop
  | nil {i : Nat} (h : i = s.length) : Toks es s i []
  | one {i k n : Nat} {l : List Tk} (hi : i < s.length) (b : BestR es (s.drop i) k n true) (t : Toks es s (i + n) l) : Toks es s i (⟨k, i, n⟩ :: l)
  | bad {i k n : Nat} {l : List Tk} (hi : i < s.length) (b : BestR es (s.drop i) k n false) (t : Toks es s (i + 1) l) : Toks es s i (⟨-1, i, 1⟩ :: l)
theorem Toks.unique {es : List Rx} {s : List UInt8} {i : Nat} {l m : List Tk} (h : Toks es s i l) (k : Toks es s i m) : l = m := by
  induction h generalizing m with
  | nil h =>
    cases k with
    | nil _ => rfl
    | one hi _ _ => omega
    | bad hi _ _ => omega
  | one hi b t ih =>
    cases k with
    | nil h => omega
    | one _ b2 t2 =>
      obtain ⟨rfl, rfl, _⟩ := b.unique b2
      rw [ih t2]
    | bad _ b2 t2 => obtain ⟨_, _, h⟩ := b.unique b2; simp at h
  | bad hi b t ih =>
    cases k with
    | nil h => omega
    | one _ b2 t2 => obtain ⟨_, _, h⟩ := b.unique b2; simp at h
    | bad _ b2 t2 => rw [ih t2]
theorem BestR.pos {es : List Rx} {s : List UInt8} {k n : Nat} (b : BestR es s k n true) : 0 < n ∧ n ≤ s.length ∧ k < es.length := by
  rcases b with ⟨h, _⟩ | ⟨_, h1, h2, ⟨e, h3, _⟩, _⟩
  · simp at h
  · exact ⟨h1, h2, (List.getElem?_eq_some_iff.1 h3).1⟩
theorem Toks.len {es : List Rx} {s : List UInt8} {i : Nat} {l : List Tk} (h : Toks es s i l) : l.length + i ≤ s.length := by
  induction h with
  | nil h => simp; omega
  | one hi b t ih => have := b.pos; simp only [List.length_cons]; omega
  | bad hi b t ih => simp only [List.length_cons]; omega

end Go.Proofs.Ytenpjkinpecnfaa

/-
  Layer lex: a text's tokens.
-/
namespace Go.Proofs.Ytenpjkinpecnfaa
open Go Go.Am
set_option maxRecDepth 100000
set_option maxHeartbeats 4000000
set_option linter.unusedSimpArgs false
set_option linter.unusedVariables false

section
variable {T : TT} {F : Nat → Option Func} {P : Nat → Prop} {all l : List Oper} {bf : List Nat} {base i msk : Nat} {s : List AV} {h : Heap} {nb : List (Nat × Blk)} {Q : List AV → Heap → Prop} {d : Option Nat} {ty : TypeId} {pos : String} {after : Array Edge}
@[go_sem ↓] theorem UE_part {x : Operand} {j : Nat} : UE T F P all bf base (⟨d, .extract x j, ty, pos, after, none⟩ :: l) i s h nb msk Q = @OBk (opA T (evalO s) (.extract x j) h) ⟨fun v _ => @SetK (putA s d v) h ⟨fun s h => UE T F P all bf base l (i + 1) s h nb msk Q⟩⟩ := UE_pure rfl rfl
end
theorem tokensOf_uf {h : Heap} {a : AV} {s : List UInt8} {an : Nat} {ac : Option Nat} {az : Nat} {ap : Option (Nat × Nat)} (ha : a = .slc ap an ac az) : UF T F 63 [a, .str s] h fun v' h' => Ext h h' ∧ h'.nxt = h.nxt + 2 ∧ v' = .func (.func 80) [.ptr (some (h.nxt + 1, 0)), .ptr (some (h.nxt, 0))] ∧ h'.get h.nxt = some (.cells [a] true) ∧ h'.get (h.nxt + 1) = some (.cells [.str s] true) := by
  subst ha
  refine UF.gen fun Q hQ => UF.of (F_63) (c := _) rfl ?_
  unfold Try.f63
  simp only [List.length, Nat.reduceSub, Nat.reduceAdd, List.replicate, List.cons_append, List.nil_append]
  simp (disch := first | ((try simp only [heapN]) <;> omega) | fail) only [go_sem, seval]
  refine hQ _ _ ⟨(Ext.add _ _).trans (Ext.add _ _), by simp, rfl, ?_, ?_⟩
  · rw [get_add_lt (by simp), get_add_self]
  · rw [← Heap.add_nxt h (.cells [.slc ap an ac az] true), get_add_self]

section
variable {sb rb l : Nat} {s : List UInt8} {rv : AV} {G : List St} {S : List (List Nat)} {R : List Row} {es : List Rx}
/-- The tokens are told one by one. -/
theorem tokens_uf (I : List Tk → Heap → Prop) (hs : s.length ≤ 1000) (W : RowFit G S R es)
    (hsb : ∀ {xs h}, I xs h → sb < h.nxt ∧ rb < h.nxt ∧ h.get sb = some (.cells [.str s] true) ∧ h.get rb = some (.cells [rv] true) ∧ Lst h rv R)
    (hext : ∀ {xs h h'}, I xs h → Ext h h' → I xs h')
    (yes : ∀ {xs h} (x : Tk), I xs h → xs.length < 1000 → UR T F l [.agg [.int .i64 x.kind, .int .i64 (x.at_ : Nat), .int .i64 (x.len : Nat)]] h fun v' h' => v' = .bool true ∧ I (xs ++ [x]) h')
    {h : Heap} (i0 : I [] h) :
    UF T F 80 [.func (.yield l) [], .ptr (some (sb, 0)), .ptr (some (rb, 0))] h fun _ h' => ∃ ts, Toks es s 0 ts ∧ I ts h' := by
  refine UF.gen fun Q hQ => UF.of (F_80) (c := _) rfl ?_
  unfold Try.f80
  simp only [List.length, Nat.reduceSub, Nat.reduceAdd, List.replicate, List.cons_append, List.nil_append]
  simp (disch := first | ((try simp only [heapN]) <;> omega) | fail) only [go_sem, seval]
  refine LoopU_while (fun m st h1 => ∃ (i : Nat) (xs : List Tk), I xs h1 ∧ i ≤ s.length ∧ m = s.length - i ∧ xs.length ≤ i ∧ (∀ l, Toks es s i l → Toks es s 0 (xs ++ l)) ∧ Keep st 33 [(0, .func (.yield l) []), (1, .ptr (some (sb, 0))), (2, .ptr (some (rb, 0))), (4, .int .i64 (i : Nat))]) s.length
    ⟨0, [], i0, by omega, by omega, by simp, fun l h => h, rfl, by simp [Has]⟩ ?_
  rintro m st h1 ⟨i, xs, i1, hi, rfl, hxl, ht, hk⟩
  obtain ⟨n1, n2, g1, g2, L⟩ := hsb i1
  obtain ⟨ra, rn, rc, rz, rfl, hrn⟩ := L.form
  rw [hk.eq]
  obtain ⟨k0, k1, k2, k4, -⟩ := hk.2
  simp only [slotsFrom, Nat.reduceAdd] at k0 k1 k2 k4 ⊢
  simp only [k0, k1, k2, k4]
  simp (disch := first | ((try simp only [heapN]) <;> omega) | fail) only [go_sem, seval, g1]
  by_cases hlt : (i : Int) < (s.length : Int)
  · have hil : i < s.length := by omega
    simp (disch := first | ((try simp only [heapN]) <;> omega) | fail) only [go_sem, seval, hlt]
    refine DrawU_of' (fun b => b = sb ∨ b = rb) [0, 0, 0, 6, 15, 31, 63, 63, 63, 127, 767, 2047] (by rfl) (by rfl) (fun b hb => by rcases hb with rfl | rfl; exact n1; exact n2) ?_
    simp (disch := first | ((try simp only [heapN]) <;> omega) | fail) only [go_sem, seval]
    refine LoadK_ofU rfl (.inr rfl) ?_
    simp (disch := first | ((try simp only [heapN]) <;> omega) | fail) only [go_sem, seval, g2]
    refine LoadK_ofU rfl (.inl rfl) ?_
    simp (disch := first | ((try simp only [heapN]) <;> omega) | fail) only [go_sem, seval, g1]
    refine str_lo hi ?_
    simp (disch := first | ((try simp only [heapN]) <;> omega) | fail) only [go_sem, seval]
    refine callV_ofU F_36 rfl ((dBest_uf (s := s.drop i) (L.ext (Ext.bump h1 12)) W (by simp; omega)).mono ?_)
    rintro v3 h3 ⟨e3, k, n, ok, rfl, b⟩
    simp (disch := first | ((try simp only [heapN]) <;> omega) | fail) only [go_sem, seval]
    have eb : Ext h1 h3 := (Ext.bump _ _).trans e3
    refine ⟨fun b hb => by rcases hb with rfl | rfl; exact (e3.get _ (by simp; omega)).trans (by simp); exact (e3.get _ (by simp; omega)).trans (by simp), ?_⟩
    have i3 := hext i1 eb
    have step : ∀ (x : Tk) (i' : Nat), x.at_ = i → i < i' → i' ≤ s.length → (∀ l, Toks es s i' l → Toks es s i (x :: l)) → ∀ l, Toks es s i' l → Toks es s 0 ((xs ++ [x]) ++ l) := fun x i' _ _ _ h1 l h2 => by
      rw [List.append_assoc]; exact ht _ (h1 l h2)
    cases ok with
    | true =>
      obtain ⟨hn0, hnl, hk0⟩ := b.pos
      rw [List.length_drop] at hnl
      simp (disch := first | ((try simp only [heapN]) <;> omega) | fail) only [go_sem, seval]
      refine yieldU_of ((yes ⟨k, i, n⟩ i3 (by omega)).mono ?_)
      rintro v4 h4 ⟨rfl, i4⟩
      have hin : ((i : Int) + n) = ((i + n : Nat) : Int) := by omega
      simp (disch := first | ((try simp only [heapN]) <;> omega) | fail) only [go_sem, seval, hin]
      exact AgainK.mk (s.length - (i + n)) (by simp only; omega) ⟨i + n, _, i4, by omega, rfl, by simp; omega, step _ (i + n) rfl (by omega) (by omega) fun l h => .one hil b h, rfl, by simp [Has]⟩
    | false =>
      simp (disch := first | ((try simp only [heapN]) <;> omega) | fail) only [go_sem, seval]
      refine yieldU_of ((yes ⟨-1, i, 1⟩ i3 (by omega)).mono ?_)
      rintro v4 h4 ⟨rfl, i4⟩
      simp (disch := first | ((try simp only [heapN]) <;> omega) | fail) only [go_sem, seval]
      exact AgainK.mk (s.length - (i + 1)) (by simp only; omega) ⟨i + 1, _, i4, by omega, rfl, by simp; omega, step _ (i + 1) rfl (by omega) (by omega) fun l h => .bad hil b h, rfl, by simp [Has]⟩
  · simp (disch := first | ((try simp only [heapN]) <;> omega) | fail) only [go_sem, seval, hlt]
    have : i = s.length := by omega
    subst this
    exact hQ _ _ ⟨xs, by simpa using ht [] (.nil rfl), i1⟩
end

/-- What All keeps: at m the box of what is told, at m + 1 the rows', at m + 2 the text's, at m + 3 the marks, at m + 4 the loop. -/
structure Al (h0 h : Heap) (m : Nat) (s : List UInt8) (rv : AV) (R : List Row) (xs : List Tk) (q : LoopR) : Prop where
  n : m + 4 < h.nxt
  old : ∀ b, b < m → h.get b = h0.get b
  b0 : ∃ w, h.get m = some (.cells [w] true) ∧ LFresh (m + 5) h w xs
  b1 : h.get (m + 1) = some (.cells [rv] true)
  b2 : h.get (m + 2) = some (.cells [.str s] true)
  bd : h.get (m + 3) = some (.defers false)
  bl : h.get (m + 4) = some (.loop q)
  l : Lst h rv R
theorem Al.ext {h0 h h' : Heap} {m : Nat} {s : List UInt8} {rv : AV} {R : List Row} {xs : List Tk} {q : LoopR} (C : Al h0 h m s rv R xs q) (e : Ext h h') : Al h0 h' m s rv R xs q := by
  have n := C.n
  have g : ∀ b, b < m + 5 → h'.get b = h.get b := fun b hb => e.get b (by omega)
  obtain ⟨w, b0, bf⟩ := C.b0
  exact ⟨Nat.lt_of_lt_of_le n e.nxt, fun b hb => (g b (by omega)).trans (C.old b hb), ⟨w, (g m (by omega)).trans b0, bf.ext e⟩, (g _ (by omega)).trans C.b1, (g _ (by omega)).trans C.b2, (g _ (by omega)).trans C.bd, (g _ (by omega)).trans C.bl, C.l.ext e⟩

theorem All_uf {h : Heap} {rv : AV} {s : List UInt8} {G : List St} {S : List (List Nat)} {R : List Row} {es : List Rx} (sl : Lst h rv R) (W : RowFit G S R es) (hs : s.length ≤ 900) :
    UF T F 41 [rv, .str s] h fun v' h' => Ext h h' ∧ ∃ ts, Toks es s 0 ts ∧ Lst h' v' ts := by
  obtain ⟨ra, rn, rc, rz, rfl, hrn⟩ := sl.form
  refine UF.genq fun Q hQ => UF.of (F_41) (c := _) rfl ?_
  unfold Try.f41
  simp only [List.length, Nat.reduceSub, Nat.reduceAdd, List.replicate, List.cons_append, List.nil_append]
  simp (disch := first | ((try simp only [heapN]) <;> omega) | fail) only [go_sem, seval]
  refine callV_ofU F_63 rfl ((tokensOf_uf (s := s) rfl).mono ?_)
  rintro v1 h1 ⟨e1, n1, rfl, g1, g2⟩
  simp (disch := first | ((try simp only [heapN]) <;> omega) | fail) only [go_sem, seval]
  simp only [Heap.add_nxt] at n1 g1 g2
  have hv1 : h1.nxt = h.nxt + 3 := by omega
  refine LoopU_range rfl ?_
  generalize hq : LoopR.mk _ _ _ _ _ _ _ _ = q
  rw [hv1]
  have ea : Ext h h1 := (Ext.add _ _).trans e1
  have C0 : Al h ((h1.add (.defers false)).add (.loop q)) h.nxt s (.slc ra rn rc rz) R [] q := by
    have ge : ∀ b, b < h.nxt + 3 → ((h1.add (.defers false)).add (.loop q)).get b = h1.get b := fun b hb => by rw [get_add_lt (by simp; omega), get_add_lt (by omega)]
    refine ⟨by simp; omega, fun b hb => ?_, ⟨_, ?_, LFresh.nil⟩, ?_, ?_, ?_, ?_, sl.ext (ea.trans ((Ext.add _ _).trans (Ext.add _ _)))⟩
    · rw [ge b (by omega), ea.get b hb]
    · rw [ge _ (by omega), e1.get _ (by simp)]; exact get_add_self
    · rw [ge _ (by omega)]; exact g1
    · rw [ge _ (by omega)]; exact g2
    · rw [get_add_lt (by simp; omega), ← hv1]; exact get_add_self
    · have : h.nxt + 4 = (h1.add (.defers false)).nxt := by simp; omega
      rw [this]; exact get_add_self
  have yes : ∀ {xs : List Tk} {hh : Heap} (x : Tk), Al h hh h.nxt s (.slc ra rn rc rz) R xs q → xs.length < 1000 → UR T F (h.nxt + 4) [.agg [.int .i64 x.kind, .int .i64 (x.at_ : Nat), .int .i64 (x.len : Nat)]] hh fun v' h' => v' = .bool true ∧ Al h h' h.nxt s (.slc ra rn rc rz) R (xs ++ [x]) q := by
    intro xs hh x C hxs
    subst hq
    refine UR.of C.bl rfl ?_
    simp only [setAll]
    simp (disch := first | ((try simp only [heapN]) <;> omega) | fail) only [go_sem, seval]
    have n := C.n
    obtain ⟨w, b3, b4⟩ := C.b0
    obtain ⟨wa, wn, wc, wz, rfl, hwn⟩ := b4.form
    refine ⟨rfl, rfl, _, (get_put_ne (by omega)).trans ((get_add_lt (by omega)).trans C.bl), rfl, ?_⟩
    simp (disch := first | ((try simp only [heapN]) <;> omega) | fail) only [go_sem, seval, b3]
    generalize hX : Heap.put _ (h.nxt + 4) _ = X
    have gX := (congrArg (fun g => g.get (h.nxt + 4)) hX).symm.trans get_put_self
    have uX : Upd (· = h.nxt + 4) hh X := by
      subst hX
      refine (((Ext.add _ _).put (Nat.le_refl _)).upd _).trans (Upd.put _ rfl fun cs e => ?_)
      rw [get_put_ne (by omega), get_add_lt (by omega), C.bl] at e
      simp at e
    have LX : LFresh (h.nxt + 5) (X.add (.cells [.int .i64 x.kind, .int .i64 (x.at_ : Nat), .int .i64 (x.len : Nat)] true)) (.slc wa wn wc wz) xs := (b4.upd uX fun b hb _ e => by omega).ext (Ext.add _ _)
    have nX := uX.nxt
    have nXe : X.nxt = hh.nxt + 1 := by rw [← hX]; simp
    rw [← nXe]
    refine lappend (m := h.nxt + 5) (xs := xs) (ys := [x]) T_68 rfl T_71 rfl (by decide) (by decide) LX.own (LSlc.lit (b := X.nxt) (ls := [[.int .i64 x.kind, .int .i64 (x.at_ : Nat), .int .i64 (x.len : Nat)]]) (by simp) get_add_self rfl (Reps.one (x := x) rfl) rfl rfl) (by simp; omega) (by simp [roomA]; omega) ?_
    intro v2 h2 n2 r2 o2 c2 p2
    rcases c2 with ⟨c2, _⟩ | ⟨L2, _⟩
    · simp at c2
    obtain ⟨va, vn, vc, vz, rfl, hv2⟩ := L2.form
    have g2 : ∀ b, b < h.nxt + 5 → h2.get b = X.get b := fun b hb => by
      rw [r2 b (by simp; omega) (fun e => by have := LX.blk e; omega), get_add_lt (by omega)]
    have g3 : ∀ b, b < h.nxt + 4 → h2.get b = hh.get b := fun b hb => (g2 b (by omega)).trans (uX.get b (by omega) (by omega))
    have n2' : X.nxt < h2.nxt := by simp at n2; omega
    simp (disch := first | ((try simp only [heapN]) <;> omega) | fail) only [go_sem, seval, (g3 h.nxt (by omega)).trans b3]
    refine ⟨rfl, _, (get_put_ne (by omega)).trans ((g2 _ (by omega)).trans gX), rfl, ?_⟩
    generalize hY : Heap.put (Heap.put h2 h.nxt _) (h.nxt + 4) _ = Y
    have gY : ∀ b, b < h.nxt + 4 → b ≠ h.nxt → Y.get b = hh.get b := fun b hb hne => by
      rw [← hY, get_put_ne (by omega), get_put_ne (by omega), g3 b hb]
    have uY : Upd (fun b => b = h.nxt ∨ b = h.nxt + 4) h2 Y := by
      subst hY
      refine (Upd.put _ (.inl rfl) fun cs e => ?_).trans (Upd.put _ (.inr rfl) fun cs e => ?_)
      · rw [(g3 h.nxt (by omega)).trans b3] at e; simp at e
      · rw [get_put_ne (by omega), (g2 _ (by omega)).trans gX] at e; simp at e
    refine ⟨by rw [← hY]; simp; omega, fun b hb => ?_, ⟨.slc va vn vc vz, ?_, ?_⟩, ?_, ?_, ?_, ?_, ?_⟩
    · rw [gY b (by omega) (by omega)]; exact C.old b hb
    · rw [← hY, get_put_ne (by omega)]; exact get_put_self
    · exact L2.upd uY fun b hb _ e => by omega
    · rw [gY _ (by omega) (by omega)]; exact C.b1
    · rw [gY _ (by omega) (by omega)]; exact C.b2
    · rw [gY _ (by omega) (by omega)]; exact C.bd
    · rw [← hY]; exact get_put_self
    · exact ((C.l.pst uX.pst).pst ((Ext.add _ _).pst.trans p2)).pst uY.pst
  refine (tokens_uf (sb := h.nxt + 2) (rb := h.nxt + 1) (fun xs hh => Al h hh h.nxt s (.slc ra rn rc rz) R xs q) (by omega) W (fun C => ⟨by have := C.n; omega, by have := C.n; omega, C.b2, C.b1, C.l⟩) (fun C e => C.ext e) yes C0).mono ?_
  rintro _ h2 ⟨ts, ht, C⟩
  have hpend : q.pending = none := by rw [← hq]
  have hst : q.state = .ready := by rw [← hq]
  clear yes C0
  refine ⟨_, C.bl, by rw [hst]; simp, ?_⟩
  rw [hpend]
  have n := C.n
  obtain ⟨w, b3, b4⟩ := C.b0
  generalize hX : Heap.put h2 _ _ = X
  have uX : Upd (· = h.nxt + 4) h2 X := by
    subst hX
    exact Upd.put _ rfl fun cs e => by rw [C.bl] at e; simp at e
  have gX : ∀ b, b < h.nxt + 4 → X.get b = h2.get b := fun b hb => uX.get b (by omega) (by omega)
  have bX := b4.upd uX fun b hb _ e => by omega
  obtain ⟨wa, wn, wc, wz, rfl, hwn⟩ := b4.form
  have nX := uX.nxt
  simp (disch := first | ((try simp only [heapN]) <;> omega) | fail) only [go_sem, seval, (gX h.nxt (by omega)).trans b3]
  rw [callK_ret1 ((get_put_ne (by omega)).trans ((gX _ (by omega)).trans C.bd))]
  simp (disch := first | ((try simp only [heapN]) <;> omega) | fail) only [go_sem, seval, get_put_self]
  generalize hZ : Heap.put (Heap.put X _ _) _ _ = Z
  have uZ : Upd (fun b => b = h.nxt ∨ b = h.nxt + 3) X Z := by
    subst hZ
    refine (Upd.put _ (.inl rfl) fun cs e => ?_).trans (Upd.put _ (.inr rfl) fun cs e => ?_)
    · rw [(gX h.nxt (by omega)).trans b3] at e; simp at e
    · rw [get_put_ne (by omega), (gX _ (by omega)).trans C.bd] at e; simp at e
  obtain ⟨h9, l9, n9, L9, u9⟩ := (bX.upd uZ fun b hb _ e => by omega).frz
  have nZ := uZ.nxt
  refine hQ _ _ h9 l9 ⟨⟨by omega, fun b hb => ?_⟩, ts, ht, L9⟩
  rw [u9.get b (by omega) (by omega), uZ.get b (by omega) (by omega), gX b (by omega)]
  exact C.old b hb

end Go.Proofs.Ytenpjkinpecnfaa
