/-
  Layer lex: the rows of kinds.
-/
import Derived.Test.YtenpjkinpecnfaaDfaG
import Derived.KernelRfl
namespace Go.Proofs.Ytenpjkinpecnfaa
open Go Go.Am
set_option maxRecDepth 100000
set_option maxHeartbeats 4000000
set_option linter.unusedSimpArgs false
set_option linter.unusedVariables false

theorem parse_frz {h : Heap} {s : List UInt8} : UF T F 24 [.str s] h fun v' h' => Ext h h' ∧ match parse s with
    | some l => ∃ v, v' = .tup [v, .bool true] ∧ Lst h' v l
    | none => v' = .tup [.slc none 0 (some 0) 0, .bool false] := by
  refine UF.lessQ (parse_uf.mono ?_)
  rintro v' h' ⟨e, m⟩
  cases hp : parse s with
  | none => rw [hp] at m; exact ⟨h', Le.refl _, e, m⟩
  | some l =>
    rw [hp] at m
    obtain ⟨v, rfl, L⟩ := m
    obtain ⟨h9, l9, n9, L9, u9⟩ := L.frz
    exact ⟨h9, l9, ((e.upd (h.nxt ≤ ·)).trans (u9.weak fun b _ => And.left)).ext fun b hb => by omega, v, rfl, L9⟩

/-- What the rows of kinds come to. -/
def RowsOf (h : Heap) (v : AV) (ts : List Tok) : Prop :=
  (v = .tup [.slc none 0 (some 0) 0, .bool false] ∧ ∃ t ∈ ts, parse t.rex = none) ∨
  ∃ es : List Rx, PatsOf ts (es.map Rx.items) ∧ (∀ e ∈ es, Fit e) ∧
    ((∃ w G S R, v = .tup [w, .bool true] ∧ Lst h w R ∧ RowFit G S R es) ∨ (v = .tup [.slc none 0 (some 0) 0, .bool false] ∧ 8 < (es.map ncls).sum))

theorem LexRows40_uf {h : Heap} {v : AV} {ts : List Tok} (sl : Lst h v ts) (hl : ts.length ≤ 20) : UF T F 40 [v] h fun v' h' => Ext h h' ∧ RowsOf h' v' ts := by
  obtain ⟨a, n, c, z, rfl, hn⟩ := sl.form
  refine UF.gen fun Q hQ => UF.of (F_40) (c := _) rfl ?_
  unfold Try.f40
  simp only [List.length, Nat.reduceSub, Nat.reduceAdd, List.replicate, List.cons_append, List.nil_append]
  simp (disch := first | ((try simp only [heapN]) <;> omega) | fail) only [go_sem, seval]
  refine LoopU_while (fun m st hh => ∃ (i : Nat) (ls : List (List Item)) (w : AV), i ≤ ts.length ∧ m = ts.length - i ∧ Ext h hh ∧ ls.length = i ∧ (∀ j t, j < i → ts[j]? = some t → parse t.rex = ls[j]?) ∧ LGrow h.nxt hh w ls ∧
      Keep st 36 [(4, w), (10, .slc a n c z), (11, .int .i64 (n : Nat)), (12, .int .i64 (i : Nat))]) ts.length
    ⟨0, [], _, by omega, by omega, Ext.refl _, rfl, fun j t h1 => by omega, LGrow.nil, rfl, by simp [Has]⟩ ?_
  rintro m st hh ⟨i, ls, w, hi, rfl, eh, hls, hps, L, hk⟩
  obtain ⟨wa, wn, wc, wz, rfl, hwn⟩ := L.form
  rw [hk.eq]
  obtain ⟨k4, k10, k11, k12, -⟩ := hk.2
  simp only [slotsFrom, Nat.reduceAdd] at k4 k10 k11 k12 ⊢
  simp only [k4, k10, k11, k12]
  simp (disch := first | ((try simp only [heapN]) <;> omega) | fail) only [go_sem, seval]
  by_cases hlt : (i : Int) < (n : Int)
  · have hil : i < ts.length := by omega
    obtain ⟨b1, o1, cs1, l1, rfl, rfl, hb1, hg1, rfl, hr1, ht1, hc1⟩ := sl.at_ (i := i) (x := ts[i]) (List.getElem?_eq_getElem hil) (k := 3) rfl
    have g1 : hh.get b1 = _ := (eh.get _ hb1).trans hg1
    simp (disch := first | ((try simp only [heapN]) <;> omega) | fail) only [go_sem, seval, hlt, g1, Int.toNat_natCast, hr1, ht1]
    have e3 : Ext hh ((hh.add (.cells [.str [], .str [], .bool false] true)).put hh.nxt (.cells [.str ts[i].name, .str ts[i].rex, .bool ts[i].skip] true)) := (Ext.add _ _).put (Nat.le_refl _)
    have g3 : ((hh.add (.cells [.str [], .str [], .bool false] true)).put hh.nxt (.cells [.str ts[i].name, .str ts[i].rex, .bool ts[i].skip] true)).get hh.nxt = some (.cells [.str ts[i].name, .str ts[i].rex, .bool ts[i].skip] true) := get_put_self
    generalize ((hh.add (.cells [.str [], .str [], .bool false] true)).put hh.nxt (.cells [.str ts[i].name, .str ts[i].rex, .bool ts[i].skip] true)) = h3 at e3 g3 ⊢
    refine callV_ofU F_24 rfl ((parse_frz (s := ts[i].rex)).mono ?_)
    rintro v4 h4 ⟨e4, m4⟩
    simp (disch := first | ((try simp only [heapN]) <;> omega) | fail) only [go_sem, seval]
    have hti : ts[i]? = some ts[i] := List.getElem?_eq_getElem hil
    cases hp : parse ts[i].rex with
    | none =>
      rw [hp] at m4
      subst m4
      simp (disch := first | ((try simp only [heapN]) <;> omega) | fail) only [go_sem, seval]
      exact hQ _ _ ⟨(eh.trans e3).trans e4, .inl ⟨rfl, ts[i], List.getElem_mem hil, hp⟩⟩
    | some l =>
      rw [hp] at m4
      obtain ⟨v5, rfl, L5⟩ := m4
      obtain ⟨a5, n5, c5, z5, rfl, hn5⟩ := L5.form
      simp (disch := first | ((try simp only [heapN]) <;> omega) | fail) only [go_sem, seval]
      refine gappend (m := h.nxt) (xs := ls) (ys := [l]) T_40 rfl T_28 rfl (by decide) (by decide) (((L.ext e3).ext e4).ext (Ext.add _ _)) (LSlc.lit (b := h4.nxt) (ls := [[.slc a5 n5 c5 z5]]) (by simp) get_add_self rfl (Reps.one (x := l) ⟨_, rfl, L5.ext (Ext.add _ _)⟩) rfl rfl) (by have := eh.nxt; have := e3.nxt; have := e4.nxt; simp; omega) (by simp [roomA]; omega) ?_
      intro v' h' L' u' hb'
      have uA : Upd (h.nxt ≤ ·) h h' := (((eh.trans e3).trans (e4.trans (Ext.add _ _))).upd _).trans' u' fun b h1 h2 => L.blk h1
      simp (disch := first | ((try simp only [heapN]) <;> omega) | fail) only [go_sem, seval]
      refine AgainK.mk (ts.length - (i + 1)) (by simp only; omega) ⟨i + 1, ls ++ [l], v', by omega, rfl, uA.ext fun b hb => by omega, by simp [hls], fun j t h1 h2 => ?_, L', rfl, by simp [Has]⟩
      by_cases hji : j = i
      · subst hji
        rw [hti] at h2; simp only [Option.some.injEq] at h2; subst h2
        rw [hp, List.getElem?_append_right (by omega), hls]; simp
      · rw [List.getElem?_append_left (by omega)]; exact hps j t (by omega) h2
  · simp (disch := first | ((try simp only [heapN]) <;> omega) | fail) only [go_sem, seval, hlt]
    have hin : i = ts.length := by omega
    have hP : PatsOf ts ls := ⟨by omega, fun j t h1 => hps j t (by have := (List.getElem?_eq_some_iff.1 h1).1; omega) h1⟩
    obtain ⟨es, hes, hfit⟩ := rx_list hP.mem
    have hel : es.length ≤ 20 := by have := hP.1; rw [hes, List.length_map] at this; omega
    obtain ⟨h9, l9, n9, L9, u9⟩ := L.frz
    rw [hes] at L9 hP
    have e9 : Ext h h9 := ((eh.upd (h.nxt ≤ ·)).trans (u9.weak fun b _ => And.left)).ext fun b hb => by omega
    refine callV_ofU F_29 rfl ((UF.less l9 (NfaOf_uf L9 hfit (by omega))).mono ?_)
    rintro v10 h10 ⟨e10, G, L10, A⟩
    simp (disch := first | ((try simp only [heapN]) <;> omega) | fail) only [go_sem, seval]
    refine callV_ofU F_34 rfl ((DfaOf_es L10 A hel).mono ?_)
    rintro v11 h11 ⟨e11, m11⟩
    simp (disch := first | ((try simp only [heapN]) <;> omega) | fail) only [go_sem, seval]
    rcases m11 with ⟨S, R, L11, W⟩ | ⟨rfl, hc⟩
    · obtain ⟨ra, rn, rc, rz, rfl, hrn⟩ := L11.form
      have hr0 : (rn : Int) > 0 := by have := W.len; omega
      simp (disch := first | ((try simp only [heapN]) <;> omega) | fail) only [go_sem, seval, hr0]
      exact hQ _ _ ⟨(e9.trans e10).trans e11, .inr ⟨es, hP, hfit, .inl ⟨_, G, S, R, rfl, L11, W⟩⟩⟩
    · simp (disch := first | ((try simp only [heapN]) <;> omega) | fail) only [go_sem, seval]
      exact hQ _ _ ⟨(e9.trans e10).trans e11, .inr ⟨es, hP, hfit, .inr ⟨rfl, hc⟩⟩⟩

/-- A token. -/
structure Tk where
  kind : Int
  at_ : Nat
  len : Nat
instance : Rep Tk := ⟨3, fun _ x cs => cs = [.int .i64 x.kind, .int .i64 (x.at_ : Nat), .int .i64 (x.len : Nat)], fun e => by rw [e]; rfl, fun e => by rw [e]; rfl, fun e _ => e⟩
/-- How a text is read from a place on. -/
inductive Toks (es : List Rx) (s : List UInt8) : Nat → List Tk → Prop
  | nil {i : Nat} (h : i = s.length) : Toks es s i []
  | one {i k n : Nat} {l : List Tk} (hi : i < s.length) (b : BestR es (s.drop i) k n true) (t : Toks es s (i + n) l) : Toks es s i (⟨k, i, n⟩ :: l)
  | bad {i k n : Nat} {l : List Tk} (hi : i < s.length) (b : BestR es (s.drop i) k n false) (t : Toks es s (i + 1) l) : Toks es s i (⟨-1, i, 1⟩ :: l)
theorem Toks.unique {es : List Rx} {s : List UInt8} {i : Nat} {l m : List Tk} (h : Toks es s i l) (k : Toks es s i m) : l = m := by
  induction h generalizing m with
  | nil h =>
    cases k with
    | nil _ => rfl
    | one hi _ _ => omega
    | bad hi _ _ => omega
  | one hi b t ih =>
    cases k with
    | nil h => omega
    | one _ b2 t2 =>
      obtain ⟨rfl, rfl, _⟩ := b.unique b2
      rw [ih t2]
    | bad _ b2 t2 => obtain ⟨_, _, h⟩ := b.unique b2; simp at h
  | bad hi b t ih =>
    cases k with
    | nil h => omega
    | one _ b2 t2 => obtain ⟨_, _, h⟩ := b.unique b2; simp at h
    | bad _ b2 t2 => rw [ih t2]
theorem BestR.pos {es : List Rx} {s : List UInt8} {k n : Nat} (b : BestR es s k n true) : 0 < n ∧ n ≤ s.length ∧ k < es.length := by
  rcases b with ⟨h, _⟩ | ⟨_, h1, h2, ⟨e, h3, _⟩, _⟩
  · simp at h
  · exact ⟨h1, h2, (List.getElem?_eq_some_iff.1 h3).1⟩
theorem Toks.len {es : List Rx} {s : List UInt8} {i : Nat} {l : List Tk} (h : Toks es s i l) : l.length + i ≤ s.length := by
  induction h with
  | nil h => simp; omega
  | one hi b t ih => have := b.pos; simp only [List.length_cons]; omega
  | bad hi b t ih => simp only [List.length_cons]; omega

end Go.Proofs.Ytenpjkinpecnfaa
