/-
  Layer lex: leaves, and what its laws begin with.
-/
import Derived.Test.YtenpjkinpecnfaaLexC
import Derived.KernelRfl
namespace Go.Proofs.Ytenpjkinpecnfaa
open Go Go.Am
set_option maxRecDepth 100000
set_option maxHeartbeats 4000000
set_option linter.unusedSimpArgs false
set_option linter.unusedVariables false

/-- A leaf. -/
structure Lf where
  kind : Int
  text : List UInt8
instance : Rep Lf := ⟨2, fun _ x cs => cs = [.int .i64 x.kind, .str x.text], fun e => by rw [e]; rfl, fun e => by rw [e]; rfl, fun e _ => e⟩
/-- What a grammar sees of a token. -/
def leafOf (ts : List Tok) (s : List UInt8) (x : Tk) : List Lf :=
  if x.kind < 0 then [⟨-1, (s.drop x.at_).take x.len⟩] else match ts[x.kind.toNat]? with
    | some t => if t.skip = true then [] else [⟨x.kind, (s.drop x.at_).take x.len⟩]
    | none => [⟨-1, (s.drop x.at_).take x.len⟩]
theorem leafOf_len (ts : List Tok) (s : List UInt8) (x : Tk) : (leafOf ts s x).length ≤ 1 := by
  unfold leafOf
  split
  · simp
  · split
    · split <;> simp
    · simp
theorem leaves_len (ts : List Tok) (s : List UInt8) : ∀ l : List Tk, (l.flatMap (leafOf ts s)).length ≤ l.length
  | [] => by simp
  | x :: l => by
    have := leaves_len ts s l
    have := leafOf_len ts s x
    simp only [List.flatMap_cons, List.length_append, List.length_cons]; omega
theorem Leaves_uf {h : Heap} {tv lv : AV} {ts : List Tok} {l : List Tk} {s : List UInt8} (st : Lst h tv ts) (sl : Lst h lv l) (hts : ts.length ≤ 1000) (hl : l.length ≤ 1000) (hs : s.length ≤ 1000) (hin : ∀ x ∈ l, x.at_ + x.len ≤ s.length ∧ x.kind ≤ 1000) :
    UF T F 42 [tv, lv, .str s] h fun v' h' => Ext h h' ∧ Lst h' v' (l.flatMap (leafOf ts s)) := by
  obtain ⟨ta, tn, tc, tz, rfl, htn⟩ := st.form
  obtain ⟨a, n, c, z, rfl, hn⟩ := sl.form
  refine UF.genq fun Q hQ => UF.of (F_42) (c := _) rfl ?_
  unfold Try.f42
  simp only [List.length, Nat.reduceSub, Nat.reduceAdd, List.replicate, List.cons_append, List.nil_append]
  simp (disch := omega) only [go_sem, seval]
  refine LoopU_while (fun m st hh => ∃ (i : Nat) (w : AV), i ≤ l.length ∧ m = l.length - i ∧ Ext h hh ∧ LGrow h.nxt hh w ((l.take i).flatMap (leafOf ts s)) ∧
      Keep st 77 [(0, .slc ta tn tc tz), (2, .str s), (6, w), (10, .slc a n c z), (11, .int .i64 (n : Nat)), (12, .int .i64 (i : Nat))]) l.length
    ⟨0, _, by omega, by omega, Ext.refl _, LGrow.nil, rfl, by simp [Has]⟩ ?_
  rintro m st' hh ⟨i, w, hi, rfl, eh, L, hk⟩
  obtain ⟨wa, wn, wc, wz, rfl, hwn⟩ := L.form
  rw [hk.eq]
  obtain ⟨k0, k2, k6, k10, k11, k12, -⟩ := hk.2
  simp only [slotsFrom, Nat.reduceAdd] at k0 k2 k6 k10 k11 k12 ⊢
  simp only [k0, k2, k6, k10, k11, k12]
  simp (disch := omega) only [go_sem, seval]
  by_cases hlt : (i : Int) < (n : Int)
  · have hil : i < l.length := by omega
    have hx := hin l[i] (List.getElem_mem hil)
    obtain ⟨b1, o1, cs1, l1, rfl, rfl, hb1, hg1, rfl, hr1, ht1, hc1⟩ := sl.at_ (i := i) (x := l[i]) (List.getElem?_eq_getElem hil) (k := 3) rfl
    have g1 : hh.get b1 = _ := (eh.get _ hb1).trans hg1
    have hnx : (l.take (i + 1)).flatMap (leafOf ts s) = (l.take i).flatMap (leafOf ts s) ++ leafOf ts s l[i] := by
      rw [List.take_add_one, List.getElem?_eq_getElem hil, Option.toList_some]
      simp only [List.flatMap_append, List.flatMap_cons, List.flatMap_nil, List.append_nil]
    have hll := leaves_len ts s (l.take i)
    rw [List.length_take] at hll
    have hcnt : ((l.take i).flatMap (leafOf ts s)).length ≤ 1000 := by omega
    have hroomL : ∀ k : Nat, k ≤ 1000 → (k + 1) * 24 ≤ roomA := fun k hk => by simp [roomA]; omega
    generalize l[i] = x at *
    simp (disch := omega) only [go_sem, seval, hlt, g1, Int.toNat_natCast, hr1, ht1]
    have e3 : Ext hh ((hh.add (.cells [.int .i64 0, .int .i64 0, .int .i64 0] true)).put hh.nxt (.cells [.int .i64 x.kind, .int .i64 (x.at_ : Nat), .int .i64 (x.len : Nat)] true)) := (Ext.add _ _).put (Nat.le_refl _)
    have g3 : ((hh.add (.cells [.int .i64 0, .int .i64 0, .int .i64 0] true)).put hh.nxt (.cells [.int .i64 x.kind, .int .i64 (x.at_ : Nat), .int .i64 (x.len : Nat)] true)).get hh.nxt = some (.cells [.int .i64 x.kind, .int .i64 (x.at_ : Nat), .int .i64 (x.len : Nat)] true) := get_put_self
    generalize ((hh.add (.cells [.int .i64 0, .int .i64 0, .int .i64 0] true)).put hh.nxt (.cells [.int .i64 x.kind, .int .i64 (x.at_ : Nat), .int .i64 (x.len : Nat)] true)) = h3 at e3 g3 ⊢
    have q1 : ¬ ((x.at_ : Nat) : Int) < 0 := by omega
    have q2 : ¬ ((x.at_ : Nat) : Int) > (s.length : Int) := by omega
    have q3 : ¬ ((x.len : Nat) : Int) < 0 := by omega
    have q4 : ¬ ((x.len : Nat) : Int) > (s.length : Int) - (x.at_ : Nat) := by omega
    have eal : ((x.at_ : Nat) : Int) + (x.len : Nat) = ((x.at_ + x.len : Nat) : Int) := by omega
    have eh3 := eh.trans e3
    have st3 := st.ext eh3
    have put : ∀ (kd : Int) (h4 : Heap), h4 = h3 → leafOf ts s x = [⟨kd, (s.drop x.at_).take x.len⟩] → True := fun _ _ _ _ => trivial
    simp (disch := omega) only [go_sem, seval, g3, q1, q2, q3, q4]
    by_cases p1 : x.kind < 0
    · simp (disch := omega) only [go_sem, seval, p1]
      have hleaf : leafOf ts s x = [⟨-1, (s.drop x.at_).take x.len⟩] := by unfold leafOf; rw [if_pos p1]
      simp (disch := omega) only [go_sem, seval, g3, eal]
      refine str_both (i := x.at_) (j := x.at_ + x.len) (by omega) (by omega) ?_
      rw [Nat.add_sub_cancel_left]
      simp (disch := omega) only [go_sem, seval]
      refine gappend (m := h.nxt) (xs := (l.take i).flatMap (leafOf ts s)) (ys := [(⟨-1, (s.drop x.at_).take x.len⟩ : Lf)]) T_76 rfl T_79 rfl (by decide) (by decide) ((L.ext e3).ext (Ext.add _ _)) (LSlc.lit (b := h3.nxt) (ls := [[.int .i64 (-1), .str ((s.drop x.at_).take x.len)]]) (by simp) get_add_self rfl (Reps.one (x := (⟨-1, (s.drop x.at_).take x.len⟩ : Lf)) rfl) rfl rfl) (by have := eh3.nxt; simp; omega) (hroomL _ hcnt) ?_
      intro v5 h5 L5 u5 b5
      simp (disch := omega) only [go_sem, seval]
      refine AgainK.mk (l.length - (i + 1)) (by simp only; omega) ⟨i + 1, v5, by omega, rfl, (((eh3.trans (Ext.add _ _)).upd (h.nxt ≤ ·)).trans' u5 fun b h1 h2 => L.blk h1).ext fun b hb => by omega, ?_, rfl, by simp [Has]⟩
      rw [hnx, hleaf]; exact L5
    · by_cases p2 : x.kind ≥ (tn : Int)
      · have hno : ts[x.kind.toNat]? = none := List.getElem?_eq_none (by omega)
        simp (disch := omega) only [go_sem, seval, p1, p2]
        have hleaf : leafOf ts s x = [⟨-1, (s.drop x.at_).take x.len⟩] := by unfold leafOf; rw [if_neg p1, hno]
        simp (disch := omega) only [go_sem, seval, g3, eal]
        refine str_both (i := x.at_) (j := x.at_ + x.len) (by omega) (by omega) ?_
        rw [Nat.add_sub_cancel_left]
        simp (disch := omega) only [go_sem, seval]
        refine gappend (m := h.nxt) (xs := (l.take i).flatMap (leafOf ts s)) (ys := [(⟨-1, (s.drop x.at_).take x.len⟩ : Lf)]) T_76 rfl T_79 rfl (by decide) (by decide) ((L.ext e3).ext (Ext.add _ _)) (LSlc.lit (b := h3.nxt) (ls := [[.int .i64 (-1), .str ((s.drop x.at_).take x.len)]]) (by simp) get_add_self rfl (Reps.one (x := (⟨-1, (s.drop x.at_).take x.len⟩ : Lf)) rfl) rfl rfl) (by have := eh3.nxt; simp; omega) (hroomL _ hcnt) ?_
        intro v5 h5 L5 u5 b5
        simp (disch := omega) only [go_sem, seval]
        refine AgainK.mk (l.length - (i + 1)) (by simp only; omega) ⟨i + 1, v5, by omega, rfl, (((eh3.trans (Ext.add _ _)).upd (h.nxt ≤ ·)).trans' u5 fun b h1 h2 => L.blk h1).ext fun b hb => by omega, ?_, rfl, by simp [Has]⟩
        rw [hnx, hleaf]; exact L5
      · obtain ⟨kd, hkd⟩ : ∃ kd : Nat, x.kind = kd := ⟨x.kind.toNat, by omega⟩
        have hkl : kd < ts.length := by omega
        obtain ⟨b4, o4, cs4, l4, rfl, rfl, hb4, hg4, rfl, hr4, ht4, hc4⟩ := st3.at_ (i := kd) (x := ts[kd]) (List.getElem?_eq_getElem hkl) (k := 3) rfl
        have c42 : cs4[o4 + kd * 3 + 2]? = some (.bool ts[kd].skip) := hc4 2 (by decide)
        have hsome : ts[x.kind.toNat]? = some ts[kd] := by rw [hkd, Int.toNat_natCast]; exact List.getElem?_eq_getElem hkl
        have p3 : x.kind < (tn : Int) := by omega
        have p4 : 0 ≤ x.kind := by omega
        have hkt : x.kind.toNat = kd := by omega
        simp (disch := omega) only [go_sem, seval, p1, p2, p3, p4, hkt, hg4, c42]
        cases hsk : ts[kd].skip with
        | true =>
          simp (disch := omega) only [go_sem, seval]
          refine AgainK.mk (l.length - (i + 1)) (by simp only; omega) ⟨i + 1, .slc wa wn wc wz, by omega, rfl, eh3, ?_, rfl, by simp [Has]⟩
          rw [hnx, show leafOf ts s x = [] from by unfold leafOf; rw [if_neg p1, hsome]; simp [hsk], List.append_nil]
          exact L.ext e3
        | false =>
          simp (disch := omega) only [go_sem, seval]
          have hleaf : leafOf ts s x = [⟨x.kind, (s.drop x.at_).take x.len⟩] := by unfold leafOf; rw [if_neg p1, hsome]; simp [hsk]
          simp (disch := omega) only [go_sem, seval, g3, eal]
          refine str_both (i := x.at_) (j := x.at_ + x.len) (by omega) (by omega) ?_
          rw [Nat.add_sub_cancel_left]
          simp (disch := omega) only [go_sem, seval]
          refine gappend (m := h.nxt) (xs := (l.take i).flatMap (leafOf ts s)) (ys := [(⟨x.kind, (s.drop x.at_).take x.len⟩ : Lf)]) T_76 rfl T_79 rfl (by decide) (by decide) ((L.ext e3).ext (Ext.add _ _)) (LSlc.lit (b := h3.nxt) (ls := [[.int .i64 (x.kind), .str ((s.drop x.at_).take x.len)]]) (by simp) get_add_self rfl (Reps.one (x := (⟨x.kind, (s.drop x.at_).take x.len⟩ : Lf)) rfl) rfl rfl) (by have := eh3.nxt; simp; omega) (hroomL _ hcnt) ?_
          intro v5 h5 L5 u5 b5
          simp (disch := omega) only [go_sem, seval]
          refine AgainK.mk (l.length - (i + 1)) (by simp only; omega) ⟨i + 1, v5, by omega, rfl, (((eh3.trans (Ext.add _ _)).upd (h.nxt ≤ ·)).trans' u5 fun b h1 h2 => L.blk h1).ext fun b hb => by omega, ?_, rfl, by simp [Has]⟩
          rw [hnx, hleaf]; exact L5
  · simp (disch := omega) only [go_sem, seval, hlt]
    have hie : i = l.length := by omega
    subst hie
    rw [List.take_length] at L
    obtain ⟨h9, l9, n9, L9, u9⟩ := L.frz
    exact hQ _ _ h9 l9 ⟨((eh.upd (h.nxt ≤ ·)).trans (u9.weak fun b _ => And.left)).ext fun b hb => by omega, L9⟩

theorem PatsOf.none : PatsOf [] [] := ⟨rfl, fun i t h => by simp at h⟩
theorem PatsOf.cons {t : Tok} {ts : List Tok} {l : List Item} {ls : List (List Item)} (h : parse t.rex = some l) (hP : PatsOf ts ls) : PatsOf (t :: ts) (l :: ls) :=
  ⟨by simp [hP.1], fun i u hu => by
    cases i with
    | zero => simp only [List.getElem?_cons_zero, Option.some.injEq] at hu ⊢; subst hu; exact h
    | succ i => simpa using hP.2 i u (by simpa using hu)⟩
theorem PatsOf.same {ts : List Tok} {ls ms : List (List Item)} (h : PatsOf ts ls) (k : PatsOf ts ms) : ls = ms := by
  refine List.ext_getElem? fun i => ?_
  by_cases hi : i < ts.length
  · rw [← h.2 i ts[i] (List.getElem?_eq_getElem hi), ← k.2 i ts[i] (List.getElem?_eq_getElem hi)]
  · rw [List.getElem?_eq_none (by have := h.1; omega), List.getElem?_eq_none (by have := k.1; omega)]
theorem map_items_inj : ∀ {es ds : List Rx}, (∀ e ∈ es, e.ok) → (∀ e ∈ ds, e.ok) → es.map Rx.items = ds.map Rx.items → es = ds
  | [], [], _, _, _ => rfl
  | [], d :: ds, _, _, h => by simp at h
  | e :: es, [], _, _, h => by simp at h
  | e :: es, d :: ds, h1, h2, h => by
    simp only [List.map_cons, List.cons.injEq] at h
    rw [items_inj (h1 e (by simp)) (h2 d (by simp)) h.1, map_items_inj (fun x hx => h1 x (by simp [hx])) (fun x hx => h2 x (by simp [hx])) h.2]
theorem PatsOf.rx {ts : List Tok} {es ds : List Rx} (h : PatsOf ts (es.map Rx.items)) (k : PatsOf ts (ds.map Rx.items)) (h1 : ∀ e ∈ es, Fit e) (h2 : ∀ e ∈ ds, e.ok) : es = ds :=
  map_items_inj (fun e he => (h1 e he).ok) h2 (h.same k)
theorem PatsOf.all {ts : List Tok} {ls : List (List Item)} (h : PatsOf ts ls) : ∀ t ∈ ts, parse t.rex ≠ Option.none := by
  intro t ht
  obtain ⟨i, hi, rfl⟩ := List.getElem_of_mem ht
  have hl := h.1
  rw [h.2 i ts[i] (List.getElem?_eq_getElem hi), List.getElem?_eq_getElem (by omega)]
  simp

def toks6 : List Tok := [⟨[97], [97, 43], false⟩, ⟨[98], [32], true⟩]
def rxs6 : List Rx := [.rep 5 (.cls [⟨97, 97⟩]), .cls [⟨32, 32⟩]]
theorem pats6 : PatsOf toks6 (rxs6.map Rx.items) := .cons (by kernel_rfl) (.cons (by kernel_rfl) .none)
theorem rxs6_ok : ∀ e ∈ rxs6, e.ok := by
  intro e he
  simp only [rxs6, List.mem_cons, List.not_mem_nil, or_false] at he
  rcases he with rfl | rfl
  · exact ⟨by omega, by simp, by intro x hx; simp only [List.mem_singleton] at hx; subst hx; exact ⟨by decide, by decide, by decide⟩⟩
  · exact ⟨by simp, by intro x hx; simp only [List.mem_singleton] at hx; subst hx; exact ⟨by decide, by decide, by decide⟩⟩
theorem toksL6 : toksL rxs6 5 0 [97, 97, 32, 98] = [⟨0, 0, 2⟩, ⟨1, 2, 1⟩, ⟨-1, 3, 1⟩] := by kernel_rfl
theorem eq71 : binOpA T .eql 71 (.agg [.int .i64 0, .int .i64 0, .int .i64 2]) (.agg [.int .i64 0, .int .i64 0, .int .i64 2]) = some (.bool true) := by kernel_rfl

theorem begun6_uf {h : Heap} : UF T F 37 [] h fun v h' => Ext h h' ∧ v = .bool true := by
  refine UF.gen fun Q hQ => UF.of (F_37) (c := _) rfl ?_
  unfold Try.f37
  simp only [List.length, Nat.reduceSub, Nat.reduceAdd, List.replicate, List.cons_append, List.nil_append]
  simp (disch := omega) only [go_sem, seval]
  have e0 : Ext h (h.add (.cells [.str [97], .str [97, 43], .bool false, .str [98], .str [32], .bool true] true)) := Ext.add _ _
  have lit : ∀ {h : Heap}, Lst ((h.add (.cells [.str [97], .str [97, 43], .bool false, .str [98], .str [32], .bool true] true)).frzV (.slc (some (h.nxt, 0)) 2 (some 2) 3)) (.slc (some (h.nxt, 0)) 2 (some 2) 3) toks6 := fun {h} =>
    (LSlc.lit (wr := true) (b := h.nxt) (ls := [[.str [97], .str [97, 43], .bool false], [.str [98], .str [32], .bool true]]) (by simp) get_add_self rfl (.cons rfl (.cons rfl .nil)) rfl rfl).frz
  have efz : ∀ {h : Heap}, Ext h ((h.add (.cells [.str [97], .str [97, 43], .bool false, .str [98], .str [32], .bool true] true)).frzV (.slc (some (h.nxt, 0)) 2 (some 2) 3)) := fun {h} =>
    (((Ext.add h _).upd (h.nxt ≤ ·)).trans' (frzV_upd (S := (· = h.nxt)) fun b e => by simp [AV.base] at e; exact e.symm) fun b e _ => by omega).ext fun b hb => by omega
  refine callV_ofU F_40 rfl ((UF.less (frzV_le _ _) (LexRows40_uf (lit (h := h)) (by decide))).mono ?_)
  rintro v1 h1 ⟨e1, m1⟩
  have eh1 := (efz (h := h)).trans e1
  rcases m1 with ⟨_, t, ht, hn⟩ | ⟨es, hP, hF, m1⟩
  · exact absurd hn (pats6.all t ht)
  obtain rfl := hP.rx pats6 hF rxs6_ok
  rcases m1 with ⟨w, G, S, R, rfl, L1, W⟩ | ⟨_, hc⟩
  · simp (disch := omega) only [go_sem, seval]
    refine callV_ofU F_41 rfl ((All_uf (s := [97, 97, 32, 98]) L1 W (by simp)).mono ?_)
    rintro v2 h2 ⟨e2, ts, ht, L2⟩
    simp (disch := omega) only [go_sem, seval]
    obtain rfl := ht.unique (toksL_spec rxs6_ok 5 0 [97, 97, 32, 98] rfl (by omega) (by simp))
    rw [toksL6] at L2
    obtain ⟨a2, n2, c2, z2, rfl, hn2⟩ := L2.form
    refine callV_ofU F_42 rfl ((UF.less (frzV_le _ _) (Leaves_uf (s := [97, 97, 32, 98]) (lit (h := h2)) (L2.ext efz) (by decide) (by simp) (by simp) (by decide))).mono ?_)
    rintro v3 h3 ⟨e3, L3⟩
    have e23 := (efz (h := h2)).trans e3
    have hlv : ([⟨0, 0, 2⟩, ⟨1, 2, 1⟩, ⟨-1, 3, 1⟩] : List Tk).flatMap (leafOf toks6 [97, 97, 32, 98]) = [⟨0, [97, 97]⟩, ⟨-1, [98]⟩] := by kernel_rfl
    rw [hlv] at L3
    obtain ⟨a3, n3, c3, z3, rfl, hn3⟩ := L3.form
    simp (disch := omega) only [go_sem, seval]
    have lit4 : Lst ((h3.add (.cells [.str [], .str [40], .bool false] true)).frzV (.slc (some (h3.nxt, 0)) 1 (some 1) 3)) (.slc (some (h3.nxt, 0)) 1 (some 1) 3) [(⟨[], [40], false⟩ : Tok)] :=
      (LSlc.lit (wr := true) (b := h3.nxt) (ls := [[.str [], .str [40], .bool false]]) (by simp) get_add_self rfl (.cons rfl .nil) rfl rfl).frz
    have ef4 : Ext h3 ((h3.add (.cells [.str [], .str [40], .bool false] true)).frzV (.slc (some (h3.nxt, 0)) 1 (some 1) 3)) :=
      (((Ext.add h3 _).upd (h3.nxt ≤ ·)).trans' (frzV_upd (S := (· = h3.nxt)) fun b e => by simp [AV.base] at e; exact e.symm) fun b e _ => by omega).ext fun b hb => by omega
    refine callV_ofU F_40 rfl ((UF.less (frzV_le _ _) (LexRows40_uf lit4 (by simp))).mono ?_)
    rintro v4 h4 ⟨e4, m4⟩
    have e34 := ef4.trans e4
    have hno : v4 = .tup [.slc none 0 (some 0) 0, .bool false] := by
      rcases m4 with ⟨h5, _⟩ | ⟨es, hP, _⟩
      · exact h5
      · exact absurd parse_open (hP.all ⟨[], [40], false⟩ (by simp))
    subst hno
    have hn2' : n2 = 3 := hn2
    have hn3' : n3 = 2 := hn3
    subst hn2' hn3'
    have L24 := (L2.ext e23).ext e34
    have L34 := L3.ext e34
    obtain ⟨b1, o1, cs1, l1, rfl, rfl, hb1, hg1, rfl, hr1, ht1, hc1⟩ := L24.at_ (i := 0) (x := ⟨0, 0, 2⟩) rfl (k := 3) rfl
    obtain ⟨b2, o2, cs2, l2, e5, _, hb2, hg2, rfl, hr2, ht2, hc2⟩ := L24.at_ (i := 2) (x := ⟨-1, 3, 1⟩) rfl (k := 3) rfl
    simp only [Option.some.injEq, Prod.mk.injEq] at e5
    obtain ⟨rfl, rfl⟩ := e5
    rw [hg1] at hg2
    simp only [Option.some.injEq, Blk.cells.injEq, and_true] at hg2
    subst hg2
    obtain ⟨b3, o3, cs3, l3, rfl, rfl, hb3, hg3, rfl, hr3, ht3, hc3⟩ := L34.at_ (i := 0) (x := ⟨0, [97, 97]⟩) rfl (k := 2) rfl
    have c2k : cs1[o1 + 6]? = some (.int .i64 (-1)) := hc2 0 (by decide)
    have c3t : cs3[o3 + 1]? = some (.str [97, 97]) := hc3 1 (by decide)
    have ht1' : (cs1.drop o1).take 3 = [.int .i64 0, .int .i64 0, .int .i64 2] := by simpa using ht1
    have hse : strOp .eql [97, 97] [97, 97] = some (.bool true) := rfl
    simp (disch := omega) only [go_sem, seval, hg1, hg3, c2k, c3t, hr1, ht1', eq71, hse]
    exact hQ _ _ ⟨((eh1.trans e2).trans e23).trans e34, rfl⟩
  · simp [ncls, rxs6] at hc

end Go.Proofs.Ytenpjkinpecnfaa
