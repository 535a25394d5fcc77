/- An edit that puts what was there keeps all tokens. For numbers of kinds (60), of a text (30), where, and how many. -/
import Derived.Test.YtenpjkinpecnfaaRelexC
import Derived.KernelRfl
namespace Go.Proofs.Ytenpjkinpecnfaa
open Go Go.Am
set_option maxRecDepth 100000
set_option maxHeartbeats 2000000
set_option linter.unusedSimpArgs false
set_option linter.unusedVariables false

theorem Edit_bad {h : Heap} {rv lv : AV} {s put : List UInt8} {a n : Nat} (ha : s.length < a) : UF T F 45 [rv, .str s, lv, .agg [.int .i64 (a : Nat), .int .i64 (n : Nat), .str put]] h fun v' h' => Ext h h' ∧ v' = .tup [.str [], .slc none 0 (some 0) 0, .int .i64 0, .bool false] := by
  refine UF.gen fun Q hQ => UF.of (F_45) (c := _) rfl ?_
  unfold Try.f45
  simp only [List.length, Nat.reduceSub, Nat.reduceAdd, List.replicate, List.cons_append, List.nil_append]
  simp (disch := omega) only [go_sem, seval]
  have q1 : ¬ ((a : Nat) : Int) < 0 := by omega
  have q2 : ((a : Nat) : Int) > (s.length : Int) := by omega
  have e1 : Ext h (((h.add (.cells [.str s] true)).add (.cells [.int .i64 (a : Nat), .int .i64 (n : Nat), .str put] true)).add (.cells [.str []] true)) := ((Ext.add _ _).trans (Ext.add _ _)).trans (Ext.add _ _)
  have g0 : (((h.add (.cells [.str s] true)).add (.cells [.int .i64 (a : Nat), .int .i64 (n : Nat), .str put] true)).add (.cells [.str []] true)).get h.nxt = some (.cells [.str s] true) := by rw [get_add_lt (by simp; omega), get_add_lt (by simp), get_add_self]
  have g1 : (((h.add (.cells [.str s] true)).add (.cells [.int .i64 (a : Nat), .int .i64 (n : Nat), .str put] true)).add (.cells [.str []] true)).get (h.nxt + 1) = some (.cells [.int .i64 (a : Nat), .int .i64 (n : Nat), .str put] true) := by rw [get_add_lt (by simp), ← Heap.add_nxt h (.cells [.str s] true), get_add_self]
  have g2 : (((h.add (.cells [.str s] true)).add (.cells [.int .i64 (a : Nat), .int .i64 (n : Nat), .str put] true)).add (.cells [.str []] true)).get (h.nxt + 1 + 1) = some (.cells [.str []] true) := by
    have : ((h.add (.cells [.str s] true)).add (.cells [.int .i64 (a : Nat), .int .i64 (n : Nat), .str put] true)).nxt = h.nxt + 1 + 1 := by simp
    rw [← this, get_add_self]
  generalize (((h.add (.cells [.str s] true)).add (.cells [.int .i64 (a : Nat), .int .i64 (n : Nat), .str put] true)).add (.cells [.str []] true)) = h1 at *
  simp (disch := omega) only [go_sem, seval, g0, g1, q1, q2, g2, get_put_self]
  exact hQ _ _ ⟨e1.put (by omega), rfl⟩

theorem tk_neq {x : Tk} : binOpA T .neq 71 (.agg [.int .i64 x.kind, .int .i64 (x.at_ : Nat), .int .i64 (x.len : Nat)]) (.agg [.int .i64 x.kind, .int .i64 (x.at_ : Nat), .int .i64 (x.len : Nat)]) = some (.bool false) := by
  simp [binOpA, eqv, eqDepth, T_71, T_3, eqFs, Am.part, TK.isAgg]
theorem SameTokens_uf {h : Heap} {a b : AV} {xs : List Tk} (sx : Lst h a xs) (sy : Lst h b xs) (hx : xs.length ≤ 10000) : UF T F 47 [a, b] h fun v' h' => Ext h h' ∧ v' = .bool true := by
  obtain ⟨aa, an, ac, az, rfl, han⟩ := sx.form
  obtain ⟨ba, bn, bc, bz, rfl, hbn⟩ := sy.form
  have : bn = an := by omega
  subst this
  refine UF.gen fun Q hQ => UF.of (F_47) (c := _) rfl ?_
  unfold Try.f47
  simp only [List.length, Nat.reduceSub, Nat.reduceAdd, List.replicate, List.cons_append, List.nil_append]
  simp (disch := omega) only [go_sem, seval]
  refine LoopU_while (fun m st hh => ∃ (n : Nat), n ≤ xs.length ∧ m = xs.length - n ∧ Ext h hh ∧ Keep st 26 [(0, .slc aa bn ac az), (1, .slc ba bn bc bz), (5, .int .i64 (n : Nat))]) xs.length
    ⟨0, by omega, by omega, Ext.refl _, rfl, by simp [Has]⟩ ?_
  rintro m st hh ⟨n, hn, rfl, eh, hk⟩
  rw [hk.eq]
  obtain ⟨k0, k1, k5, -⟩ := hk.2
  simp only [slotsFrom, Nat.reduceAdd] at k0 k1 k5 ⊢
  simp only [k0, k1, k5]
  simp (disch := omega) only [go_sem, seval]
  by_cases hlt : (n : Int) < (bn : Int)
  · have hnl : n < xs.length := by omega
    obtain ⟨b1, o1, cs1, l1, rfl, rfl, hb1, hg1, rfl, hr1, ht1, hc1⟩ := sx.at_ (i := n) (x := xs[n]) (List.getElem?_eq_getElem hnl) (k := 3) rfl
    obtain ⟨b2, o2, cs2, l2, rfl, rfl, hb2, hg2, rfl, hr2, ht2, hc2⟩ := sy.at_ (i := n) (x := xs[n]) (List.getElem?_eq_getElem hnl) (k := 3) rfl
    have g1 := (eh.get _ hb1).trans hg1
    have g2 := (eh.get _ hb2).trans hg2
    simp (disch := omega) only [go_sem, seval, hlt]
    refine DrawU_quiet (by rfl) ?_
    simp (disch := omega) only [go_sem, seval, hlt, g1, g2, hr1, ht1, hr2, ht2, Int.toNat_natCast, tk_neq]
    exact AgainK.mk (xs.length - (n + 1)) (by simp only; omega) ⟨n + 1, by omega, rfl, eh.trans (Ext.bump _ _), rfl, by simp [Has]⟩
  · simp (disch := omega) only [go_sem, seval, hlt]
    exact hQ _ _ ⟨eh, rfl⟩

def toks7 : List Tok := [⟨[97], [97, 43], false⟩, ⟨[98], [98], false⟩]
def rxs7 : List Rx := [.rep 5 (.cls [⟨97, 97⟩]), .cls [⟨98, 98⟩]]
theorem pats7 : PatsOf toks7 (rxs7.map Rx.items) := .cons (by kernel_rfl) (.cons (by kernel_rfl) .none)
theorem rxs7_ok : ∀ e ∈ rxs7, e.ok := by
  intro e he
  simp only [rxs7, List.mem_cons, List.not_mem_nil, or_false] at he
  rcases he with rfl | rfl
  · exact ⟨by omega, by simp, by intro x hx; simp only [List.mem_singleton] at hx; subst hx; exact ⟨by decide, by decide, by decide⟩⟩
  · exact ⟨by simp, by intro x hx; simp only [List.mem_singleton] at hx; subst hx; exact ⟨by decide, by decide, by decide⟩⟩
theorem toksL7 : toksL rxs7 5 0 [97, 97, 98, 98] = [⟨0, 0, 2⟩, ⟨1, 2, 1⟩, ⟨1, 3, 1⟩] := by kernel_rfl
theorem toksL7' : toksL rxs7 5 0 [97, 98, 98, 98] = [⟨0, 0, 1⟩, ⟨1, 1, 1⟩, ⟨1, 2, 1⟩, ⟨1, 3, 1⟩] := by kernel_rfl
theorem kept7 : keptN [97, 97, 98, 98] [97, 98, 98, 98] [⟨0, 0, 2⟩, ⟨1, 2, 1⟩, ⟨1, 3, 1⟩] [⟨0, 0, 1⟩, ⟨1, 1, 1⟩, ⟨1, 2, 1⟩, ⟨1, 3, 1⟩] = 2 := by kernel_rfl
theorem begun7_uf {h : Heap} : UF T F 43 [] h fun v h' => Ext h h' ∧ v = .bool true := by
  refine UF.gen fun Q hQ => UF.of (F_43) (c := _) rfl ?_
  unfold Try.f43
  simp only [List.length, Nat.reduceSub, Nat.reduceAdd, List.replicate, List.cons_append, List.nil_append]
  simp (disch := omega) only [go_sem, seval]
  have lit : Lst ((h.add (.cells [.str [97], .str [97, 43], .bool false, .str [98], .str [98], .bool false] true)).frzV (.slc (some (h.nxt, 0)) 2 (some 2) 3)) (.slc (some (h.nxt, 0)) 2 (some 2) 3) toks7 :=
    (LSlc.lit (wr := true) (b := h.nxt) (ls := [[.str [97], .str [97, 43], .bool false], [.str [98], .str [98], .bool false]]) (by simp) get_add_self rfl (.cons rfl (.cons rfl .nil)) rfl rfl).frz
  have efz : Ext h ((h.add (.cells [.str [97], .str [97, 43], .bool false, .str [98], .str [98], .bool false] true)).frzV (.slc (some (h.nxt, 0)) 2 (some 2) 3)) :=
    (((Ext.add h _).upd (h.nxt ≤ ·)).trans' (frzV_upd (S := (· = h.nxt)) fun b e => by simp [AV.base] at e; exact e.symm) fun b e _ => by omega).ext fun b hb => by omega
  refine callV_ofU F_40 rfl ((UF.less (frzV_le _ _) (LexRows40_uf lit (by decide))).mono ?_)
  rintro v1 h1 ⟨e1, m1⟩
  have eh1 := efz.trans e1
  rcases m1 with ⟨_, t, ht, hn⟩ | ⟨es, hP, hF, m1⟩
  · exact absurd hn (pats7.all t ht)
  obtain rfl := hP.rx pats7 hF rxs7_ok
  rcases m1 with ⟨w, G, S, R, rfl, L1, W⟩ | ⟨_, hc⟩
  · simp (disch := omega) only [go_sem, seval]
    refine callV_ofU F_41 rfl ((All_uf (s := [97, 97, 98, 98]) L1 W (by simp)).mono ?_)
    rintro v2 h2 ⟨e2, ts, ht, L2⟩
    simp (disch := omega) only [go_sem, seval]
    obtain rfl := ht.unique (toksL_spec rxs7_ok 5 0 [97, 97, 98, 98] rfl (by omega) (by simp))
    rw [toksL7] at L2
    refine callV_ofU F_45 rfl ((Edit_uf (s := [97, 97, 98, 98]) (put := [98]) (a := 1) (n := 1) (L1.ext e2) W L2 (by simp) (by simp) (by simp) (by decide) (by simp)).mono ?_)
    rintro v3 h3 ⟨e3, w3, m3, rfl, L3, hm3⟩
    have hsp : spliced [97, 97, 98, 98] 1 1 [98] = [97, 98, 98, 98] := rfl
    rw [hsp] at hm3 ⊢
    obtain rfl := hm3.unique (toksL_spec rxs7_ok 5 0 [97, 98, 98, 98] rfl (by omega) (by simp))
    rw [toksL7'] at L3 ⊢
    rw [kept7]
    obtain ⟨a3, n3, c3, z3, rfl, hn3⟩ := L3.form
    have hn3' : n3 = 4 := hn3
    subst hn3'
    simp (disch := omega) only [go_sem, seval]
    refine callV_ofU F_45 rfl ((Edit_bad (s := [97, 97, 98, 98]) (put := []) (a := 5) (n := 0) (by simp)).mono ?_)
    rintro v4 h4 ⟨e4, rfl⟩
    have hse : strOp .eql [97, 98, 98, 98] [97, 98, 98, 98] = some (.bool true) := rfl
    simp (disch := omega) only [go_sem, seval, hse]
    exact hQ _ _ ⟨((eh1.trans e2).trans e3).trans e4, rfl⟩
  · simp [ncls, rxs7] at hc

end Go.Proofs.Ytenpjkinpecnfaa
