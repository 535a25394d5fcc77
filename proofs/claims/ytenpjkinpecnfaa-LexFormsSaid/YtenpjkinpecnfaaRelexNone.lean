/- An edit that puts what was there keeps all tokens. For numbers of kinds (60), of a text (30), where, and how many. -/
import Derived.Test.YtenpjkinpecnfaaRelexC
import Derived.KernelRfl
namespace Go.Proofs.Ytenpjkinpecnfaa
open Go Go.Am
set_option maxRecDepth 100000
set_option maxHeartbeats 2000000
set_option linter.unusedSimpArgs false
set_option linter.unusedVariables false

theorem Edit_bad {h : Heap} {rv lv : AV} {s put : List UInt8} {a n : Nat} (ha : s.length < a) : UF T F 45 [rv, .str s, lv, .agg [.int .i64 (a : Nat), .int .i64 (n : Nat), .str put]] h fun v' h' => Ext h h' ∧ v' = .tup [.str [], .slc none 0 (some 0) 0, .int .i64 0, .bool false] := by
  refine UF.gen fun Q hQ => UF.of (F_45) (c := _) rfl ?_
  unfold Try.f45
  simp only [List.length, Nat.reduceSub, Nat.reduceAdd, List.replicate, List.cons_append, List.nil_append]
  simp (disch := omega) only [go_sem, seval]
  have q1 : ¬ ((a : Nat) : Int) < 0 := by omega
  have q2 : ((a : Nat) : Int) > (s.length : Int) := by omega
  have e1 : Ext h (((h.add (.cells [.str s] true)).add (.cells [.int .i64 (a : Nat), .int .i64 (n : Nat), .str put] true)).add (.cells [.str []] true)) := ((Ext.add _ _).trans (Ext.add _ _)).trans (Ext.add _ _)
  have g0 : (((h.add (.cells [.str s] true)).add (.cells [.int .i64 (a : Nat), .int .i64 (n : Nat), .str put] true)).add (.cells [.str []] true)).get h.nxt = some (.cells [.str s] true) := by rw [get_add_lt (by simp; omega), get_add_lt (by simp), get_add_self]
  have g1 : (((h.add (.cells [.str s] true)).add (.cells [.int .i64 (a : Nat), .int .i64 (n : Nat), .str put] true)).add (.cells [.str []] true)).get (h.nxt + 1) = some (.cells [.int .i64 (a : Nat), .int .i64 (n : Nat), .str put] true) := by rw [get_add_lt (by simp), ← Heap.add_nxt h (.cells [.str s] true), get_add_self]
  have g2 : (((h.add (.cells [.str s] true)).add (.cells [.int .i64 (a : Nat), .int .i64 (n : Nat), .str put] true)).add (.cells [.str []] true)).get (h.nxt + 1 + 1) = some (.cells [.str []] true) := by
    have : ((h.add (.cells [.str s] true)).add (.cells [.int .i64 (a : Nat), .int .i64 (n : Nat), .str put] true)).nxt = h.nxt + 1 + 1 := by simp
    rw [← this, get_add_self]
  generalize (((h.add (.cells [.str s] true)).add (.cells [.int .i64 (a : Nat), .int .i64 (n : Nat), .str put] true)).add (.cells [.str []] true)) = h1 at *
  simp (disch := omega) only [go_sem, seval, g0, g1, q1, q2, g2, get_put_self]
  exact hQ _ _ ⟨e1.put (by omega), rfl⟩

theorem tk_neq {x : Tk} : binOpA T .neq 71 (.agg [.int .i64 x.kind, .int .i64 (x.at_ : Nat), .int .i64 (x.len : Nat)]) (.agg [.int .i64 x.kind, .int .i64 (x.at_ : Nat), .int .i64 (x.len : Nat)]) = some (.bool false) := by
  simp [binOpA, eqv, eqDepth, T_71, T_3, eqFs, Am.part, TK.isAgg]
theorem SameTokens_uf {h : Heap} {a b : AV} {xs : List Tk} (sx : Lst h a xs) (sy : Lst h b xs) (hx : xs.length ≤ 10000) : UF T F 47 [a, b] h fun v' h' => Ext h h' ∧ v' = .bool true := by
  obtain ⟨aa, an, ac, az, rfl, han⟩ := sx.form
  obtain ⟨ba, bn, bc, bz, rfl, hbn⟩ := sy.form
  have : bn = an := by omega
  subst this
  refine UF.gen fun Q hQ => UF.of (F_47) (c := _) rfl ?_
  unfold Try.f47
  simp only [List.length, Nat.reduceSub, Nat.reduceAdd, List.replicate, List.cons_append, List.nil_append]
  simp (disch := omega) only [go_sem, seval]
  refine LoopU_while (fun m st hh => ∃ (n : Nat), n ≤ xs.length ∧ m = xs.length - n ∧ Ext h hh ∧ Keep st 26 [(0, .slc aa bn ac az), (1, .slc ba bn bc bz), (5, .int .i64 (n : Nat))]) xs.length
    ⟨0, by omega, by omega, Ext.refl _, rfl, by simp [Has]⟩ ?_
  rintro m st hh ⟨n, hn, rfl, eh, hk⟩
  rw [hk.eq]
  obtain ⟨k0, k1, k5, -⟩ := hk.2
  simp only [slotsFrom, Nat.reduceAdd] at k0 k1 k5 ⊢
  simp only [k0, k1, k5]
  simp (disch := omega) only [go_sem, seval]
  by_cases hlt : (n : Int) < (bn : Int)
  · have hnl : n < xs.length := by omega
    obtain ⟨b1, o1, cs1, l1, rfl, rfl, hb1, hg1, rfl, hr1, ht1, hc1⟩ := sx.at_ (i := n) (x := xs[n]) (List.getElem?_eq_getElem hnl) (k := 3) rfl
    obtain ⟨b2, o2, cs2, l2, rfl, rfl, hb2, hg2, rfl, hr2, ht2, hc2⟩ := sy.at_ (i := n) (x := xs[n]) (List.getElem?_eq_getElem hnl) (k := 3) rfl
    have g1 := (eh.get _ hb1).trans hg1
    have g2 := (eh.get _ hb2).trans hg2
    simp (disch := omega) only [go_sem, seval, hlt]
    refine DrawU_quiet (by rfl) ?_
    simp (disch := omega) only [go_sem, seval, hlt, g1, g2, hr1, ht1, hr2, ht2, Int.toNat_natCast, tk_neq]
    exact AgainK.mk (xs.length - (n + 1)) (by simp only; omega) ⟨n + 1, by omega, rfl, eh.trans (Ext.bump _ _), rfl, by simp [Has]⟩
  · simp (disch := omega) only [go_sem, seval, hlt]
    exact hQ _ _ ⟨eh, rfl⟩

def toks7 : List Tok := [⟨[97], [97, 43], false⟩, ⟨[98], [98], false⟩]
def rxs7 : List Rx := [.rep 5 (.cls [⟨97, 97⟩]), .cls [⟨98, 98⟩]]
theorem pats7 : PatsOf toks7 (rxs7.map Rx.items) := .cons (by kernel_rfl) (.cons (by kernel_rfl) .none)
theorem rxs7_ok : ∀ e ∈ rxs7, e.ok := by
  intro e he
  simp only [rxs7, List.mem_cons, List.not_mem_nil, or_false] at he
  rcases he with rfl | rfl
  · exact ⟨by omega, by simp, by intro x hx; simp only [List.mem_singleton] at hx; subst hx; exact ⟨by decide, by decide, by decide⟩⟩
  · exact ⟨by simp, by intro x hx; simp only [List.mem_singleton] at hx; subst hx; exact ⟨by decide, by decide, by decide⟩⟩
theorem toksL7 : toksL rxs7 5 0 [97, 97, 98, 98] = [⟨0, 0, 2⟩, ⟨1, 2, 1⟩, ⟨1, 3, 1⟩] := by kernel_rfl
theorem toksL7' : toksL rxs7 5 0 [97, 98, 98, 98] = [⟨0, 0, 1⟩, ⟨1, 1, 1⟩, ⟨1, 2, 1⟩, ⟨1, 3, 1⟩] := by kernel_rfl
theorem kept7 : keptN [97, 97, 98, 98] [97, 98, 98, 98] [⟨0, 0, 2⟩, ⟨1, 2, 1⟩, ⟨1, 3, 1⟩] [⟨0, 0, 1⟩, ⟨1, 1, 1⟩, ⟨1, 2, 1⟩, ⟨1, 3, 1⟩] = 2 := by kernel_rfl
theorem begun7_uf {h : Heap} : UF T F 43 [] h fun v h' => Ext h h' ∧ v = .bool true := by
  refine UF.gen fun Q hQ => UF.of (F_43) (c := _) rfl ?_
  unfold Try.f43
  simp only [List.length, Nat.reduceSub, Nat.reduceAdd, List.replicate, List.cons_append, List.nil_append]
  simp (disch := omega) only [go_sem, seval]
  have lit : Lst ((h.add (.cells [.str [97], .str [97, 43], .bool false, .str [98], .str [98], .bool false] true)).frzV (.slc (some (h.nxt, 0)) 2 (some 2) 3)) (.slc (some (h.nxt, 0)) 2 (some 2) 3) toks7 :=
    (LSlc.lit (wr := true) (b := h.nxt) (ls := [[.str [97], .str [97, 43], .bool false], [.str [98], .str [98], .bool false]]) (by simp) get_add_self rfl (.cons rfl (.cons rfl .nil)) rfl rfl).frz
  have efz : Ext h ((h.add (.cells [.str [97], .str [97, 43], .bool false, .str [98], .str [98], .bool false] true)).frzV (.slc (some (h.nxt, 0)) 2 (some 2) 3)) :=
    (((Ext.add h _).upd (h.nxt ≤ ·)).trans' (frzV_upd (S := (· = h.nxt)) fun b e => by simp [AV.base] at e; exact e.symm) fun b e _ => by omega).ext fun b hb => by omega
  refine callV_ofU F_40 rfl ((UF.less (frzV_le _ _) (LexRows40_uf lit (by decide))).mono ?_)
  rintro v1 h1 ⟨e1, m1⟩
  have eh1 := efz.trans e1
  rcases m1 with ⟨_, t, ht, hn⟩ | ⟨es, hP, hF, m1⟩
  · exact absurd hn (pats7.all t ht)
  obtain rfl := hP.rx pats7 hF rxs7_ok
  rcases m1 with ⟨w, G, S, R, rfl, L1, W⟩ | ⟨_, hc⟩
  · simp (disch := omega) only [go_sem, seval]
    refine callV_ofU F_41 rfl ((All_uf (s := [97, 97, 98, 98]) L1 W (by simp)).mono ?_)
    rintro v2 h2 ⟨e2, ts, ht, L2⟩
    simp (disch := omega) only [go_sem, seval]
    obtain rfl := ht.unique (toksL_spec rxs7_ok 5 0 [97, 97, 98, 98] rfl (by omega) (by simp))
    rw [toksL7] at L2
    refine callV_ofU F_45 rfl ((Edit_uf (s := [97, 97, 98, 98]) (put := [98]) (a := 1) (n := 1) (L1.ext e2) W L2 (by simp) (by simp) (by simp) (by decide) (by simp)).mono ?_)
    rintro v3 h3 ⟨e3, w3, m3, rfl, L3, hm3⟩
    have hsp : spliced [97, 97, 98, 98] 1 1 [98] = [97, 98, 98, 98] := rfl
    rw [hsp] at hm3 ⊢
    obtain rfl := hm3.unique (toksL_spec rxs7_ok 5 0 [97, 98, 98, 98] rfl (by omega) (by simp))
    rw [toksL7'] at L3 ⊢
    rw [kept7]
    obtain ⟨a3, n3, c3, z3, rfl, hn3⟩ := L3.form
    have hn3' : n3 = 4 := hn3
    subst hn3'
    simp (disch := omega) only [go_sem, seval]
    refine callV_ofU F_45 rfl ((Edit_bad (s := [97, 97, 98, 98]) (put := []) (a := 5) (n := 0) (by simp)).mono ?_)
    rintro v4 h4 ⟨e4, rfl⟩
    have hse : strOp .eql [97, 98, 98, 98] [97, 98, 98, 98] = some (.bool true) := rfl
    simp (disch := omega) only [go_sem, seval, hse]
    exact hQ _ _ ⟨((eh1.trans e2).trans e3).trans e4, rfl⟩
  · simp [ncls, rxs7] at hc

theorem spliced_same {s : List UInt8} {a n : Nat} (h : a + n ≤ s.length) : spliced s a n ((s.drop a).take n) = s := by
  unfold spliced
  rw [List.append_assoc, ← List.drop_drop, List.take_append_drop, List.take_append_drop]
theorem sameT_refl (s : List UInt8) (x : Tk) : sameT s s 0 x x = true := by simp [sameT]
theorem frontN_refl {s : List UInt8} : ∀ l : List Tk, frontN (sameT s s 0) l l = l.length
  | [] => rfl
  | x :: l => by rw [frontN, sameT_refl, if_pos rfl, frontN_refl l]; rfl
theorem keptN_same {s : List UInt8} {l : List Tk} : keptN s s l l = l.length := by
  unfold keptN
  rw [frontN_refl, List.drop_length]; rfl

theorem RelexNone_uf {h : Heap} {v w : AV} {l m : List UInt8} {c1 c2 : UInt8} (hv : Lst h v l) (hw : Lst h w m) : UF T F 19 [v, w, .int .u8 c1.toNat, .int .u8 c2.toNat] h fun v' _ => v' = .bool true := by
  obtain ⟨a, n, c, z, rfl, hn⟩ := hv.form
  obtain ⟨a2, n2, cc, z2, rfl, hn2⟩ := hw.form
  refine UF.gen fun Q hQ => UF.of (F_19) (c := _) rfl ?_
  unfold Try.f19
  simp only [List.length, Nat.reduceSub, Nat.reduceAdd, List.replicate, List.cons_append, List.nil_append]
  simp (disch := omega) only [go_sem, seval]
  refine callV_ofU F_43 rfl ((begun7_uf).mono ?_)
  rintro v1 h1 ⟨e1, rfl⟩
  simp (disch := omega) only [go_sem, seval]
  by_cases h60 : (n : Int) > 60
  · simp (disch := omega) only [go_sem, seval, h60]
    exact hQ _ _ rfl
  by_cases h30 : (n2 : Int) > 30
  · simp (disch := omega) only [go_sem, seval, h60, h30]
    exact hQ _ _ rfl
  simp (disch := omega) only [go_sem, seval, h60, h30]
  refine callV_ofU F_22 rfl ((Made_uf (hv.ext e1)).mono ?_)
  rintro v2 h2 ⟨e2, rfl, P2⟩
  simp (disch := omega) only [go_sem, seval]
  refine callV_ofU F_38 rfl ((Toks_uf P2 (by omega)).mono ?_)
  rintro v3 h3 ⟨u3, P3, ts, L3, hts⟩
  simp (disch := omega) only [go_sem, seval]
  have hl3 : ts.length ≤ 4 ∧ 1 ≤ ts.length := by obtain ⟨us, rfl, u1, u2, u3⟩ := hts; simp; omega
  have e3 : Ext h1 h3 := ((e2.upd (h1.nxt ≤ ·)).trans' u3 fun b h1 h2 => by omega).ext fun b hb => by omega
  refine callV_ofU F_30 rfl ((Word_uf (hw.ext (e1.trans e3)) (by omega)).mono ?_)
  rintro v4 h4 ⟨e4, rfl⟩
  simp (disch := omega) only [go_sem, seval]
  have hwl := word_len m
  generalize word m = s at *
  obtain ⟨ta, tn, tc, tz, rfl, htn⟩ := L3.form
  refine callV_ofU F_39 rfl ((refPats_uf (L3.ext e4) (by omega)).mono ?_)
  rintro v5 h5 ⟨e5, m5⟩
  simp (disch := omega) only [go_sem, seval]
  rcases m5 with ⟨pw, ls, rfl, L5, hp⟩ | ⟨_, t, ht, hno⟩
  · simp (disch := omega) only [go_sem, seval]
    refine callV_ofU F_40 rfl ((LexRows40_uf ((L3.ext e4).ext e5) (by omega)).mono ?_)
    rintro v6 h6 ⟨e6, m6⟩
    simp (disch := omega) only [go_sem, seval]
    rcases m6 with ⟨_, t, ht, hno⟩ | ⟨es, hP, hF, m6⟩
    · exact absurd hno (hts.ok t ht)
    · obtain rfl := hP.same hp
      have hel : es.length = ts.length := by have := hP.1; rwa [List.length_map] at this
      rcases m6 with ⟨rw_, G, S, R, rfl, L6, W⟩ | ⟨rfl, hc⟩
      · have hc1 := c1.toNat_lt
        have hc2 := c2.toNat_lt
        obtain ⟨p, hp'⟩ : ∃ p, p = c1.toNat % (s.length + 1) := ⟨_, rfl⟩
        obtain ⟨q, hq'⟩ : ∃ q, q = c2.toNat % (s.length - p + 1) := ⟨_, rfl⟩
        have hps : p < s.length + 1 := hp' ▸ Nat.mod_lt _ (by omega)
        have hqs : q < s.length - p + 1 := hq' ▸ Nat.mod_lt _ (by omega)
        have ip : (c1.toNat : Int).tmod ((s.length : Int) + 1) = (p : Nat) := by rw [show (s.length : Int) + 1 = ((s.length + 1 : Nat) : Int) by omega, ← Int.ofNat_tmod, hp']
        have iq : (c2.toNat : Int).tmod ((s.length : Int) - p + 1) = (q : Nat) := by rw [show (s.length : Int) - p + 1 = ((s.length - p + 1 : Nat) : Int) by omega, ← Int.ofNat_tmod, hq']
        have z1 : ¬ (s.length : Int) + 1 = 0 := by omega
        have z2 : ¬ (s.length : Int) - p + 1 = 0 := by omega
        have wr1 : IntKind.i64.wrap (c1.toNat : Int) = c1.toNat := wrap_i64 (by omega) (by omega)
        have wr2 : IntKind.i64.wrap (c2.toNat : Int) = c2.toNat := wrap_i64 (by omega) (by omega)
        simp (disch := omega) only [go_sem, seval, z1, ip, z2, iq, wr1, wr2]
        refine callV_ofU F_41 rfl ((All_uf (s := s) L6 W (by omega)).mono ?_)
        rintro v7 h7 ⟨e7, tks, ht, L7⟩
        simp (disch := omega) only [go_sem, seval]
        have epq : ((p : Nat) : Int) + (q : Nat) = ((p + q : Nat) : Int) := by omega
        simp (disch := omega) only [go_sem, seval, epq]
        refine str_both (i := p) (j := p + q) (by omega) (by omega) ?_
        rw [Nat.add_sub_cancel_left]
        simp (disch := omega) only [go_sem, seval]
        have htl := ht.len
        refine callV_ofU F_45 rfl ((Edit_uf (s := s) (put := (s.drop p).take q) (a := p) (n := q) (L6.ext e7) W L7 (by omega) (by simp; omega) (by omega) ht.within (by omega)).mono ?_)
        rintro v8 h8 ⟨e8, w8, m8, rfl, L8, hm8⟩
        rw [spliced_same (by omega)] at hm8 ⊢
        obtain rfl := ht.unique hm8
        rw [keptN_same]
        obtain ⟨ka, kn, kc, kz, rfl, hkn⟩ := L7.form
        obtain ⟨oa, on, oc, oz, rfl, hon⟩ := L8.form
        have hse : strOp .eql s s = some (.bool true) := by simp [strOp]
        have hkk : ((tks.length : Nat) : Int) = (kn : Nat) := by omega
        simp (disch := omega) only [go_sem, seval, hse, hkk]
        refine callV_ofU F_47 rfl ((SameTokens_uf (L7.ext e8) L8 (by omega)).mono ?_)
        rintro v9 h9 ⟨e9, rfl⟩
        simp (disch := omega) only [go_sem, seval]
        exact hQ _ _ rfl
      · simp (disch := omega) only [go_sem, seval]
        refine callV_ofU F_35 rfl ((Few_uf (L5.ext e6) hF (by omega)).mono ?_)
        rintro v7 h7 ⟨e7, rfl⟩
        simp (disch := omega) only [go_sem, seval]
        have : ¬ (es.map ncls).sum ≤ 8 := by omega
        simp (disch := omega) only [go_sem, seval, this]
        exact hQ _ _ rfl
  · exact absurd hno (hts.ok t ht)

theorem RelexNone_law {h : Heap} {v w : AV} {zs ys : List Int} {a b : Int} (hv : Slc h v 1 (zs.map fun z => [.int .u8 z])) (hb : ∀ z ∈ zs, IntKind.u8.min ≤ z ∧ z ≤ IntKind.u8.max) (hw : Slc h w 1 (ys.map fun z => [.int .u8 z])) (hc : ∀ z ∈ ys, IntKind.u8.min ≤ z ∧ z ≤ IntKind.u8.max) (w2 : (Lit.int .u8 a).wf = true) (w3 : (Lit.int .u8 b).wf = true) :
    WF T F 19 [v, w, .int .u8 a, .int .u8 b] h fun v' h' => v' = .bool true := by
  obtain ⟨a, rfl⟩ := u8_lit w2
  obtain ⟨b, rfl⟩ := u8_lit w3
  obtain ⟨H, l, m, le, L, M⟩ := bytes_two hv hb hw hc
  exact (UF.less le (RelexNone_uf L M)).toW

end Go.Proofs.Ytenpjkinpecnfaa
