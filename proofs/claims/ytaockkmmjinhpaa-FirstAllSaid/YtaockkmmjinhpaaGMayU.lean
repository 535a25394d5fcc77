/-
  Layer gram: a grammar that is made may be.
-/
import Derived.Test.YtaockkmmjinhpaaGCat
namespace Go.Proofs.Ytaockkmmjinhpaa
open Go Go.Am
set_option maxRecDepth 100000
set_option maxHeartbeats 4000000
set_option linter.unusedSimpArgs false
set_option linter.unusedVariables false

instance (s : List UInt8) : Decidable (NameOk s) := inferInstanceAs (Decidable (_ ∧ _ ∧ _))
def allN (t n : Nat) : List (List UInt8) := ((List.range t).map fun i => [116, ltr i]) ++ (List.range n).map fun i => [110, ltr i]
theorem allN_ok {t n : Nat} (ht : t ≤ 3) (hn : n ≤ 4) : (allN t n).Nodup ∧ ∀ s ∈ allN t n, NameOk s := by
  obtain rfl | rfl | rfl | rfl : t = 0 ∨ t = 1 ∨ t = 2 ∨ t = 3 := by omega
  all_goals
    obtain rfl | rfl | rfl | rfl | rfl : n = 0 ∨ n = 1 ∨ n = 2 ∨ n = 3 ∨ n = 4 := by omega
    all_goals decide
def atN (p q : Nat) : List (List UInt8) := ([[105], [106]] : List (List UInt8)).take p ++ ([[115], [117]] : List (List UInt8)).take q
theorem atN_ok {p q : Nat} (hp : p ≤ 2) (hq : q ≤ 2) : (atN p q).Nodup ∧ (∀ s ∈ atN p q, NameOk s) ∧ (atN p q).length ≤ 4 := by
  obtain rfl | rfl | rfl : p = 0 ∨ p = 1 ∨ p = 2 := by omega
  all_goals
    obtain rfl | rfl | rfl : q = 0 ∨ q = 1 ∨ q = 2 := by omega
    all_goals decide

def tnm (t : GTok) : Str := t.name
def nnm (x : GNt) : Str := x.name
/-- A grammar that may be. -/
structure MayG (g : Gm) : Prop where
  tl : 1 ≤ g.toks.length ∧ g.toks.length ≤ 8
  nl : 1 ≤ g.nts.length ∧ g.nts.length ≤ 8
  pl : 1 ≤ g.prods.length ∧ g.prods.length ≤ 16
  names : (g.toks.map tnm ++ g.nts.map nnm).Nodup ∧ ∀ s ∈ g.toks.map tnm ++ g.nts.map nnm, NameOk s
  attrs : ∀ x ∈ g.nts, (x.inh ++ x.syn).Nodup ∧ (∀ s ∈ x.inh ++ x.syn, NameOk s) ∧ (x.inh ++ x.syn).length ≤ 4
  prods : ∀ p ∈ g.prods, PrK g.toks g.nts.length p
theorem SymK.ok {ts : List GTok} {n : Nat} {s : GSym} (h : SymK ts n s) : SymOk ts.length n s := by
  refine ⟨h.1, fun e => ?_, h.2.2⟩
  obtain ⟨t, h1, _⟩ := h.2.1 e
  have := (List.getElem?_eq_some_iff.1 h1).1
  have := h.1; omega
theorem MayG.pr {g : Gm} (M : MayG g) : ∀ p ∈ g.prods, PrOk g.nts.length g.toks.length p := fun p hp => ⟨(M.prods p hp).1, (M.prods p hp).2.1, fun s hs => ((M.prods p hp).2.2 s hs).ok⟩
theorem MadeG.may {g : Gm} (M : MadeG g) : MayG g := by
  obtain ⟨ts, ns, ps⟩ := g
  have htl := M.tl
  have hnl := M.nl
  have hpl := M.pl
  have hns := M.nts
  have hts := M.toks
  have hps := M.prods
  simp only at htl hnl hpl hns hts hps
  have hskip : ∀ t ∈ ts, t.skip = false := fun t ht => by
    rw [hts] at ht
    obtain ⟨i, _, rfl⟩ := List.mem_map.1 ht
    rfl
  have htname : ts.map tnm = (List.range ts.length).map fun i => ([116, ltr i] : Str) := by
    conv => lhs; rw [hts]
    rw [List.map_map]; rfl
  have hnname : ns.map nnm = (List.range ns.length).map fun i => ([110, ltr i] : Str) := by
    refine List.ext_getElem? fun i => ?_
    rw [List.getElem?_map]
    refine Eq.trans ?_ (List.getElem?_map ..).symm
    rcases Nat.lt_or_ge i ns.length with hi | hi
    · obtain ⟨p, q, _, _, _, e⟩ := hns i ns[i] (List.getElem?_eq_getElem hi)
      rw [List.getElem?_eq_getElem hi, List.getElem?_range (by omega)]
      exact congrArg some (congrArg GNt.name e)
    · rw [List.getElem?_eq_none hi, List.getElem?_eq_none (by simp; omega)]; rfl
  refine ⟨⟨htl.1, by simp only; omega⟩, ⟨hnl.1, by simp only; omega⟩, ⟨hpl.1, by simp only; omega⟩, ?_, fun x hx => ?_, fun p hp => ?_⟩
  · simp only
    rw [htname, hnname]
    exact allN_ok (by omega) (by omega)
  · obtain ⟨i, hi, rfl⟩ := List.getElem_of_mem hx
    obtain ⟨p, q, hp, hq, _, e⟩ := hns i _ (List.getElem?_eq_getElem hi)
    rw [e]
    exact atN_ok hp hq
  · obtain ⟨q1, q2, q3⟩ := hps p hp
    refine ⟨q1, q2, fun s hs => ⟨(q3 s hs).1, fun e => ?_, (q3 s hs).2.2⟩⟩
    have h1 := (q3 s hs).1
    have h2 := (q3 s hs).2.1 e
    have hl : s.at_.toNat < ts.length := by omega
    exact ⟨ts[s.at_.toNat], List.getElem?_eq_getElem hl, hskip _ (List.getElem_mem hl)⟩
theorem May_uf {h : Heap} {tv nv pv : AV} {g : Gm} (lt : Lst h tv g.toks) (sn : Lst h nv g.nts) (sp : Lst h pv g.prods) (M : MayG g) : UF T F 28 [.agg [tv, nv, pv]] h fun v' h' => Ext h h' ∧ v' = .bool true := by
  obtain ⟨ts, ns, ps⟩ := g
  simp only at lt sn sp
  obtain ⟨ta, tn, tc, tz, rfl, htn⟩ := lt.form
  obtain ⟨na, nn, nc, nz, rfl, hnn⟩ := sn.form
  obtain ⟨pa, pn, pc, pz, rfl, hpn⟩ := sp.form
  have htl := M.tl
  have hnl := M.nl
  have hpl := M.pl
  have hall := M.names
  have hatt := M.attrs
  have hps := M.prods
  simp only at htl hnl hpl hall hatt hps
  refine UF.gen fun Q hQ => UF.of (F_28) (c := _) rfl ?_
  unfold Try.f28
  simp only [List.length, Nat.reduceSub, Nat.reduceAdd, List.replicate, List.cons_append, List.nil_append]
  simp (disch := omega) only [go_sem, seval]
  have e1 : Ext h (h.add (.cells [.slc ta tn tc tz, .slc na nn nc nz, .slc pa pn pc pz] true)) := Ext.add _ _
  have g1 : (h.add (.cells [.slc ta tn tc tz, .slc na nn nc nz, .slc pa pn pc pz] true)).get h.nxt = some (.cells [.slc ta tn tc tz, .slc na nn nc nz, .slc pa pn pc pz] true) := get_add_self
  have n1 : (h.add (.cells [.slc ta tn tc tz, .slc na nn nc nz, .slc pa pn pc pz] true)).nxt = h.nxt + 1 := by simp
  generalize (h.add (.cells [.slc ta tn tc tz, .slc na nn nc nz, .slc pa pn pc pz] true)) = h1 at *
  have w65 : ∀ {h : Heap}, UF T F 65 [.slc ta tn tc tz, .int .i64 8] h fun v' h' => h' = h ∧ v' = .bool true := fun {h} => by
    refine UF.gen fun Q hQ => UF.of (F_65) (c := _) rfl ?_
    unfold Try.f65
    simp only [List.length, Nat.reduceSub, Nat.reduceAdd, List.replicate, List.cons_append, List.nil_append]
    simp (disch := omega) only [go_sem, seval]
    have q1 : (tn : Int) ≥ 1 := by omega
    have q2 : (tn : Int) ≤ 8 := by omega
    simp (disch := omega) only [go_sem, seval, q1, q2]
    exact hQ _ _ ⟨rfl, rfl⟩
  have w66 : ∀ {h : Heap}, UF T F 66 [.slc na nn nc nz, .int .i64 8] h fun v' h' => h' = h ∧ v' = .bool true := fun {h} => by
    refine UF.gen fun Q hQ => UF.of (F_66) (c := _) rfl ?_
    unfold Try.f66
    simp only [List.length, Nat.reduceSub, Nat.reduceAdd, List.replicate, List.cons_append, List.nil_append]
    simp (disch := omega) only [go_sem, seval]
    have q1 : (nn : Int) ≥ 1 := by omega
    have q2 : (nn : Int) ≤ 8 := by omega
    simp (disch := omega) only [go_sem, seval, q1, q2]
    exact hQ _ _ ⟨rfl, rfl⟩
  have w67 : ∀ {h : Heap}, UF T F 67 [.slc pa pn pc pz, .int .i64 16] h fun v' h' => h' = h ∧ v' = .bool true := fun {h} => by
    refine UF.gen fun Q hQ => UF.of (F_67) (c := _) rfl ?_
    unfold Try.f67
    simp only [List.length, Nat.reduceSub, Nat.reduceAdd, List.replicate, List.cons_append, List.nil_append]
    simp (disch := omega) only [go_sem, seval]
    have q1 : (pn : Int) ≥ 1 := by omega
    have q2 : (pn : Int) ≤ 16 := by omega
    simp (disch := omega) only [go_sem, seval, q1, q2]
    exact hQ _ _ ⟨rfl, rfl⟩
  refine callV_ofU F_65 rfl ((w65).mono ?_)
  rintro v2 h2 ⟨rfl, rfl⟩
  simp (disch := omega) only [go_sem, seval, g1]
  refine callV_ofU F_66 rfl ((w66).mono ?_)
  rintro v3 h3 ⟨rfl, rfl⟩
  simp (disch := omega) only [go_sem, seval, g1]
  refine callV_ofU F_67 rfl ((w67).mono ?_)
  rintro v4 h4 ⟨rfl, rfl⟩
  simp (disch := omega) only [go_sem, seval, g1]
  have hroom : ∀ k : Nat, k ≤ 1000 → (k + 1) * 16 ≤ roomA := fun k hk => by simp [roomA]; omega
  refine LoopU_while (fun m st hh => ∃ (i : Nat) (ov : AV), i ≤ ts.length ∧ m = ts.length - i ∧ Ext h4 hh ∧ LFresh (h.nxt + 1) hh ov ((ts.take i).map tnm) ∧
      Keep st 74 [(1, .ptr (some (h.nxt, 0))), (3, ov), (26, .slc ta tn tc tz), (27, .int .i64 (tn : Nat)), (28, .int .i64 (i : Nat))]) ts.length
    ⟨0, _, by omega, by omega, Ext.refl _, LFresh.nil, rfl, by simp [Has]⟩ ?_
  rintro m st hh ⟨i, ov, hi, rfl, eh, O, hk⟩
  obtain ⟨oa, on, oc, oz, rfl, hon⟩ := O.form
  rw [hk.eq]
  obtain ⟨k1, k3, k26, k27, k28, -⟩ := hk.2
  simp only [slotsFrom, Nat.reduceAdd] at k1 k3 k26 k27 k28 ⊢
  simp only [k1, k3, k26, k27, k28]
  have hnh := eh.nxt
  simp (disch := omega) only [go_sem, seval]
  by_cases hlt : (i : Int) < (tn : Int)
  · have hil : i < ts.length := by omega
    obtain ⟨b1, o1, cs1, l1, rfl, rfl, hb1, hg1, rfl, hr1, ht1, hc1⟩ := ((lt.ext e1).ext eh).at_ (i := i) (x := ts[i]) (List.getElem?_eq_getElem hil) (k := 3) rfl
    have htk : (ts.take (i + 1)).map tnm = (ts.take i).map tnm ++ [tnm ts[i]] := by rw [List.take_add_one, List.getElem?_eq_getElem hil, Option.toList_some, List.map_append]; rfl
    generalize ts[i] = x at *
    have e2 : Ext hh ((hh.add (.cells [.str [], .str [], .bool false] true)).put hh.nxt (.cells [.str x.name, .str x.rex, .bool x.skip] true)) := (Ext.add _ _).put (Nat.le_refl _)
    simp (disch := omega) only [go_sem, seval, hlt, hg1, hr1, ht1, Int.toNat_natCast]
    refine fappend (m := h.nxt + 1) (xs := (ts.take i).map tnm) (y := tnm x) T_41 rfl T_9 rfl (by decide) (by decide) ((O.ext e2).ext (Ext.add _ _)) (LSlc.lit (b := hh.nxt + 1) (ls := [[.str x.name]]) (by simp) (by have := get_add_self (h := (hh.add (.cells [.str [], .str [], .bool false] true)).put hh.nxt (.cells [.str x.name, .str x.rex, .bool x.skip] true)) (x := .cells [.str x.name] true); simpa using this) rfl (Reps.one (x := tnm x) rfl) rfl rfl) (by simp; omega) (by rw [List.length_map, List.length_take]; exact hroom _ (by omega)) ?_
    intro v5 h5 O5 u5 b5
    simp (disch := omega) only [go_sem, seval]
    exact AgainK.mk (ts.length - (i + 1)) (by simp only; omega) ⟨i + 1, v5, by omega, rfl, ((((eh.trans e2).trans (Ext.add _ _)).upd (h.nxt + 1 ≤ ·)).trans' u5 fun b h1 h2 => O.blk h1).ext fun b hb => by omega, by rw [htk]; exact O5, rfl, by simp [Has]⟩
  · have hie : i = ts.length := by omega
    subst hie
    rw [List.take_length] at O
    have gh := (eh.get _ (by omega)).trans g1
    simp (disch := omega) only [go_sem, seval, hlt, gh]
    clear hk k1 k3 k26 k27 k28
    refine LoopU_while (fun m st hh => ∃ (i : Nat) (ov : AV), i ≤ ns.length ∧ m = ns.length - i ∧ Ext h4 hh ∧ LFresh (h.nxt + 1) hh ov (ts.map tnm ++ (ns.take i).map nnm) ∧
        Keep st 74 [(1, .ptr (some (h.nxt, 0))), (3, ov), (39, .slc na nn nc nz), (40, .int .i64 (nn : Nat)), (41, .int .i64 (i : Nat))]) ns.length
      ⟨0, _, by omega, by omega, eh, by simpa using O, rfl, by simp [Has]⟩ ?_
    rintro m st hh ⟨i, ov, hi, rfl, eh, O, hk⟩
    obtain ⟨oa, on, oc, oz, rfl, hon⟩ := O.form
    rw [hk.eq]
    obtain ⟨k1, k3, k39, k40, k41, -⟩ := hk.2
    simp only [slotsFrom, Nat.reduceAdd] at k1 k3 k39 k40 k41 ⊢
    simp only [k1, k3, k39, k40, k41]
    have hnh := eh.nxt
    simp (disch := omega) only [go_sem, seval]
    by_cases hlt : (i : Int) < (nn : Int)
    · have hil : i < ns.length := by omega
      obtain ⟨b1, o1, cs1, l1, rfl, rfl, hb1, hg1, ⟨ia, sa, rfl, si, ss⟩, hr1, ht1, hc1⟩ := ((sn.ext e1).ext eh).at_ (i := i) (x := ns[i]) (List.getElem?_eq_getElem hil) (k := 3) rfl
      have htk : ts.map tnm ++ (ns.take (i + 1)).map nnm = ts.map tnm ++ (ns.take i).map nnm ++ [nnm ns[i]] := by rw [List.take_add_one, List.getElem?_eq_getElem hil, Option.toList_some, List.map_append, List.append_assoc]; rfl
      have hat := hatt ns[i] (List.getElem_mem hil)
      generalize ns[i] = x at *
      obtain ⟨ia, iln, ic, iz, rfl, hin⟩ := si.form
      obtain ⟨sa, sln, sc, sz, rfl, hsn⟩ := ss.form
      have e2 : Ext hh ((hh.add (.cells [.str [], .slc none 0 (some 0) 0, .slc none 0 (some 0) 0] true)).put hh.nxt (.cells [.str x.name, .slc ia iln ic iz, .slc sa sln sc sz] true)) := (Ext.add _ _).put (Nat.le_refl _)
      simp (disch := omega) only [go_sem, seval, hlt, hg1, hr1, ht1, Int.toNat_natCast]
      refine fappend (m := h.nxt + 1) (xs := ts.map tnm ++ (ns.take i).map nnm) (y := nnm x) T_41 rfl T_9 rfl (by decide) (by decide) ((O.ext e2).ext (Ext.add _ _)) (LSlc.lit (b := hh.nxt + 1) (ls := [[.str x.name]]) (by simp) (by have := get_add_self (h := (hh.add (.cells [.str [], .slc none 0 (some 0) 0, .slc none 0 (some 0) 0] true)).put hh.nxt (.cells [.str x.name, .slc ia iln ic iz, .slc sa sln sc sz] true)) (x := .cells [.str x.name] true); simpa using this) rfl (Reps.one (x := nnm x) rfl) rfl rfl) (by simp; omega) (by rw [List.length_append, List.length_map, List.length_map, List.length_take]; exact hroom _ (by omega)) ?_
      intro v5 h5 O5 u5 b5
      obtain ⟨va, vn, vc, vz, rfl, hvn⟩ := O5.form
      have hn5 := u5.nxt
      simp only [Heap.add_nxt] at hn5
      have e2n : ((hh.add (.cells [.str [], .slc none 0 (some 0) 0, .slc none 0 (some 0) 0] true)).put hh.nxt (.cells [.str x.name, .slc ia iln ic iz, .slc sa sln sc sz] true)).nxt = hh.nxt + 1 := by simp
      have gx5 : h5.get hh.nxt = some (.cells [.str x.name, .slc ia iln ic iz, .slc sa sln sc sz] true) := by
        rw [u5.get hh.nxt (by simp; omega) (fun e => by have := O.lt e; omega), get_add_lt (by omega)]
        exact get_put_self
      have eh5 : Ext h4 h5 := ((((eh.trans e2).trans (Ext.add _ _)).upd (h.nxt + 1 ≤ ·)).trans' u5 fun b h1 h2 => O.blk h1).ext fun b hb => by omega
      have uh5 : Pst hh h5 := ((e2.trans (Ext.add _ _)).upd (fun b => (AV.slc oa on oc oz).blk = some b)).trans u5 |>.pst
      simp (disch := omega) only [go_sem, seval, gx5]
      have L6 : Lst ((h5.add (.cells [.slc ia iln ic iz, .slc sa sln sc sz] true)).frzV (.slc (some (h5.nxt, 0)) 2 (some 2) 1)) (.slc (some (h5.nxt, 0)) 2 (some 2) 1) ([x.inh, x.syn] : List (List Str)) :=
        (LSlc.lit (xs := ([x.inh, x.syn] : List (List Str))) (wr := true) (b := h5.nxt) (ls := [[.slc ia iln ic iz], [.slc sa sln sc sz]]) (by simp) get_add_self rfl (.cons (show Rep.rep (α := List Str) _ x.inh [.slc ia iln ic iz] from ⟨_, rfl, (si.pst uh5).ext (Ext.add _ _)⟩) (.cons (show Rep.rep (α := List Str) _ x.syn [.slc sa sln sc sz] from ⟨_, rfl, (ss.pst uh5).ext (Ext.add _ _)⟩) .nil)) rfl rfl).frz
      have hcat : ([x.inh, x.syn] : List (List Str)).flatten = x.inh ++ x.syn := by rw [List.flatten_cons, List.flatten_cons, List.flatten_nil, List.append_nil]
      have hal : x.inh.length + x.syn.length ≤ 4 := by have := hat.2.2; rwa [List.length_append] at this
      refine callV_ofU F_68 rfl ((UF.less (frzV_le _ _) (Concat_uf L6 (by simp) (by simp [sumL]; omega))).mono ?_)
      rintro v7 h7 ⟨e7, L7⟩
      rw [hcat] at L7
      obtain ⟨ca, cn, cc, cz, rfl, hcn⟩ := L7.form
      have hc4 : ¬ (cn : Int) > 4 := by have := hat.2.2; omega
      have e57 := ext_litfrz.trans e7
      simp (disch := omega) only [go_sem, seval, hc4]
      refine callV_ofU F_69 rfl ((names_uf L7 (by have := hat.2.2; omega) hat.1 hat.2.1).mono ?_)
      rintro v8 h8 ⟨e8, rfl⟩
      simp (disch := omega) only [go_sem, seval]
      exact AgainK.mk (ns.length - (i + 1)) (by simp only; omega) ⟨i + 1, _, by omega, rfl, (eh5.trans e57).trans e8, by rw [htk]; exact (O5.ext e57).ext e8, rfl, by simp [Has]⟩
    · have hie : i = ns.length := by omega
      subst hie
      rw [List.take_length] at O
      have gh := (eh.get _ (by omega)).trans g1
      obtain ⟨h9, l9, n9, O9, u9⟩ := O.frz
      have e9 : Ext h4 h9 := ((eh.upd (h.nxt + 1 ≤ ·)).trans' u9 fun b e _ => e.1).ext fun b hb => by omega
      simp (disch := omega) only [go_sem, seval, hlt]
      refine callV_ofU F_69 rfl ((UF.less l9 (names_uf O9 (by simp; omega) hall.1 hall.2)).mono ?_)
      rintro v10 h10 ⟨e10, rfl⟩
      have e11 := e9.trans e10
      have g10 := (e11.get _ (by omega)).trans g1
      simp (disch := omega) only [go_sem, seval, g10]
      have w70 : UF T F 70 [.slc pa pn pc pz, .func (.func 71) [.ptr (some (h.nxt, 0))]] h10 fun v' h' => Ext h10 h' ∧ v' = .bool false := by
        refine UF.gen fun Q hQ => UF.of (F_70) (c := _) rfl ?_
        unfold Try.f70
        simp only [List.length, Nat.reduceSub, Nat.reduceAdd, List.replicate, List.cons_append, List.nil_append]
        simp (disch := omega) only [go_sem, seval]
        refine callV_ofU F_108 rfl ((IndexP_uf ⟨_, _, _, _, _, _, _, _, _, _, _, _, by have := e11.nxt; omega, g10, (lt.ext e1).ext e11, (sn.ext e1).ext e11⟩ ((sp.ext e1).ext e11) (by omega) hps).mono ?_)
        rintro v12 h12 ⟨e12, rfl⟩
        simp (disch := omega) only [go_sem, seval]
        exact hQ _ _ ⟨e12, rfl⟩
      refine callV_ofU F_70 rfl ((w70).mono ?_)
      rintro v13 h13 ⟨e13, rfl⟩
      simp (disch := omega) only [go_sem, seval]
      exact hQ _ _ ⟨(e1.trans e11).trans e13, rfl⟩

end Go.Proofs.Ytaockkmmjinhpaa
