/- Tokens of a text that was changed are those of the new text, and as many are kept as the rule says, edit by edit. For numbers of kinds (60), of a text (30), and ten splices, any (of a put of more than 20 bytes, or of more numbers or splices, the law says nothing). -/
import Derived.Test.YtenpjkinpecnfaaRelexH
import Derived.KernelRfl
namespace Go.Proofs.Ytenpjkinpecnfaa
open Go Go.Am
set_option maxRecDepth 100000
set_option maxHeartbeats 4000000
set_option linter.unusedSimpArgs false
set_option linter.unusedVariables false

theorem RelexAll_uf {h : Heap} {v w u : AV} {l m : List UInt8} {cs : List Sp} (hv : Lst h v l) (hw : Lst h w m) (hu : Lst h u cs) : UF T F 18 [v, w, u] h fun v' _ => v' = .bool true := by
  obtain ⟨a, n, c, z, rfl, hn⟩ := hv.form
  obtain ⟨a2, n2, cc, z2, rfl, hn2⟩ := hw.form
  obtain ⟨a3, n3, c3, z3, rfl, hn3⟩ := hu.form
  refine UF.gen fun Q hQ => UF.of (F_18) (c := _) rfl ?_
  unfold Try.f18
  simp only [List.length, Nat.reduceSub, Nat.reduceAdd, List.replicate, List.cons_append, List.nil_append]
  simp (disch := omega) only [go_sem, seval]
  refine callV_ofU F_43 rfl ((begun7_uf).mono ?_)
  rintro v1 h1 ⟨e1, rfl⟩
  simp (disch := omega) only [go_sem, seval]
  by_cases h60 : (n : Int) > 60
  · simp (disch := omega) only [go_sem, seval, h60]
    exact hQ _ _ rfl
  by_cases h30 : (n2 : Int) > 30
  · simp (disch := omega) only [go_sem, seval, h60, h30]
    exact hQ _ _ rfl
  by_cases h10 : (n3 : Int) > 10
  · simp (disch := omega) only [go_sem, seval, h60, h30, h10]
    exact hQ _ _ rfl
  simp (disch := omega) only [go_sem, seval, h60, h30, h10]
  refine callV_ofU F_22 rfl ((Made_uf (hv.ext e1)).mono ?_)
  rintro v2 h2 ⟨e2, rfl, P2⟩
  simp (disch := omega) only [go_sem, seval]
  refine callV_ofU F_38 rfl ((Toks_uf P2 (by omega)).mono ?_)
  rintro v3 h3 ⟨u3, P3, ts, L3, hts⟩
  simp (disch := omega) only [go_sem, seval]
  have hl3 : ts.length ≤ 4 ∧ 1 ≤ ts.length := by obtain ⟨us, rfl, u1, u2, u3⟩ := hts; simp; omega
  have e3 : Ext h1 h3 := ((e2.upd (h1.nxt ≤ ·)).trans' u3 fun b h1 h2 => by omega).ext fun b hb => by omega
  refine callV_ofU F_30 rfl ((Word_uf (hw.ext (e1.trans e3)) (by omega)).mono ?_)
  rintro v4 h4 ⟨e4, rfl⟩
  simp (disch := omega) only [go_sem, seval]
  have hwl := word_len m
  generalize word m = s0 at *
  obtain ⟨ta, tn, tc, tz, rfl, htn⟩ := L3.form
  refine callV_ofU F_39 rfl ((refPats_uf (L3.ext e4) (by omega)).mono ?_)
  rintro v5 h5 ⟨e5, m5⟩
  simp (disch := omega) only [go_sem, seval]
  rcases m5 with ⟨pw, ls, rfl, L5, hp⟩ | ⟨_, t, ht, hno⟩
  · obtain ⟨pa, pn, pc, pz, rfl, hpn⟩ := L5.form
    simp (disch := omega) only [go_sem, seval]
    refine callV_ofU F_40 rfl ((LexRows40_uf ((L3.ext e4).ext e5) (by omega)).mono ?_)
    rintro v6 h6 ⟨e6, m6⟩
    simp (disch := omega) only [go_sem, seval]
    rcases m6 with ⟨_, t, ht, hno⟩ | ⟨es, hP, hF, m6⟩
    · exact absurd hno (hts.ok t ht)
    · obtain rfl := hP.same hp
      have hel : es.length = ts.length := by have := hP.1; rwa [List.length_map] at this
      rcases m6 with ⟨rw_, G, S, R, rfl, L6, W⟩ | ⟨rfl, hc⟩
      · obtain ⟨ra, rn, rc, rz, rfl, hrn⟩ := L6.form
        simp (disch := omega) only [go_sem, seval]
        refine callV_ofU F_44 rfl ((refAll_uf (s := s0) (L5.ext e6) hF (by omega) (by omega)).mono ?_)
        rintro v7 h7 ⟨e7, tk0, ht0, L7⟩
        simp (disch := omega) only [go_sem, seval]
        have U7 := ((((hu.ext (e1.trans e3)).ext e4).ext e5).ext e6).ext e7
        have L57 := (L5.ext e6).ext e7
        have L67 := L6.ext e7
        refine LoopU_while (fun k st hh => ∃ (i : Nat) (s : List UInt8) (tks : List Tk) (tv : AV), i ≤ cs.length ∧ k = cs.length - i ∧ Ext h7 hh ∧ s.length ≤ 90 + 20 * i ∧ Toks es s 0 tks ∧ Lst hh tv tks ∧
            Keep st 130 [(2, .slc a3 n3 c3 z3), (8, .str s), (9, .slc pa pn pc pz), (11, .slc ra rn rc rz), (13, tv), (14, .int .i64 (i : Nat))]) cs.length
          ⟨0, s0, tk0, _, by omega, by omega, Ext.refl _, by omega, ht0, L7, rfl, by simp [Has]⟩ ?_
        rintro k st hh ⟨i, s, tks, tv, hi, rfl, eh, hsl, htk, Lt, hk⟩
        rw [hk.eq]
        obtain ⟨k2, k8, k9, k11, k13, k14, -⟩ := hk.2
        simp only [slotsFrom, Nat.reduceAdd] at k2 k8 k9 k11 k13 k14 ⊢
        simp only [k2, k8, k9, k11, k13, k14]
        simp (disch := omega) only [go_sem, seval]
        by_cases hlt : (i : Int) < (n3 : Int)
        · have hil : i < cs.length := by omega
          obtain ⟨b1, o1, cs1, l1, rfl, rfl, hb1, hg1, rfl, hr1, ht1, hc1⟩ := (U7.ext eh).at_ (i := i) (x := cs[i]) (List.getElem?_eq_getElem hil) (k := 3) rfl
          have cp : cs1[o1 + i * 3 + 2]? = some (.str cs[i].put) := hc1 2 (by decide)
          generalize cs[i] = c at *
          by_cases hp20 : (c.put.length : Int) > 20
          · simp (disch := omega) only [go_sem, seval, hlt, hg1, cp, Int.toNat_natCast, hp20]
            exact hQ _ _ rfl
          · simp (disch := omega) only [go_sem, seval, hlt, hg1, cp, Int.toNat_natCast, hp20, hr1, ht1]
            have htl := htk.len
            by_cases hfit : Fits s.length c
            · obtain ⟨x, xn, put⟩ := c
              obtain ⟨⟨f1, f2⟩, f3, f4⟩ := hfit
              simp only at f1 f2 f3 f4 hp20
              obtain ⟨x, rfl⟩ : ∃ y : Nat, x = y := ⟨x.toNat, by omega⟩
              obtain ⟨xn, rfl⟩ : ∃ y : Nat, xn = y := ⟨xn.toNat, by omega⟩
              simp only
              refine callV_ofU F_45 rfl ((Edit_uf (s := s) (put := put) (a := x) (n := xn) (L67.ext eh) W Lt (by omega) (by omega) (by omega) htk.within (by omega)).mono ?_)
              rintro v8 h8 ⟨e8, w8, m8, rfl, L8, hm8⟩
              obtain ⟨oa, on, oc, oz, rfl, hon⟩ := L8.form
              have g8 := (e8.get _ hb1).trans hg1
              simp (disch := omega) only [go_sem, seval, hlt, g8, Int.toNat_natCast, hr1, ht1]
              refine callV_ofU F_46 rfl ((Splice_yes (s := s) (put := put) (a := x) (n := xn) (by omega) (by omega) (by omega)).mono ?_)
              rintro v9 h9 ⟨e9, rfl⟩
              have hspl : (spliced s x xn put).length ≤ 90 + 20 * (i + 1) := by simp [spliced]; omega
              generalize hsp : spliced s x xn put = s' at *
              have hse : strOp .neq s' s' = some (.bool false) := by simp [strOp]
              have e89 := e8.trans e9
              simp (disch := omega) only [go_sem, seval, hse]
              refine callV_ofU F_44 rfl ((refAll_uf (s := s') (L57.ext (eh.trans e89)) hF (by omega) (by omega)).mono ?_)
              rintro v10 h10 ⟨e10, m10, hm10, L10⟩
              simp (disch := omega) only [go_sem, seval]
              obtain rfl := hm8.unique hm10
              obtain ⟨qa, qn, qc, qz, rfl, hqn⟩ := L10.form
              refine callV_ofU F_47 rfl ((SameTokens_uf ((L8.ext e9).ext e10) L10 (by have := hm8.len; omega)).mono ?_)
              rintro v11 h11 ⟨e11, rfl⟩
              simp (disch := omega) only [go_sem, seval]
              refine callV_ofU F_48 rfl ((Kept_uf (s := s) (t := s') ((Lt.ext (e89.trans e10)).ext e11) (L10.ext e11) (by omega) (by omega) (by omega) (by have := hm8.len; omega) htk.within hm8.within).mono ?_)
              rintro v12 h12 ⟨e12, rfl⟩
              simp (disch := omega) only [go_sem, seval]
              exact AgainK.mk (cs.length - (i + 1)) (by simp only; omega) ⟨i + 1, s', m8, _, by omega, rfl, (((eh.trans e89).trans e10).trans e11).trans e12, hspl, hm8, (L10.ext e11).ext e12, rfl, by simp [Has]⟩
            · refine callV_ofU F_45 rfl ((Edit_no (s := s) (by omega) hfit).mono ?_)
              rintro v8 h8 ⟨e8, rfl⟩
              have g8 := (e8.get _ hb1).trans hg1
              simp (disch := omega) only [go_sem, seval, hlt, g8, Int.toNat_natCast, hr1, ht1]
              refine callV_ofU F_46 rfl ((Splice_no (s := s) (by omega) hfit).mono ?_)
              rintro v9 h9 ⟨e9, rfl⟩
              have hse : strOp .neq [] [] = some (.bool false) := by simp [strOp]
              simp (disch := omega) only [go_sem, seval, hse]
              exact AgainK.mk (cs.length - (i + 1)) (by simp only; omega) ⟨i + 1, s, tks, _, by omega, rfl, (eh.trans e8).trans e9, by omega, htk, (Lt.ext e8).ext e9, rfl, by simp [Has]⟩
        · simp (disch := omega) only [go_sem, seval, hlt]
          exact hQ _ _ rfl
      · simp (disch := omega) only [go_sem, seval]
        refine callV_ofU F_35 rfl ((Few_uf (L5.ext e6) hF (by omega)).mono ?_)
        rintro v7 h7 ⟨e7, rfl⟩
        simp (disch := omega) only [go_sem, seval]
        have : ¬ (es.map ncls).sum ≤ 8 := by omega
        simp (disch := omega) only [go_sem, seval, this]
        exact hQ _ _ rfl
  · exact absurd hno (hts.ok t ht)

theorem RelexAll_law {h : Heap} {v w u : AV} {zs ys : List Int} {qs : List (Int × Int × ByteArray)} (hv : Slc h v 1 (zs.map fun z => [.int .u8 z])) (hb : ∀ z ∈ zs, IntKind.u8.min ≤ z ∧ z ≤ IntKind.u8.max) (hw : Slc h w 1 (ys.map fun z => [.int .u8 z])) (hc : ∀ z ∈ ys, IntKind.u8.min ≤ z ∧ z ≤ IntKind.u8.max)
    (hu : Slc h u 3 (qs.map fun z => [.int .i64 z.1, .int .i64 z.2.1, .str z.2.2.data.toList])) (hd : ∀ z ∈ qs, (Lit.int .i64 z.1).wf = true ∧ (Lit.int .i64 z.2.1).wf = true ∧ z.2.2.size ≤ maxLen) :
    WF T F 18 [v, w, u] h fun v' h' => v' = .bool true := by
  have reps : ∀ {H : Heap} (qs : List (Int × Int × ByteArray)), Reps H (qs.map fun z => (⟨z.1, z.2.1, z.2.2.data.toList⟩ : Sp)) (qs.map fun z => [AV.int .i64 z.1, .int .i64 z.2.1, .str z.2.2.data.toList]) := by
    intro H qs
    induction qs with
    | nil => exact .nil
    | cons z qs ih => exact .cons rfl ih
  obtain ⟨l, _, L⟩ := bytes_lst hv hb
  obtain ⟨m, _, M⟩ := bytes_lst (slc_frzV hw) hc
  have U : LSlc ((h.frzV v).frzV w) u (qs.map fun z => (⟨z.1, z.2.1, z.2.2.data.toList⟩ : Sp)) := ⟨_, slc_frzV (slc_frzV hu), reps qs⟩
  exact (UF.less (((frzV_le _ _).trans (frzV_le _ _)).trans (frzV_le _ _)) (RelexAll_uf ((L.pst (frzV_pst _ _)).pst (frzV_pst _ _)) (M.pst (frzV_pst _ _)) U.frz)).toW

end Go.Proofs.Ytenpjkinpecnfaa
