/- Each byte is in one token, in order, and no token could be longer. For numbers of kinds (60) and of a text (30). -/
import Derived.Test.YtenpjkinpecnfaaLexD
import Derived.KernelRfl
namespace Go.Proofs.Ytenpjkinpecnfaa
open Go Go.Am
set_option maxRecDepth 100000
set_option maxHeartbeats 4000000
set_option linter.unusedSimpArgs false
set_option linter.unusedVariables false

theorem Toks.kinds {es : List Rx} {s : List UInt8} {i : Nat} {l : List Tk} (h : Toks es s i l) : ∀ x ∈ l, x.at_ + x.len ≤ s.length ∧ 1 ≤ x.len ∧ -1 ≤ x.kind ∧ x.kind < es.length := by
  induction h with
  | nil h => simp
  | @one i k n l hi b t ih =>
    have hb := b.pos
    rw [List.length_drop] at hb
    intro x hx
    rcases List.mem_cons.1 hx with rfl | hx
    · exact ⟨by simp only; omega, hb.1, by simp only; omega, by simp only; omega⟩
    · exact ih x hx
  | @bad i k n l hi b t ih =>
    intro x hx
    rcases List.mem_cons.1 hx with rfl | hx
    · refine ⟨by simp only; omega, by simp, by simp, ?_⟩
      simp only; omega
    · exact ih x hx

theorem LexCovers_uf {h : Heap} {v w : AV} {l m : List UInt8} (hv : Lst h v l) (hw : Lst h w m) : UF T F 15 [v, w] h fun v' _ => v' = .bool true := by
  obtain ⟨a, n, c, z, rfl, hn⟩ := hv.form
  obtain ⟨a2, n2, c2, z2, rfl, hn2⟩ := hw.form
  refine UF.gen fun Q hQ => UF.of (F_15) (c := _) rfl ?_
  unfold Try.f15
  simp only [List.length, Nat.reduceSub, Nat.reduceAdd, List.replicate, List.cons_append, List.nil_append]
  simp (disch := first | ((try simp only [heapN]) <;> omega) | fail) only [go_sem, seval]
  refine callV_ofU F_37 rfl ((begun6_uf).mono ?_)
  rintro v1 h1 ⟨e1, rfl⟩
  simp (disch := first | ((try simp only [heapN]) <;> omega) | fail) only [go_sem, seval]
  by_cases h60 : (n : Int) > 60
  · simp (disch := first | ((try simp only [heapN]) <;> omega) | fail) only [go_sem, seval, h60]
    exact hQ _ _ rfl
  by_cases h30 : (n2 : Int) > 30
  · simp (disch := first | ((try simp only [heapN]) <;> omega) | fail) only [go_sem, seval, h60, h30]
    exact hQ _ _ rfl
  simp (disch := first | ((try simp only [heapN]) <;> omega) | fail) only [go_sem, seval, h60, h30]
  refine callV_ofU F_22 rfl ((Made_uf (hv.ext e1)).mono ?_)
  rintro v2 h2 ⟨e2, rfl, P2⟩
  simp (disch := first | ((try simp only [heapN]) <;> omega) | fail) only [go_sem, seval]
  refine callV_ofU F_38 rfl ((Toks_uf P2 (by omega)).mono ?_)
  rintro v3 h3 ⟨u3, P3, ts, L3, hts⟩
  simp (disch := first | ((try simp only [heapN]) <;> omega) | fail) only [go_sem, seval]
  have hl3 : ts.length ≤ 4 ∧ 1 ≤ ts.length := by obtain ⟨us, rfl, u1, u2, u3⟩ := hts; simp; omega
  have e3 : Ext h1 h3 := ((e2.upd (h1.nxt ≤ ·)).trans' u3 fun b h1 h2 => by omega).ext fun b hb => by omega
  refine callV_ofU F_30 rfl ((Word_uf (hw.ext (e1.trans e3)) (by omega)).mono ?_)
  rintro v4 h4 ⟨e4, rfl⟩
  simp (disch := first | ((try simp only [heapN]) <;> omega) | fail) only [go_sem, seval]
  have hwl := word_len m
  generalize word m = s at *
  obtain ⟨ta, tn, tc, tz, rfl, htn⟩ := L3.form
  refine callV_ofU F_39 rfl ((refPats_uf (L3.ext e4) (by omega)).mono ?_)
  rintro v5 h5 ⟨e5, m5⟩
  simp (disch := first | ((try simp only [heapN]) <;> omega) | fail) only [go_sem, seval]
  rcases m5 with ⟨pw, ls, rfl, L5, hp⟩ | ⟨_, t, ht, hno⟩
  · simp (disch := first | ((try simp only [heapN]) <;> omega) | fail) only [go_sem, seval]
    refine callV_ofU F_40 rfl ((LexRows40_uf ((L3.ext e4).ext e5) (by omega)).mono ?_)
    rintro v6 h6 ⟨e6, m6⟩
    simp (disch := first | ((try simp only [heapN]) <;> omega) | fail) only [go_sem, seval]
    rcases m6 with ⟨_, t, ht, hno⟩ | ⟨es, hP, hF, m6⟩
    · exact absurd hno (hts.ok t ht)
    · obtain rfl := hP.same hp
      have hel : es.length = ts.length := by have := hP.1; rwa [List.length_map] at this
      rcases m6 with ⟨rw_, G, S, R, rfl, L6, W⟩ | ⟨rfl, hc⟩
      · simp (disch := first | ((try simp only [heapN]) <;> omega) | fail) only [go_sem, seval]
        refine callV_ofU F_41 rfl ((All_uf (s := s) L6 W (by omega)).mono ?_)
        rintro v7 h7 ⟨e7, tks, ht, L7⟩
        simp (disch := first | ((try simp only [heapN]) <;> omega) | fail) only [go_sem, seval]
        obtain ⟨ka, kn, kc, kz, rfl, hkn⟩ := L7.form
        have hkinds := ht.kinds
        have htl := ht.len
        have L57 := (L5.ext e6).ext e7
        obtain ⟨pa, pn, pc, pz, rfl, hpn⟩ := L57.form
        refine LoopU_while (fun m' st hh => ∃ (i at_ : Nat), i ≤ tks.length ∧ m' = tks.length - i ∧ Ext h7 hh ∧ at_ ≤ s.length ∧ Toks es s at_ (tks.drop i) ∧
            Keep st 163 [(5, .slc ta tn tc tz), (6, .str s), (7, .slc pa pn pc pz), (10, .bool true), (11, .slc ka kn kc kz), (12, .int .i64 (at_ : Nat)), (13, .int .i64 (i : Nat))]) tks.length
          ⟨0, 0, by omega, by omega, Ext.refl _, by omega, by simpa using ht, rfl, by simp [Has]⟩ ?_
        rintro m' st hh ⟨i, at_, hi, rfl, eh, hat, hto, hk⟩
        rw [hk.eq]
        obtain ⟨k5, k6, k7, k10, k11, k12, k13, -⟩ := hk.2
        simp only [slotsFrom, Nat.reduceAdd] at k5 k6 k7 k10 k11 k12 k13 ⊢
        simp only [k5, k6, k7, k10, k11, k12, k13]
        have L8 := L7.ext eh
        simp (disch := first | ((try simp only [heapN]) <;> omega) | fail) only [go_sem, seval]
        by_cases hlt : (i : Int) < (kn : Int)
        · have hil : i < tks.length := by omega
          have hx := hkinds tks[i] (List.getElem_mem hil)
          rw [List.drop_eq_getElem_cons hil] at hto
          obtain ⟨b1, o1, cs1, l1, rfl, rfl, hb1, hg1, rfl, hr1, ht1, hc1⟩ := L8.at_ (i := i) (x := tks[i]) (List.getElem?_eq_getElem hil) (k := 3) rfl
          generalize tks[i] = x at *
          have ck : cs1[o1 + i * 3]? = some (.int .i64 x.kind) := by have := hc1 0 (by decide); simpa using this
          have ca : cs1[o1 + i * 3 + 1]? = some (.int .i64 (x.at_ : Nat)) := hc1 1 (by decide)
          have cl : cs1[o1 + i * 3 + 2]? = some (.int .i64 (x.len : Nat)) := hc1 2 (by decide)
          have hxa : x.at_ = at_ := by cases hto <;> rfl
          have p0 : ((x.at_ : Nat) : Int) = (at_ : Nat) := by omega
          have p1 : ¬ ((x.len : Nat) : Int) < 1 := by omega
          have p2 : ¬ ((at_ : Nat) : Int) + (x.len : Nat) > (s.length : Int) := by omega
          have p3 : ¬ x.kind < -1 := by omega
          have p4 : ¬ x.kind ≥ (tn : Int) := by omega
          simp (disch := first | ((try simp only [heapN]) <;> omega) | fail) only [go_sem, seval, hlt, hg1, Int.toNat_natCast, ca, cl, ck, p0, p1, p2, p3, p4]
          refine str_lo hat ?_
          simp (disch := first | ((try simp only [heapN]) <;> omega) | fail) only [go_sem, seval]
          refine callV_ofU F_32 rfl ((refLongest_uf (s := s.drop at_) (L57.ext eh) hF (by omega) (by simp; omega)).mono ?_)
          rintro v8 h8 ⟨e8, k, q, ok, rfl, b⟩
          simp (disch := first | ((try simp only [heapN]) <;> omega) | fail) only [go_sem, seval]
          have g8 : h8.get b1 = _ := (e8.get _ hb1).trans hg1
          have hxl : at_ + x.len ≤ s.length := by omega
          cases hto with
          | @one _ k2 n2 _ hi2 b2 t2 =>
            obtain ⟨rfl, rfl, rfl⟩ := b2.unique b
            simp only at hxl
            have hsum : ((at_ : Nat) : Int) + (n2 : Nat) = ((at_ + n2 : Nat) : Int) := by omega
            simp (disch := first | ((try simp only [heapN]) <;> omega) | fail) only [go_sem, seval, hlt, g8, Int.toNat_natCast, ca, cl, ck, hsum]
            exact AgainK.mk (tks.length - (i + 1)) (by simp only; omega) ⟨i + 1, at_ + n2, by omega, rfl, eh.trans e8, hxl, t2, rfl, by simp [Has]⟩
          | @bad _ k2 n2 _ hi2 b2 t2 =>
            obtain ⟨rfl, rfl, rfl⟩ := b2.unique b
            simp (disch := first | ((try simp only [heapN]) <;> omega) | fail) only [go_sem, seval, hlt, g8, Int.toNat_natCast, ca, cl, ck]
            exact AgainK.mk (tks.length - (i + 1)) (by simp only; omega) ⟨i + 1, at_ + 1, by omega, rfl, eh.trans e8, by omega, t2, rfl, by simp [Has]⟩
        · simp (disch := first | ((try simp only [heapN]) <;> omega) | fail) only [go_sem, seval, hlt]
          have hie : i = tks.length := by omega
          subst hie
          rw [List.drop_length] at hto
          cases hto with
          | nil hnil =>
            subst hnil
            simp (disch := first | ((try simp only [heapN]) <;> omega) | fail) only [go_sem, seval]
            exact hQ _ _ rfl
      · simp (disch := first | ((try simp only [heapN]) <;> omega) | fail) only [go_sem, seval]
        refine callV_ofU F_35 rfl ((Few_uf (L5.ext e6) hF (by omega)).mono ?_)
        rintro v7 h7 ⟨e7, rfl⟩
        simp (disch := first | ((try simp only [heapN]) <;> omega) | fail) only [go_sem, seval]
        have : ¬ (es.map ncls).sum ≤ 8 := by omega
        simp (disch := first | ((try simp only [heapN]) <;> omega) | fail) only [go_sem, seval, this]
        exact hQ _ _ rfl
  · exact absurd hno (hts.ok t ht)

theorem LexCovers_law {h : Heap} {v w : AV} {zs ys : List Int} (hv : Slc h v 1 (zs.map fun z => [.int .u8 z])) (hb : ∀ z ∈ zs, IntKind.u8.min ≤ z ∧ z ≤ IntKind.u8.max) (hw : Slc h w 1 (ys.map fun z => [.int .u8 z])) (hc : ∀ z ∈ ys, IntKind.u8.min ≤ z ∧ z ≤ IntKind.u8.max) :
    WF T F 15 [v, w] h fun v' h' => v' = .bool true := by
  obtain ⟨H, l, m, le, L, M⟩ := bytes_two hv hb hw hc
  exact (UF.less le (LexCovers_uf L M)).toW

end Go.Proofs.Ytenpjkinpecnfaa
