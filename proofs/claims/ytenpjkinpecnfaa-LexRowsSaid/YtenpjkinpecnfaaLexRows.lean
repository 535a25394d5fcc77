/- Which kinds there are: rows come of texts just if each is a pattern, but where they would be too many. For four texts, any, of ten bytes at most each (with more the law says nothing). -/
import Derived.Test.YtenpjkinpecnfaaLexD
import Derived.KernelRfl
namespace Go.Proofs.Ytenpjkinpecnfaa
open Go Go.Am
set_option maxRecDepth 100000
set_option maxHeartbeats 4000000
set_option linter.unusedSimpArgs false
set_option linter.unusedVariables false

def tokT (s : Str) : Tok := ⟨[116], s, false⟩
theorem LexRows_uf {h : Heap} {v : AV} {ss : List Str} (sl : Lst h v ss) : UF T F 16 [v] h fun v' _ => v' = .bool true := by
  obtain ⟨a, n, c, z, rfl, hn⟩ := sl.form
  refine UF.gen fun Q hQ => UF.of (F_16) (c := _) rfl ?_
  unfold Try.f16
  simp only [List.length, Nat.reduceSub, Nat.reduceAdd, List.replicate, List.cons_append, List.nil_append]
  simp (disch := omega) only [go_sem, seval]
  refine callV_ofU F_37 rfl ((begun6_uf).mono ?_)
  rintro v1 h1 ⟨e1, rfl⟩
  simp (disch := omega) only [go_sem, seval]
  by_cases hbig : (n : Int) > 4
  · simp (disch := omega) only [go_sem, seval, hbig]
    exact hQ _ _ rfl
  simp (disch := omega) only [go_sem, seval, hbig]
  refine LoopU_while (fun m st hh => ∃ (i : Nat) (w : AV), i ≤ ss.length ∧ m = ss.length - i ∧ Ext h1 hh ∧ LGrow h1.nxt hh w ((ss.take i).map tokT) ∧
      Keep st 71 [(0, .slc a n c z), (3, w), (4, .int .i64 (i : Nat))]) ss.length
    ⟨0, _, by omega, by omega, Ext.refl _, LGrow.nil, rfl, by simp [Has]⟩ ?_
  rintro m st hh ⟨i, w, hi, rfl, eh, L, hk⟩
  obtain ⟨wa, wn, wc, wz, rfl, hwn⟩ := L.form
  rw [hk.eq]
  obtain ⟨k0, k3, k4, -⟩ := hk.2
  simp only [slotsFrom, Nat.reduceAdd] at k0 k3 k4 ⊢
  simp only [k0, k3, k4]
  simp (disch := omega) only [go_sem, seval]
  by_cases hlt : (i : Int) < (n : Int)
  · have hil : i < ss.length := by omega
    obtain ⟨b1, o1, cs1, l1, rfl, rfl, hb1, hg1, rfl, hr1, ht1, hc1⟩ := (sl.ext (e1.trans eh)).at_ (i := i) (x := ss[i]) (List.getElem?_eq_getElem hil) (k := 1) rfl
    have c10 : cs1[o1 + i * 1]? = some (.str ss[i]) := hc1 0 (by decide)
    by_cases hten : (ss[i].length : Int) > 10
    · simp (disch := omega) only [go_sem, seval, hlt, hg1, c10, Int.toNat_natCast, hten]
      exact hQ _ _ rfl
    · simp (disch := omega) only [go_sem, seval, hlt, hg1, c10, Int.toNat_natCast, hten]
      refine gappend (m := h1.nxt) (xs := (ss.take i).map tokT) (ys := [tokT ss[i]]) T_62 rfl T_73 rfl (by decide) (by decide) (L.ext (Ext.add _ _)) (LSlc.lit (b := hh.nxt) (ls := [[.str [116], .str ss[i], .bool false]]) (by simp) get_add_self rfl (Reps.one (x := tokT ss[i]) rfl) rfl rfl) (by have := eh.nxt; simp; omega) (by rw [List.length_map, List.length_take]; simp [roomA]; omega) ?_
      intro v5 h5 L5 u5 b5
      simp (disch := omega) only [go_sem, seval]
      refine AgainK.mk (ss.length - (i + 1)) (by simp only; omega) ⟨i + 1, v5, by omega, rfl, (((eh.trans (Ext.add _ _)).upd (h1.nxt ≤ ·)).trans' u5 fun b h1 h2 => L.blk h1).ext fun b hb => by omega, ?_, rfl, by simp [Has]⟩
      rw [List.take_add_one, List.getElem?_eq_getElem hil, Option.toList_some, List.map_append]
      exact L5
  · simp (disch := omega) only [go_sem, seval, hlt]
    have hie : i = ss.length := by omega
    subst hie
    rw [List.take_length] at L
    obtain ⟨h9, l9, n9, L9, u9⟩ := L.frz
    have htl : (ss.map tokT).length = n := by rw [List.length_map]; omega
    refine callV_ofU F_39 rfl ((UF.less l9 (refPats_uf L9 (by omega))).mono ?_)
    rintro v2 h2 ⟨e2, m2⟩
    have key : (∃ x is, v2 = .tup [x, .bool is] ∧ (∃ a n c z, x = .slc a n c z) ∧ (is = true → ∀ t ∈ ss.map tokT, parse t.rex ≠ none) ∧ (is = false → ∃ t ∈ ss.map tokT, parse t.rex = none)) := by
      rcases m2 with ⟨w, ls, rfl, L2, hP⟩ | ⟨rfl, hno⟩
      · obtain ⟨a, n, c, z, rfl, _⟩ := L2.form
        exact ⟨_, true, rfl, ⟨_, _, _, _, rfl⟩, fun _ => hP.all, fun h => absurd h (by decide)⟩
      · exact ⟨_, false, rfl, ⟨_, _, _, _, rfl⟩, fun h => absurd h (by decide), fun _ => hno⟩
    obtain ⟨x, is, rfl, ⟨xa, xn, xc, xz, rfl⟩, is1, is2⟩ := key
    simp (disch := omega) only [go_sem, seval]
    refine callV_ofU F_40 rfl ((LexRows40_uf (L9.ext e2) (by omega)).mono ?_)
    rintro v3 h3 ⟨e3, m3⟩
    simp (disch := omega) only [go_sem, seval]
    rcases m3 with ⟨rfl, hno⟩ | ⟨es, hP, hF, m3⟩
    · have : is = false := by
        cases is with
        | false => rfl
        | true => obtain ⟨t, ht, hn⟩ := hno; exact absurd hn (is1 rfl t ht)
      subst this
      by_cases hn0 : (n : Int) = 0
      · simp (disch := omega) only [go_sem, seval, hn0]
        exact hQ _ _ rfl
      · simp (disch := omega) only [go_sem, seval, hn0]
        exact hQ _ _ rfl
    · have : is = true := by
        cases is with
        | true => rfl
        | false => obtain ⟨t, ht, hn⟩ := is2 rfl; exact absurd hn (hP.all t ht)
      subst this
      rcases m3 with ⟨w, G, S, R, rfl, L4, W⟩ | ⟨rfl, _⟩
      · obtain ⟨ra, rn, rc, rz, rfl, hrn⟩ := L4.form
        have hr0 : (rn : Int) > 0 := by have := W.len; omega
        by_cases hn0 : (n : Int) = 0
        · simp (disch := omega) only [go_sem, seval, hn0, hr0]
          exact hQ _ _ rfl
        · simp (disch := omega) only [go_sem, seval, hn0, hr0]
          exact hQ _ _ rfl
      · by_cases hn0 : (n : Int) = 0
        · simp (disch := omega) only [go_sem, seval, hn0]
          exact hQ _ _ rfl
        · simp (disch := omega) only [go_sem, seval, hn0]
          exact hQ _ _ rfl

theorem reps_str (h : Heap) : ∀ zs : List ByteArray, Reps h (zs.map fun x => (x.data.toList : Str)) (zs.map fun x => [AV.str x.data.toList])
  | [] => .nil
  | b :: l => .cons rfl (reps_str h l)
theorem LexRows_law {h : Heap} {v : AV} {zs : List ByteArray} (hv : Slc h v 1 (zs.map fun x => [.str x.data.toList])) (hb : ∀ z ∈ zs, True) :
    WF T F 16 [v] h fun v' h' => v' = .bool true :=
  (UF.less (frzV_le _ _) (LexRows_uf ⟨_, hv.frz, reps_str _ zs⟩)).toW

end Go.Proofs.Ytenpjkinpecnfaa
