/- One way tells what many ways tell, and what patterns say: the rows of patterns have the longest front that the document's answer has. For numbers of patterns (60), of a text (20), and any 12 bytes. -/
import Derived.Test.YtenpjkinpecnfaaDfaG
import Derived.KernelRfl
namespace Go.Proofs.Ytenpjkinpecnfaa
open Go Go.Am
set_option maxRecDepth 100000
set_option maxHeartbeats 4000000
set_option linter.unusedSimpArgs false
set_option linter.unusedVariables false

theorem DfaAll_uf {h : Heap} {s : List UInt8} {v w : AV} {l m : List UInt8} (hv : Lst h v l) (hw : Lst h w m) : UF T F 11 [v, w, .str s] h fun v' _ => v' = .bool true := by
  obtain ⟨a, n, c, z, rfl, hn⟩ := hv.form
  obtain ⟨a2, n2, c2, z2, rfl, hn2⟩ := hw.form
  refine UF.gen fun Q hQ => UF.of (F_11) (c := _) rfl ?_
  unfold Try.f11
  simp only [List.length, Nat.reduceSub, Nat.reduceAdd, List.replicate, List.cons_append, List.nil_append]
  simp (disch := first | done | ((try simp only [Heap.add_nxt, Heap.put_nxt, Heap.del_nxt, bump_nxt]) <;> omega) | fail) only [go_sem, seval]
  refine callV_ofU F_33 rfl ((begun5_uf).mono ?_)
  rintro v1 h1 ⟨e1, rfl⟩
  simp (disch := first | done | ((try simp only [Heap.add_nxt, Heap.put_nxt, Heap.del_nxt, bump_nxt]) <;> omega) | fail) only [go_sem, seval]
  by_cases h60 : (n : Int) > 60
  · simp (disch := first | done | ((try simp only [Heap.add_nxt, Heap.put_nxt, Heap.del_nxt, bump_nxt]) <;> omega) | fail) only [go_sem, seval, h60]
    exact hQ _ _ rfl
  by_cases h20 : (n2 : Int) > 20
  · simp (disch := first | done | ((try simp only [Heap.add_nxt, Heap.put_nxt, Heap.del_nxt, bump_nxt]) <;> omega) | fail) only [go_sem, seval, h60, h20]
    exact hQ _ _ rfl
  by_cases h12 : (s.length : Int) > 12
  · simp (disch := first | done | ((try simp only [Heap.add_nxt, Heap.put_nxt, Heap.del_nxt, bump_nxt]) <;> omega) | fail) only [go_sem, seval, h60, h20, h12]
    exact hQ _ _ rfl
  simp (disch := first | done | ((try simp only [Heap.add_nxt, Heap.put_nxt, Heap.del_nxt, bump_nxt]) <;> omega) | fail) only [go_sem, seval, h60, h20, h12]
  refine callV_ofU F_28 rfl ((Pats_uf (hv.ext e1) (by omega)).mono ?_)
  rintro v2 h2 ⟨e2, es, L2, M⟩
  simp (disch := first | done | ((try simp only [Heap.add_nxt, Heap.put_nxt, Heap.del_nxt, bump_nxt]) <;> omega) | fail) only [go_sem, seval]
  have hes : es.length ≤ 4 := M.few.2
  refine callV_ofU F_29 rfl ((NfaOf_uf L2 M.fit (by omega)).mono ?_)
  rintro v3 h3 ⟨e3, G, L3, A⟩
  simp (disch := first | done | ((try simp only [Heap.add_nxt, Heap.put_nxt, Heap.del_nxt, bump_nxt]) <;> omega) | fail) only [go_sem, seval]
  refine callV_ofU F_34 rfl ((DfaOf_es L3 A (by omega)).mono ?_)
  rintro v5 h5 ⟨e5, m5⟩
  simp (disch := first | done | ((try simp only [Heap.add_nxt, Heap.put_nxt, Heap.del_nxt, bump_nxt]) <;> omega) | fail) only [go_sem, seval]
  rcases m5 with ⟨S, R, L5, W⟩ | ⟨rfl, hc⟩
  · obtain ⟨ra, rn, rc, rz, rfl, hrn⟩ := L5.form
    have hrl := W.len
    have r1 : ¬ (rn : Int) < 1 := by omega
    have r2 : ¬ (rn : Int) > 300 := by omega
    simp (disch := first | done | ((try simp only [Heap.add_nxt, Heap.put_nxt, Heap.del_nxt, bump_nxt]) <;> omega) | fail) only [go_sem, seval, r1, r2]
    refine callV_ofU F_30 rfl ((Word_uf (hw.ext (((e1.trans e2).trans e3).trans e5)) (by omega)).mono ?_)
    rintro v4 h4 ⟨e4, rfl⟩
    simp (disch := first | done | ((try simp only [Heap.add_nxt, Heap.put_nxt, Heap.del_nxt, bump_nxt]) <;> omega) | fail) only [go_sem, seval]
    have hwl := word_len m
    have Lp := L2.ext ((e3.trans e5).trans e4)
    have LR := L5.ext e4
    have ex : Ext h4 (h4.add (.cells [.str (word m), .str s] true)) := Ext.add _ _
    have gx : (h4.add (.cells [.str (word m), .str s] true)).get h4.nxt = some (.cells [.str (word m), .str s] true) := get_add_self
    have nx : h4.nxt < (h4.add (.cells [.str (word m), .str s] true)).nxt := by simp
    generalize (h4.add (.cells [.str (word m), .str s] true)) = h6 at *
    have Lp5 := Lp.ext ex
    have LG5 := LR.ext ex
    obtain ⟨pa, pn, pc, pz, rfl, hpn⟩ := Lp5.form
    refine LoopU_while (fun m' st hh => ∃ (i : Nat), i ≤ 2 ∧ m' = 2 - i ∧ Ext h6 hh ∧
        Keep st 105 [(7, .slc pa pn pc pz), (8, .slc ra rn rc rz), (9, .slc (some (h4.nxt, 0)) 2 (some 2) 1), (10, .int .i64 (i : Nat))]) 2
      ⟨0, by omega, by omega, Ext.refl _, rfl, by simp [Has]⟩ ?_
    rintro m' st hh ⟨i, hi, rfl, eh, hk⟩
    rw [hk.eq]
    obtain ⟨k7, k8, k9, k10, -⟩ := hk.2
    simp only [slotsFrom, Nat.reduceAdd] at k7 k8 k9 k10 ⊢
    simp only [k7, k8, k9, k10]
    simp (disch := first | done | ((try simp only [Heap.add_nxt, Heap.put_nxt, Heap.del_nxt, bump_nxt]) <;> omega) | fail) only [go_sem, seval]
    have g5 : hh.get h4.nxt = _ := (eh.get _ nx).trans gx
    by_cases hlt : (i : Int) < 2
    · obtain ⟨t, ht, htl⟩ : ∃ t : List UInt8, [AV.str (word m), AV.str s][i * 1]? = some (.str t) ∧ t.length ≤ 1000 := by
        have : i = 0 ∨ i = 1 := by omega
        rcases this with rfl | rfl
        · exact ⟨_, rfl, by omega⟩
        · exact ⟨_, rfl, by omega⟩
      simp (disch := first | done | ((try simp only [Heap.add_nxt, Heap.put_nxt, Heap.del_nxt, bump_nxt]) <;> omega) | fail) only [go_sem, seval, hlt, g5, Int.toNat_natCast, ht]
      refine callV_ofU F_36 rfl ((dBest_uf (s := t) (LG5.ext eh) W htl).mono ?_)
      rintro v6 h7 ⟨e6, k, n6, ok, rfl, b6⟩
      simp (disch := first | done | ((try simp only [Heap.add_nxt, Heap.put_nxt, Heap.del_nxt, bump_nxt]) <;> omega) | fail) only [go_sem, seval]
      have g6 : h7.get h4.nxt = _ := ((eh.trans e6).get _ nx).trans gx
      simp (disch := first | done | ((try simp only [Heap.add_nxt, Heap.put_nxt, Heap.del_nxt, bump_nxt]) <;> omega) | fail) only [go_sem, seval, hlt, g6, Int.toNat_natCast, ht]
      refine callV_ofU F_32 rfl ((refLongest_uf (s := t) (Lp5.ext (eh.trans e6)) M.fit (by omega) htl).mono ?_)
      rintro v7 h8 ⟨e7, k7, n7, ok7, rfl, b7⟩
      simp (disch := first | done | ((try simp only [Heap.add_nxt, Heap.put_nxt, Heap.del_nxt, bump_nxt]) <;> omega) | fail) only [go_sem, seval]
      obtain ⟨rfl, rfl, rfl⟩ := b6.unique b7
      have hk0 : ok = false → k = 0 := by
        rcases b6 with ⟨rfl, rfl, _⟩ | ⟨rfl, _⟩ <;> simp
      cases ok with
      | true =>
        simp (disch := first | done | ((try simp only [Heap.add_nxt, Heap.put_nxt, Heap.del_nxt, bump_nxt]) <;> omega) | fail) only [go_sem, seval]
        exact AgainK.mk (2 - (i + 1)) (by simp only; omega) ⟨i + 1, by omega, rfl, (eh.trans e6).trans e7, rfl, by simp [Has]⟩
      | false =>
        simp (disch := first | done | ((try simp only [Heap.add_nxt, Heap.put_nxt, Heap.del_nxt, bump_nxt]) <;> omega) | fail) only [go_sem, seval, hk0 rfl]
        exact AgainK.mk (2 - (i + 1)) (by simp only; omega) ⟨i + 1, by omega, rfl, (eh.trans e6).trans e7, rfl, by simp [Has]⟩
    · simp (disch := first | done | ((try simp only [Heap.add_nxt, Heap.put_nxt, Heap.del_nxt, bump_nxt]) <;> omega) | fail) only [go_sem, seval, hlt]
      exact hQ _ _ rfl
  · simp (disch := first | done | ((try simp only [Heap.add_nxt, Heap.put_nxt, Heap.del_nxt, bump_nxt]) <;> omega) | fail) only [go_sem, seval]
    refine callV_ofU F_35 rfl ((Few_uf (L2.ext (e3.trans e5)) M.fit (by omega)).mono ?_)
    rintro v6 h6 ⟨e6, rfl⟩
    simp (disch := first | done | ((try simp only [Heap.add_nxt, Heap.put_nxt, Heap.del_nxt, bump_nxt]) <;> omega) | fail) only [go_sem, seval]
    have : ¬ (es.map ncls).sum ≤ 8 := by omega
    simp (disch := first | done | ((try simp only [Heap.add_nxt, Heap.put_nxt, Heap.del_nxt, bump_nxt]) <;> omega) | fail) only [go_sem, seval, this]
    exact hQ _ _ rfl

theorem DfaAll_law {h : Heap} {s : List UInt8} {v w : AV} {zs ys : List Int} (hv : Slc h v 1 (zs.map fun z => [.int .u8 z])) (hb : ∀ z ∈ zs, IntKind.u8.min ≤ z ∧ z ≤ IntKind.u8.max) (hw : Slc h w 1 (ys.map fun z => [.int .u8 z])) (hc : ∀ z ∈ ys, IntKind.u8.min ≤ z ∧ z ≤ IntKind.u8.max) :
    WF T F 11 [v, w, .str s] h fun v' h' => v' = .bool true := by
  obtain ⟨H, l, m, le, L, M⟩ := bytes_two hv hb hw hc
  exact (UF.less le (DfaAll_uf L M)).toW

end Go.Proofs.Ytenpjkinpecnfaa
