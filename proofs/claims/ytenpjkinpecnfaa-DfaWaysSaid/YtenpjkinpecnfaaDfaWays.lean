/- Rows stand in the order in which they come up, each goes somewhere that there is, or nowhere: a row's byte tells of a row that there is already, or of the next one, or of none. For numbers of patterns (60). -/
import Derived.Test.YtenpjkinpecnfaaDfaG
import Derived.KernelRfl
namespace Go.Proofs.Ytenpjkinpecnfaa
open Go Go.Am
set_option maxRecDepth 100000
set_option maxHeartbeats 4000000
set_option linter.unusedSimpArgs false
set_option linter.unusedVariables false

theorem rowAll_get (G : List St) (s : List Nat) (S : List (List Nat)) : ∀ n c, c < n → (rowAll G s n S).2[c]? = some (rowN (rowAll G s c S).1 (goes G s (UInt8.ofNat c))).2
  | n + 1, c, hc => by
    have hl := rowAll_len G s S n
    by_cases e : c = n
    · subst e
      rw [rowAll, List.getElem?_append_right (by omega), hl]; simp
    · rw [rowAll, List.getElem?_append_left (by omega)]
      exact rowAll_get G s S n c (by omega)
theorem rowAll_mono (G : List St) (s : List Nat) (S : List (List Nat)) {c n : Nat} (h : c ≤ n) : (rowAll G s c S).1.length ≤ (rowAll G s n S).1.length := by
  induction n with
  | zero => obtain rfl : c = 0 := by omega
            exact Nat.le_refl _
  | succ n ih =>
    by_cases e : c = n + 1
    · subst e; exact Nat.le_refl _
    · have := ih (by omega)
      obtain ⟨r, h1, _⟩ := rowN_pre (rowAll G s n S).1 (goes G s (UInt8.ofNat n))
      rw [rowAll, h1, List.length_append]; omega
theorem ofN_mono (G : List St) {i n : Nat} (h : i ≤ n) : (ofN G i).1.length ≤ (ofN G n).1.length := by
  induction n with
  | zero => obtain rfl : i = 0 := by omega
            exact Nat.le_refl _
  | succ n ih =>
    by_cases e : i = n + 1
    · subst e; exact Nat.le_refl _
    · have := ih (by omega)
      cases hs : (ofN G n).1[n]? with
      | none => rw [show ofN G (n + 1) = ofN G n by rw [ofN, hs]]; exact this
      | some s =>
        obtain ⟨r, h1, _⟩ := rowAll_pre G s (ofN G n).1 256
        rw [show (ofN G (n + 1)).1 = (rowAll G s 256 (ofN G n).1).1 by rw [ofN, hs], h1, List.length_append]; omega
theorem ofN_exact (G : List St) : ∀ i, i ≤ (ofN G i).1.length → ∀ j, j < i → ∃ s, (ofN G j).1[j]? = some s ∧ (ofN G i).2[j]? = some ⟨(rowAll G s 256 (ofN G j).1).2, finOf G s⟩ ∧ (ofN G (j + 1)).1 = (rowAll G s 256 (ofN G j).1).1
  | i + 1, h, j, hj => by
    cases hs : (ofN G i).1[i]? with
    | none =>
      have := List.getElem?_eq_none_iff.1 hs
      rw [ofN, hs] at h
      simp only at h; omega
    | some s =>
      have hil := (List.getElem?_eq_some_iff.1 hs).1
      have hl := ofN_len G i (by omega)
      have he : ofN G (i + 1) = ((rowAll G s 256 (ofN G i).1).1, (ofN G i).2 ++ [⟨(rowAll G s 256 (ofN G i).1).2, finOf G s⟩]) := by rw [ofN, hs]
      by_cases e : j = i
      · subst e
        exact ⟨s, hs, by rw [he]; simp only; rw [List.getElem?_append_right (by omega), hl]; simp, by rw [he]⟩
      · obtain ⟨s2, q1, q2, q3⟩ := ofN_exact G i (by omega) j (by omega)
        exact ⟨s2, q1, by rw [he]; simp only; rw [List.getElem?_append_left (by omega)]; exact q2, q3⟩
/-- A number that is told, and how many sets there are. -/
theorem rowN_num (S : List (List Nat)) (t : List Nat) (h : 0 < S.length) : -1 ≤ (rowN S t).2 ∧ (rowN S t).2 ≤ S.length ∧ (rowN S t).2 < (rowN S t).1.length ∧ (if (rowN S t).2 > ((S.length : Nat) : Int) - 1 then (rowN S t).2 else ((S.length : Nat) : Int) - 1) = (((rowN S t).1.length : Nat) : Int) - 1 := by
  unfold rowN
  split
  · refine ⟨by simp, by simp only; omega, by simp only; omega, ?_⟩
    simp only
    rw [if_neg (by omega)]
  · split
    · rename_i h1
      have := List.idxOf_lt_length_iff.2 h1
      refine ⟨by simp only; omega, by simp only; omega, by simp only; omega, ?_⟩
      simp only
      rw [if_neg (by omega)]
    · refine ⟨by simp only; omega, by simp only; omega, by simp only [List.length_append, List.length_singleton]; omega, ?_⟩
      simp only [List.length_append, List.length_singleton]
      rw [if_pos (by omega)]; omega

theorem DfaWays_uf {h : Heap} {v : AV} {l : List UInt8} (hv : Lst h v l) : UF T F 12 [v] h fun v' _ => v' = .bool true := by
  obtain ⟨a, n, c, z, rfl, hn⟩ := hv.form
  refine UF.gen fun Q hQ => UF.of (F_12) (c := _) rfl ?_
  unfold Try.f12
  simp only [List.length, Nat.reduceSub, Nat.reduceAdd, List.replicate, List.cons_append, List.nil_append]
  simp (disch := first | ((try simp only [heapN]) <;> omega) | fail) only [go_sem, seval]
  refine callV_ofU F_33 rfl ((begun5_uf).mono ?_)
  rintro v1 h1 ⟨e1, rfl⟩
  simp (disch := first | ((try simp only [heapN]) <;> omega) | fail) only [go_sem, seval]
  by_cases h60 : (n : Int) > 60
  · simp (disch := first | ((try simp only [heapN]) <;> omega) | fail) only [go_sem, seval, h60]
    exact hQ _ _ rfl
  simp (disch := first | ((try simp only [heapN]) <;> omega) | fail) only [go_sem, seval, h60]
  refine callV_ofU F_28 rfl ((Pats_uf (hv.ext e1) (by omega)).mono ?_)
  rintro v2 h2 ⟨e2, es, L2, M⟩
  simp (disch := first | ((try simp only [heapN]) <;> omega) | fail) only [go_sem, seval]
  have hes : es.length ≤ 4 := M.few.2
  refine callV_ofU F_29 rfl ((NfaOf_uf L2 M.fit (by omega)).mono ?_)
  rintro v3 h3 ⟨e3, G, L3, A⟩
  simp (disch := first | ((try simp only [heapN]) <;> omega) | fail) only [go_sem, seval]
  refine callV_ofU F_34 rfl ((DfaOf_es L3 A (by omega)).mono ?_)
  rintro v5 h5 ⟨e5, m5⟩
  simp (disch := first | ((try simp only [heapN]) <;> omega) | fail) only [go_sem, seval]
  rcases m5 with ⟨S, R, L5, W⟩ | ⟨rfl, hc⟩
  · obtain ⟨ra, rn, rc, rz, rfl, hrn⟩ := L5.form
    obtain ⟨pa, pn, pc, pz, rfl, hpn⟩ := (L2.ext (e3.trans e5)).form
    rw [List.length_map] at hpn
    have hrl := W.len
    have r1 : ¬ (rn : Int) = 0 := by omega
    have hof := W.of_
    have hSl : (ofN G R.length).1.length = R.length := by rw [hof.1, W.rws.len]
    simp (disch := first | ((try simp only [heapN]) <;> omega) | fail) only [go_sem, seval, r1]
    refine LoopU_while (fun m st hh => ∃ (i : Nat), i ≤ R.length ∧ m = R.length - i ∧ Ext h5 hh ∧
        Keep st 83 [(3, .slc pa pn pc pz), (4, .slc ra rn rc rz), (5, .int .i64 (((ofN G i).1.length : Nat) - 1)), (6, .int .i64 (i : Nat))]) R.length
      ⟨0, by omega, by omega, Ext.refl _, rfl, ?_⟩ ?_
    · have h0 : (ofN G 0).1.length = 1 := by
        have h1 := (ofN_rows G A.pos 0 (by omega)).1
        have h2 := (List.getElem?_eq_some_iff.1 h1).1
        have h3 := ofN_bound G 0
        omega
      simp [Has, h0]
    rintro m st hh ⟨i, hi, rfl, eh, hk⟩
    rw [hk.eq]
    obtain ⟨k3, k4, k5, k6, -⟩ := hk.2
    simp only [slotsFrom, Nat.reduceAdd] at k3 k4 k5 k6 ⊢
    simp only [k3, k4, k5, k6]
    have L6 := L5.ext eh
    simp (disch := first | ((try simp only [heapN]) <;> omega) | fail) only [go_sem, seval]
    by_cases hlt : (i : Int) < (rn : Int)
    · have hil : i < R.length := by omega
      obtain ⟨s, hs, hrow, hnext⟩ := ofN_exact G R.length (by omega) i hil
      rw [hof.2] at hrow
      have hsl := (List.getElem?_eq_some_iff.1 hs).1
      have hm1 := ofN_mono G (show i + 1 ≤ R.length by omega)
      rw [hnext, hSl] at hm1
      obtain ⟨x0, hx0, hxn, hxf⟩ : ∃ x : Row, R[i]? = some x ∧ x.next = (rowAll G s 256 (ofN G i).1).2 ∧ x.fin = finOf G s := ⟨_, hrow, rfl, rfl⟩
      have hfe := W.fin x0 (List.mem_of_getElem? hx0)
      obtain ⟨b1, o1, cs1, l1, rfl, rfl, hb1, hg1, ⟨rfl, hx⟩, hr1, ht1, hc1⟩ := L6.at_ (i := i) hx0 (k := 257) rfl
      have q1 : ¬ (i : Int) > (((ofN G i).1.length : Nat) : Int) - 1 := by omega
      simp (disch := first | ((try simp only [heapN]) <;> omega) | fail) only [go_sem, seval, hlt, q1]
      refine LoopU_while (fun m st h6 => ∃ (c : Nat), c ≤ 256 ∧ m = 256 - c ∧ Ext hh h6 ∧
          Keep st 83 [(3, .slc pa pn pc pz), (4, .slc (some (b1, o1)) rn rc 257), (5, .int .i64 (((rowAll G s c (ofN G i).1).1.length : Nat) - 1)), (6, .int .i64 (i : Nat)), (7, .int .i64 (c : Nat))]) 256
        ⟨0, by omega, by omega, Ext.refl _, rfl, by simp [Has, rowAll]⟩ ?_
      rintro m st h6 ⟨c, hc, rfl, e6, hk⟩
      rw [hk.eq]
      obtain ⟨k3, k4, k5, k6, k7, -⟩ := hk.2
      simp only [slotsFrom, Nat.reduceAdd] at k3 k4 k5 k6 k7 ⊢
      simp only [k3, k4, k5, k6, k7]
      have g6 : h6.get b1 = _ := (e6.get _ hb1).trans hg1
      simp (disch := first | ((try simp only [heapN]) <;> omega) | fail) only [go_sem, seval]
      by_cases hlc : (c : Int) < 256
      · have hmc := rowAll_mono G s (ofN G i).1 (show c ≤ 256 by omega)
        have hmc1 := rowAll_mono G s (ofN G i).1 (show c + 1 ≤ 256 by omega)
        have hm0 := rowAll_mono G s (ofN G i).1 (show 0 ≤ c by omega)
        have hr0 : (rowAll G s 0 (ofN G i).1).1 = (ofN G i).1 := rfl
        rw [hr0] at hm0
        obtain ⟨n1, n2, n3, n4⟩ := rowN_num (rowAll G s c (ofN G i).1).1 (goes G s (UInt8.ofNat c)) (by omega)
        have hS1 : (rowAll G s (c + 1) (ofN G i).1).1 = (rowN (rowAll G s c (ofN G i).1).1 (goes G s (UInt8.ofNat c))).1 := by rw [rowAll]
        rw [← hS1] at n3 n4
        have hval := rowAll_get G s (ofN G i).1 256 c (by omega)
        have cv : cs1[o1 + i * 257 + c * 1]? = some (.int .i64 (rowN (rowAll G s c (ofN G i).1).1 (goes G s (UInt8.ofNat c))).2) := by
          rw [Nat.mul_one, hc1 _ (by omega)]
          show (rcs x0.next x0.fin)[c]? = _
          rw [rcs_get (by omega), hxn, hval]; rfl
        simp (disch := first | ((try simp only [heapN]) <;> omega) | fail) only [go_sem, seval, hlt, hlc, Int.toNat_natCast, g6, cv]
        generalize (rowN (rowAll G s c (ofN G i).1).1 (goes G s (UInt8.ofNat c))).2 = x at *
        have p1 : ¬ x < -1 := by omega
        have p2 : ¬ x ≥ (rn : Int) := by omega
        have p3 : ¬ x > (((rowAll G s c (ofN G i).1).1.length : Nat) : Int) - 1 + 1 := by omega
        simp (disch := first | ((try simp only [heapN]) <;> omega) | fail) only [go_sem, seval, p1, p2, p3]
        rw [n4]
        exact AgainK.mk (256 - (c + 1)) (by simp only; omega) ⟨c + 1, by omega, rfl, e6, rfl, by simp [Has]⟩
      · have hc256 : c = 256 := by omega
        subst hc256
        have cf : cs1[o1 + i * 257 + 256]? = some (.int .i64 (x0.fin : Nat)) := by
          rw [hc1 _ (by omega)]
          show (rcs x0.next x0.fin)[256]? = _
          rw [rcs_fin hx]
        have f1 : ¬ ((x0.fin : Nat) : Int) < 0 := by omega
        have f2 : ¬ ((x0.fin : Nat) : Int) > (pn : Int) := by omega
        simp (disch := first | ((try simp only [heapN]) <;> omega) | fail) only [go_sem, seval, hlc, hlt, Int.toNat_natCast, g6, cf, f1, f2]
        exact AgainK.mk (R.length - (i + 1)) (by simp only; omega) ⟨i + 1, by omega, rfl, eh.trans e6, rfl, by simp [Has, hnext]⟩
    · simp (disch := first | ((try simp only [heapN]) <;> omega) | fail) only [go_sem, seval, hlt]
      have hie : i = R.length := by omega
      subst hie
      rw [hSl]
      have : (((R.length : Nat) : Int) - 1) = ((rn : Nat) : Int) - 1 := by omega
      simp (disch := first | ((try simp only [heapN]) <;> omega) | fail) only [go_sem, seval, this]
      exact hQ _ _ rfl
  · simp (disch := first | ((try simp only [heapN]) <;> omega) | fail) only [go_sem, seval]
    refine callV_ofU F_35 rfl ((Few_uf (L2.ext (e3.trans e5)) M.fit (by omega)).mono ?_)
    rintro v6 h6 ⟨e6, rfl⟩
    simp (disch := first | ((try simp only [heapN]) <;> omega) | fail) only [go_sem, seval]
    have : ¬ (es.map ncls).sum ≤ 8 := by omega
    simp (disch := first | ((try simp only [heapN]) <;> omega) | fail) only [go_sem, seval, this]
    exact hQ _ _ rfl

theorem DfaWays_law {h : Heap} {v : AV} {zs : List Int} (hv : Slc h v 1 (zs.map fun z => [.int .u8 z])) (hb : ∀ z ∈ zs, IntKind.u8.min ≤ z ∧ z ≤ IntKind.u8.max) : WF T F 12 [v] h fun v' h' => v' = .bool true := by
  obtain ⟨l, _, L⟩ := bytes_lst hv hb
  exact UF.toW (UF.less (frzV_le h v) (DfaWays_uf L))

end Go.Proofs.Ytenpjkinpecnfaa
