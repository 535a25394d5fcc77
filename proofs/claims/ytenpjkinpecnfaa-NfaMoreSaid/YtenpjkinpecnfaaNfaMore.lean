/- What is behind the longest front is no matter, but for a byte that makes it longer: the front alone, and the text with a byte behind it that no pattern has, have the same longest front. For numbers of patterns (60) and of a text (12). -/
import Derived.Test.YtenpjkinpecnfaaNfaV
import Derived.Test.YtenpjkinpecnfaaAmAu
import Derived.KernelRfl
namespace Go.Proofs.Ytenpjkinpecnfaa
open Go Go.Am
set_option maxRecDepth 100000
set_option maxHeartbeats 4000000
set_option linter.unusedSimpArgs false
set_option linter.unusedVariables false

/-- No pattern has a byte below 32. -/
theorem HasR.not1 {es : List Rx} (hf : ∀ e ∈ es, Fit e) {w : List UInt8} {m : Nat} : ¬ HasR es (w ++ [1]) m := by
  rintro ⟨e, h1, h2⟩
  have := h2.ge (hf e (List.mem_of_getElem? h1)).ok 1 (by simp)
  exact absurd this (by decide)
theorem BestR.cut {es : List Rx} {s : List UInt8} {k n : Nat} (b : BestR es s k n true) : BestR es (s.take n) k n true := by
  rcases b with ⟨h, _⟩ | ⟨_, h1, h2, h3, h4, h5⟩
  · simp at h
  · have hl : (s.take n).length = n := by simp; omega
    exact .inr ⟨rfl, h1, by omega, by rwa [List.take_of_length_le (by omega)], by rwa [List.take_of_length_le (by omega)], fun j j1 j2 => by omega⟩
theorem BestR.more1 {es : List Rx} (hf : ∀ e ∈ es, Fit e) {s : List UInt8} {k n : Nat} {ok : Bool} (b : BestR es s k n ok) : BestR es (s ++ [1]) k n ok := by
  have ht : ∀ j, j ≤ s.length → (s ++ [1]).take j = s.take j := fun j hj => List.take_append_of_le_length hj
  have hno : ∀ p, (∀ j, p < j → j ≤ s.length → ∀ m, ¬ HasR es (s.take j) m) → ∀ j, p < j → j ≤ (s ++ [1]).length → ∀ m, ¬ HasR es ((s ++ [1]).take j) m := fun p h j j1 j2 m => by
    simp only [List.length_append, List.length_singleton] at j2
    by_cases hj : j ≤ s.length
    · rw [ht j hj]; exact h j j1 hj m
    · rw [List.take_of_length_le (by simp; omega)]; exact HasR.not1 hf
  rcases b with ⟨rfl, rfl, rfl, h⟩ | ⟨rfl, h1, h2, h3, h4, h5⟩
  · exact .inl ⟨rfl, rfl, rfl, hno 0 h⟩
  · exact .inr ⟨rfl, h1, by simp; omega, by rwa [ht n h2], by rwa [ht n h2], hno n h5⟩

theorem NfaMore_uf {h : Heap} {v w : AV} {l m : List UInt8} (hv : Lst h v l) (hw : Lst h w m) : UF T F 10 [v, w] h fun v' _ => v' = .bool true := by
  obtain ⟨a, n, c, z, rfl, hn⟩ := hv.form
  obtain ⟨a2, n2, c2, z2, rfl, hn2⟩ := hw.form
  refine UF.gen fun Q hQ => UF.of (F_10) (c := _) rfl ?_
  unfold Try.f10
  simp only [List.length, Nat.reduceSub, Nat.reduceAdd, List.replicate, List.cons_append, List.nil_append]
  simp (disch := first | done | ((try simp only [Heap.add_nxt, Heap.put_nxt, Heap.del_nxt, bump_nxt]) <;> omega) | fail) only [go_sem, seval]
  refine callV_ofU F_27 rfl ((begun4_uf).mono ?_)
  rintro v1 h1 ⟨e1, rfl⟩
  simp (disch := first | done | ((try simp only [Heap.add_nxt, Heap.put_nxt, Heap.del_nxt, bump_nxt]) <;> omega) | fail) only [go_sem, seval]
  by_cases h60 : (n : Int) > 60
  · simp (disch := first | done | ((try simp only [Heap.add_nxt, Heap.put_nxt, Heap.del_nxt, bump_nxt]) <;> omega) | fail) only [go_sem, seval, h60]
    exact hQ _ _ rfl
  by_cases h15 : (n2 : Int) > 12
  · simp (disch := first | done | ((try simp only [Heap.add_nxt, Heap.put_nxt, Heap.del_nxt, bump_nxt]) <;> omega) | fail) only [go_sem, seval, h60, h15]
    exact hQ _ _ rfl
  simp (disch := first | done | ((try simp only [Heap.add_nxt, Heap.put_nxt, Heap.del_nxt, bump_nxt]) <;> omega) | fail) only [go_sem, seval, h60, h15]
  refine callV_ofU F_28 rfl ((Pats_uf (hv.ext e1) (by omega)).mono ?_)
  rintro v2 h2 ⟨e2, es, L2, M⟩
  simp (disch := first | done | ((try simp only [Heap.add_nxt, Heap.put_nxt, Heap.del_nxt, bump_nxt]) <;> omega) | fail) only [go_sem, seval]
  refine callV_ofU F_29 rfl ((NfaOf_uf L2 M.fit (by have := M.few; omega)).mono ?_)
  rintro v3 h3 ⟨e3, G, L3, A⟩
  simp (disch := first | done | ((try simp only [Heap.add_nxt, Heap.put_nxt, Heap.del_nxt, bump_nxt]) <;> omega) | fail) only [go_sem, seval]
  refine callV_ofU F_30 rfl ((Word_uf (hw.ext ((e1.trans e2).trans e3)) (by omega)).mono ?_)
  rintro v4 h4 ⟨e4, rfl⟩
  simp (disch := first | done | ((try simp only [Heap.add_nxt, Heap.put_nxt, Heap.del_nxt, bump_nxt]) <;> omega) | fail) only [go_sem, seval]
  have hwl := word_len m
  generalize word m = s at *
  have hs1 : strOp .add s [1] = some (.str (s ++ [1])) := strOp_add (by simp; omega)
  have LG := L3.ext e4
  refine callV_ofU F_31 rfl ((nBest_uf (s := s) LG A (by omega)).mono ?_)
  rintro v5 h5 ⟨e5, k, q, ok, rfl, b⟩
  simp (disch := first | done | ((try simp only [Heap.add_nxt, Heap.put_nxt, Heap.del_nxt, bump_nxt]) <;> omega) | fail) only [go_sem, seval]
  have bm := b.more1 M.fit
  cases ok with
  | false =>
    simp (disch := first | done | ((try simp only [Heap.add_nxt, Heap.put_nxt, Heap.del_nxt, bump_nxt]) <;> omega) | fail) only [go_sem, seval, hs1]
    refine callV_ofU F_31 rfl ((nBest_uf (s := s ++ [1]) (LG.ext e5) A (by simp; omega)).mono ?_)
    rintro v6 h6 ⟨e6, k6, q6, ok6, rfl, b6⟩
    simp (disch := first | done | ((try simp only [Heap.add_nxt, Heap.put_nxt, Heap.del_nxt, bump_nxt]) <;> omega) | fail) only [go_sem, seval]
    obtain ⟨rfl, rfl, rfl⟩ := bm.unique b6
    simp (disch := first | done | ((try simp only [Heap.add_nxt, Heap.put_nxt, Heap.del_nxt, bump_nxt]) <;> omega) | fail) only [go_sem, seval]
    exact hQ _ _ rfl
  | true =>
    have hq : 0 < q ∧ q ≤ s.length := by
      rcases b with ⟨h, _⟩ | ⟨_, h1, h2, _⟩
      · simp at h
      · exact ⟨h1, h2⟩
    have q1 : ¬ (q : Int) < 1 := by omega
    have q2 : ¬ (q : Int) > (s.length : Int) := by omega
    simp (disch := first | done | ((try simp only [Heap.add_nxt, Heap.put_nxt, Heap.del_nxt, bump_nxt]) <;> omega) | fail) only [go_sem, seval, q1, q2]
    refine str_hi hq.2 ?_
    simp (disch := first | done | ((try simp only [Heap.add_nxt, Heap.put_nxt, Heap.del_nxt, bump_nxt]) <;> omega) | fail) only [go_sem, seval]
    refine callV_ofU F_31 rfl ((nBest_uf (s := s.take q) (LG.ext e5) A (by simp; omega)).mono ?_)
    rintro v6 h6 ⟨e6, k6, q6, ok6, rfl, b6⟩
    simp (disch := first | done | ((try simp only [Heap.add_nxt, Heap.put_nxt, Heap.del_nxt, bump_nxt]) <;> omega) | fail) only [go_sem, seval]
    obtain ⟨rfl, rfl, rfl⟩ := b.cut.unique b6
    simp (disch := first | done | ((try simp only [Heap.add_nxt, Heap.put_nxt, Heap.del_nxt, bump_nxt]) <;> omega) | fail) only [go_sem, seval, hs1]
    refine callV_ofU F_31 rfl ((nBest_uf (s := s ++ [1]) ((LG.ext e5).ext e6) A (by simp; omega)).mono ?_)
    rintro v7 h7 ⟨e7, k7, q7, ok7, rfl, b7⟩
    simp (disch := first | done | ((try simp only [Heap.add_nxt, Heap.put_nxt, Heap.del_nxt, bump_nxt]) <;> omega) | fail) only [go_sem, seval]
    obtain ⟨rfl, rfl, rfl⟩ := bm.unique b7
    simp (disch := first | done | ((try simp only [Heap.add_nxt, Heap.put_nxt, Heap.del_nxt, bump_nxt]) <;> omega) | fail) only [go_sem, seval]
    exact hQ _ _ rfl

theorem NfaMore_law {h : Heap} {v w : AV} {zs ys : List Int} (hv : Slc h v 1 (zs.map fun z => [.int .u8 z])) (hb : ∀ z ∈ zs, IntKind.u8.min ≤ z ∧ z ≤ IntKind.u8.max) (hw : Slc h w 1 (ys.map fun z => [.int .u8 z])) (hc : ∀ z ∈ ys, IntKind.u8.min ≤ z ∧ z ≤ IntKind.u8.max) :
    WF T F 10 [v, w] h fun v' h' => v' = .bool true := by
  obtain ⟨H, l, m, le, L, M⟩ := bytes_two hv hb hw hc
  exact (UF.less le (NfaMore_uf L M)).toW

end Go.Proofs.Ytenpjkinpecnfaa
