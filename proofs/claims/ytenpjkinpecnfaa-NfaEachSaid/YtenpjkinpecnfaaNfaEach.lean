/- Many patterns at once are one by one: the longest front is the longest of all patterns' ones, and of these the first pattern's. For numbers of patterns (60) and of a text (15). -/
import Derived.Test.YtenpjkinpecnfaaNfaV
import Derived.Test.YtenpjkinpecnfaaAmAu
import Derived.KernelRfl
namespace Go.Proofs.Ytenpjkinpecnfaa
open Go Go.Am
set_option maxRecDepth 100000
set_option maxHeartbeats 4000000
set_option linter.unusedSimpArgs false
set_option linter.unusedVariables false

theorem HasR.single {es : List Rx} {i : Nat} {e : Rx} (he : es[i]? = some e) {w : List UInt8} : HasR [e] w 0 ↔ HasR es w i := by
  constructor
  · rintro ⟨x, h1, h2⟩
    simp only [List.getElem?_cons_zero, Option.some.injEq] at h1
    subst h1
    exact ⟨e, he, h2⟩
  · rintro ⟨x, h1, h2⟩
    rw [he] at h1
    simp only [Option.some.injEq] at h1
    subst h1
    exact ⟨e, rfl, h2⟩
theorem BestR.single {es : List Rx} {i : Nat} {e : Rx} (he : es[i]? = some e) {s : List UInt8} {k n : Nat} {ok : Bool} (b : BestR [e] s k n ok) : k = 0 ∧ ok = decide (0 < n) ∧ n ≤ s.length ∧ (0 < n → HasR es (s.take n) i) ∧ ∀ j, n < j → j ≤ s.length → ¬ HasR es (s.take j) i := by
  rcases b with ⟨rfl, rfl, rfl, h⟩ | ⟨rfl, h1, h2, h3, h4, h5⟩
  · exact ⟨rfl, rfl, by omega, fun h0 => by omega, fun j j1 j2 h6 => h j j1 j2 0 ((HasR.single he).2 h6)⟩
  · have hk : k = 0 := by
      obtain ⟨x, hx, _⟩ := h3
      have := (List.getElem?_eq_some_iff.1 hx).1
      simp at this; exact this
    subst hk
    exact ⟨rfl, by simpa using h1, h2, fun _ => (HasR.single he).1 h3, fun j j1 j2 h6 => h5 j j1 j2 0 ((HasR.single he).2 h6)⟩

theorem NfaEach_uf {h : Heap} {v w : AV} {l m : List UInt8} (hv : Lst h v l) (hw : Lst h w m) : UF T F 8 [v, w] h fun v' _ => v' = .bool true := by
  obtain ⟨a, n, c, z, rfl, hn⟩ := hv.form
  obtain ⟨a2, n2, c2, z2, rfl, hn2⟩ := hw.form
  refine UF.gen fun Q hQ => UF.of (F_8) (c := _) rfl ?_
  unfold Try.f8
  simp only [List.length, Nat.reduceSub, Nat.reduceAdd, List.replicate, List.cons_append, List.nil_append]
  simp (disch := first | done | ((try simp only [Heap.add_nxt, Heap.put_nxt, Heap.del_nxt, bump_nxt]) <;> omega) | fail) only [go_sem, seval]
  refine callV_ofU F_27 rfl ((begun4_uf).mono ?_)
  rintro v1 h1 ⟨e1, rfl⟩
  simp (disch := first | done | ((try simp only [Heap.add_nxt, Heap.put_nxt, Heap.del_nxt, bump_nxt]) <;> omega) | fail) only [go_sem, seval]
  by_cases h60 : (n : Int) > 60
  · simp (disch := first | done | ((try simp only [Heap.add_nxt, Heap.put_nxt, Heap.del_nxt, bump_nxt]) <;> omega) | fail) only [go_sem, seval, h60]
    exact hQ _ _ rfl
  by_cases h15 : (n2 : Int) > 15
  · simp (disch := first | done | ((try simp only [Heap.add_nxt, Heap.put_nxt, Heap.del_nxt, bump_nxt]) <;> omega) | fail) only [go_sem, seval, h60, h15]
    exact hQ _ _ rfl
  simp (disch := first | done | ((try simp only [Heap.add_nxt, Heap.put_nxt, Heap.del_nxt, bump_nxt]) <;> omega) | fail) only [go_sem, seval, h60, h15]
  refine callV_ofU F_28 rfl ((Pats_uf (hv.ext e1) (by omega)).mono ?_)
  rintro v2 h2 ⟨e2, es, L2, M⟩
  simp (disch := first | done | ((try simp only [Heap.add_nxt, Heap.put_nxt, Heap.del_nxt, bump_nxt]) <;> omega) | fail) only [go_sem, seval]
  refine callV_ofU F_30 rfl ((Word_uf (hw.ext (e1.trans e2)) (by omega)).mono ?_)
  rintro v4 h4 ⟨e4, rfl⟩
  simp (disch := first | done | ((try simp only [Heap.add_nxt, Heap.put_nxt, Heap.del_nxt, bump_nxt]) <;> omega) | fail) only [go_sem, seval]
  have hwl := word_len m
  have hes : es.length ≤ 4 := M.few.2
  have Lp := L2.ext e4
  obtain ⟨pa, pn, pc, pz, rfl, hpn⟩ := Lp.form
  rw [List.length_map] at hpn
  refine LoopU_while (fun m' st hh => ∃ (i k q : Nat), i ≤ es.length ∧ m' = es.length - i ∧ Ext h4 hh ∧ BestP es (word m) i k q ∧
      Keep st 87 [(5, .slc pa pn pc pz), (6, .str (word m)), (7, .int .i64 (k : Nat)), (8, .int .i64 (q : Nat)), (9, .int .i64 (i : Nat))]) es.length
    ⟨0, 0, 0, by omega, by omega, Ext.refl _, .inl ⟨rfl, rfl, fun j _ _ m hm => by omega⟩, rfl, by simp [Has]⟩ ?_
  rintro m' st hh ⟨i, k, q, hi, rfl, eh, hb, hk⟩
  rw [hk.eq]
  obtain ⟨k5, k6, k7, k8, k9, -⟩ := hk.2
  simp only [slotsFrom, Nat.reduceAdd] at k5 k6 k7 k8 k9 ⊢
  simp only [k5, k6, k7, k8, k9]
  have hbl := hb.le
  simp (disch := first | done | ((try simp only [Heap.add_nxt, Heap.put_nxt, Heap.del_nxt, bump_nxt]) <;> omega) | fail) only [go_sem, seval]
  by_cases hlt : (i : Int) < (pn : Int)
  · have hil : i < es.length := by omega
    have hei : es[i]? = some es[i] := List.getElem?_eq_getElem hil
    have e11 : ((i : Int) + 1) = ((i + 1 : Nat) : Int) := by omega
    simp (disch := first | done | ((try simp only [Heap.add_nxt, Heap.put_nxt, Heap.del_nxt, bump_nxt]) <;> omega) | fail) only [go_sem, seval, hlt, e11]
    refine lst_both (i := i) (j := i + 1) T_40 rfl T_28 rfl (Lp.ext eh) (by omega) (by simp; omega) ?_
    intro v9 s9
    have hone : ((es.map Rx.items).take (i + 1)).drop i = [es[i]].map Rx.items := by
      rw [← List.map_take, ← List.map_drop, List.take_add_one, hei, Option.toList_some, List.drop_append_of_le_length (by simp; omega), List.drop_eq_nil_of_le (by simp; omega)]
      rfl
    rw [hone] at s9
    simp (disch := first | done | ((try simp only [Heap.add_nxt, Heap.put_nxt, Heap.del_nxt, bump_nxt]) <;> omega) | fail) only [go_sem, seval]
    refine callV_ofU F_29 rfl ((NfaOf_uf s9 (fun e he => by simp only [List.mem_singleton] at he; subst he; exact M.fit _ (List.getElem_mem hil)) (by simp)).mono ?_)
    rintro v10 h10 ⟨e10, G, L10, A⟩
    simp (disch := first | done | ((try simp only [Heap.add_nxt, Heap.put_nxt, Heap.del_nxt, bump_nxt]) <;> omega) | fail) only [go_sem, seval]
    refine callV_ofU F_31 rfl ((nBest_uf (s := word m) L10 A (by omega)).mono ?_)
    rintro v11 h11 ⟨e11', k2, n2', ok, rfl, b⟩
    simp (disch := first | done | ((try simp only [Heap.add_nxt, Heap.put_nxt, Heap.del_nxt, bump_nxt]) <;> omega) | fail) only [go_sem, seval]
    obtain ⟨rfl, rfl, c1, c2', c3⟩ := b.single hei
    have eA := (eh.trans e10).trans e11'
    have hdec : (decide ((n2' : Int) > 0)) = decide (0 < n2') := by
      have : ((n2' : Int) > 0) ↔ 0 < n2' := by omega
      simp only [this]
    have hbe : (!(decide (0 < n2') == decide (0 < n2'))) = false := by cases decide (0 < n2') <;> rfl
    simp (disch := first | done | ((try simp only [Heap.add_nxt, Heap.put_nxt, Heap.del_nxt, bump_nxt]) <;> omega) | fail) only [go_sem, seval, hdec, hbe]
    by_cases hgt : (n2' : Int) > (q : Int)
    · simp (disch := first | done | ((try simp only [Heap.add_nxt, Heap.put_nxt, Heap.del_nxt, bump_nxt]) <;> omega) | fail) only [go_sem, seval, hgt]
      exact AgainK.mk (es.length - (i + 1)) (by simp only; omega) ⟨i + 1, i, n2', by omega, rfl, eA, hb.more (by omega) c1 (c2' (by omega)) c3, rfl, by simp [Has]⟩
    · simp (disch := first | done | ((try simp only [Heap.add_nxt, Heap.put_nxt, Heap.del_nxt, bump_nxt]) <;> omega) | fail) only [go_sem, seval, hgt]
      exact AgainK.mk (es.length - (i + 1)) (by simp only; omega) ⟨i + 1, k, q, by omega, rfl, eA, hb.same fun j j1 j2 => c3 j (by omega) j2, rfl, by simp [Has]⟩
  · simp (disch := first | done | ((try simp only [Heap.add_nxt, Heap.put_nxt, Heap.del_nxt, bump_nxt]) <;> omega) | fail) only [go_sem, seval, hlt]
    have hie : i = es.length := by omega
    subst hie
    refine callV_ofU F_29 rfl ((NfaOf_uf (Lp.ext eh) M.fit (by omega)).mono ?_)
    rintro v10 h10 ⟨e10, G, L10, A⟩
    simp (disch := first | done | ((try simp only [Heap.add_nxt, Heap.put_nxt, Heap.del_nxt, bump_nxt]) <;> omega) | fail) only [go_sem, seval]
    refine callV_ofU F_31 rfl ((nBest_uf (s := word m) L10 A (by omega)).mono ?_)
    rintro v11 h11 ⟨e11', k2, n2', ok, rfl, b⟩
    simp (disch := first | done | ((try simp only [Heap.add_nxt, Heap.put_nxt, Heap.del_nxt, bump_nxt]) <;> omega) | fail) only [go_sem, seval]
    obtain ⟨rfl, rfl, rfl⟩ := b.unique hb.all
    have hdec : (decide ((n2' : Int) > 0)) = decide (0 < n2') := by
      have : ((n2' : Int) > 0) ↔ 0 < n2' := by omega
      simp only [this]
    have hbe : (decide (0 < n2') == decide (0 < n2')) = true := by cases decide (0 < n2') <;> rfl
    simp (disch := first | done | ((try simp only [Heap.add_nxt, Heap.put_nxt, Heap.del_nxt, bump_nxt]) <;> omega) | fail) only [go_sem, seval, hdec, hbe]
    by_cases h0 : 0 < n2'
    · simp (disch := first | done | ((try simp only [Heap.add_nxt, Heap.put_nxt, Heap.del_nxt, bump_nxt]) <;> omega) | fail) only [go_sem, seval, h0]
      exact hQ _ _ rfl
    · simp (disch := first | done | ((try simp only [Heap.add_nxt, Heap.put_nxt, Heap.del_nxt, bump_nxt]) <;> omega) | fail) only [go_sem, seval, h0]
      exact hQ _ _ rfl

theorem NfaEach_law {h : Heap} {v w : AV} {zs ys : List Int} (hv : Slc h v 1 (zs.map fun z => [.int .u8 z])) (hb : ∀ z ∈ zs, IntKind.u8.min ≤ z ∧ z ≤ IntKind.u8.max) (hw : Slc h w 1 (ys.map fun z => [.int .u8 z])) (hc : ∀ z ∈ ys, IntKind.u8.min ≤ z ∧ z ≤ IntKind.u8.max) :
    WF T F 8 [v, w] h fun v' h' => v' = .bool true := by
  obtain ⟨H, l, m, le, L, M⟩ := bytes_two hv hb hw hc
  exact (UF.less le (NfaEach_uf L M)).toW

end Go.Proofs.Ytenpjkinpecnfaa
