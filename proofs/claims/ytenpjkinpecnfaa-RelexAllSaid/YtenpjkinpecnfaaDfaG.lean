/-
  Layer dfa: what its laws begin with.
-/
import Derived.Test.YtenpjkinpecnfaaDfaF
import Derived.KernelRfl
namespace Go.Proofs.Ytenpjkinpecnfaa
open Go Go.Am
set_option maxRecDepth 100000
set_option maxHeartbeats 4000000
set_option linter.unusedSimpArgs false
set_option linter.unusedVariables false

def ncnt (l : List Item) : Nat := (l.filter fun x => decide (x.op = 1)).length
theorem ncnt_app (a b : List Item) : ncnt (a ++ b) = ncnt a + ncnt b := by simp [ncnt]
theorem ncnt_one (x : Item) : ncnt [x] = if x.op = 1 then 1 else 0 := by
  unfold ncnt
  by_cases h : x.op = 1 <;> simp [h]
theorem ncls_items : ∀ {e : Rx}, e.ok → ncnt e.items = ncls e
  | .cls l, _ => rfl
  | .rep op a, ⟨hop, ha⟩ => by
    rw [Rx.items, ncnt_app, ncls_items ha, ncnt_one, if_neg (by simp only; omega), ncls, Nat.add_zero]
  | .bin op a b, ⟨hop, ha, hb⟩ => by
    rw [Rx.items, ncnt_app, ncnt_app, ncls_items ha, ncls_items hb, ncnt_one, if_neg (by simp only; omega), ncls, Nat.add_zero]

theorem Few_uf {h : Heap} {v : AV} {es : List Rx} (sl : Lst h v (es.map Rx.items)) (hf : ∀ e ∈ es, Fit e) (hl : es.length ≤ 100) : UF T F 35 [v] h fun v' h' => Ext h h' ∧ v' = .bool (decide ((es.map ncls).sum ≤ 8)) := by
  obtain ⟨a, n, c, z, rfl, hn⟩ := sl.form
  rw [List.length_map] at hn
  have hsum : ∀ i, i ≤ es.length → ((es.take i).map ncls).sum ≤ 48 * i := by
    intro i
    induction i with
    | zero => intro _; simp
    | succ i ih =>
      intro hi
      have := ih (by omega)
      rw [List.take_add_one, List.getElem?_eq_getElem (by omega), Option.toList_some, List.map_append, List.sum_append]
      have F := hf es[i] (List.getElem_mem (by omega))
      have := ncls_items F.ok
      have := F.few
      have : ncnt es[i].items ≤ es[i].items.length := List.length_filter_le _ _
      simp only [List.map_cons, List.map_nil, List.sum_cons, List.sum_nil]
      omega
  refine UF.gen fun Q hQ => UF.of (F_35) (c := _) rfl ?_
  unfold Try.f35
  simp only [List.length, Nat.reduceSub, Nat.reduceAdd, List.replicate, List.cons_append, List.nil_append]
  simp (disch := omega) only [go_sem, seval]
  refine LoopU_while (fun m st hh => ∃ (i : Nat), i ≤ es.length ∧ m = es.length - i ∧ Ext h hh ∧
      Keep st 34 [(0, .slc a n c z), (3, .int .i64 (((es.take i).map ncls).sum : Nat)), (4, .int .i64 (i : Nat))]) es.length
    ⟨0, by omega, by omega, Ext.refl _, rfl, by simp [Has]⟩ ?_
  rintro m st hh ⟨i, hi, rfl, eh, hk⟩
  rw [hk.eq]
  obtain ⟨k0, k3, k4, -⟩ := hk.2
  simp only [slotsFrom, Nat.reduceAdd] at k0 k3 k4 ⊢
  simp only [k0, k3, k4]
  have hs := hsum i hi
  simp (disch := omega) only [go_sem, seval]
  by_cases hlt : (i : Int) < (n : Int)
  · have hil : i < es.length := by omega
    have F := hf es[i] (List.getElem_mem hil)
    have hfew := F.few
    have hfw := ncls_items F.ok
    have hnx : ((es.take (i + 1)).map ncls).sum = ((es.take i).map ncls).sum + ncnt es[i].items := by
      rw [List.take_add_one, List.getElem?_eq_getElem hil, Option.toList_some, List.map_append, List.sum_append, hfw]; simp
    simp (disch := omega) only [go_sem, seval, hlt]
    refine LoopU_while (fun m st h2 => ∃ (k : Nat), k ≤ es[i].items.length ∧ m = es[i].items.length - k ∧ Ext h h2 ∧
        Keep st 34 [(0, .slc a n c z), (3, .int .i64 (((es.take i).map ncls).sum + ncnt (es[i].items.take k) : Nat)), (4, .int .i64 (i : Nat)), (5, .int .i64 (k : Nat))]) es[i].items.length
      ⟨0, by omega, by omega, eh, rfl, by simp [Has, ncnt]⟩ ?_
    rintro m st h2 ⟨k, hk2, rfl, e2, hk⟩
    rw [hk.eq]
    obtain ⟨k0, k3, k4, k5, -⟩ := hk.2
    simp only [slotsFrom, Nat.reduceAdd] at k0 k3 k4 k5 ⊢
    simp only [k0, k3, k4, k5]
    have s2 := sl.ext e2
    obtain ⟨b1, o1, cs1, l1, rfl, rfl, hb1, hg1, ⟨v1, rfl, s1⟩, hr1', ht1, hc1⟩ := s2.at_ (i := i) (x := es[i].items) (by rw [List.getElem?_map, List.getElem?_eq_getElem hil]; rfl) (k := 1) rfl
    have c10 := hc1 0 (by decide)
    simp only [Nat.add_zero, List.getElem?_cons_zero] at c10
    obtain ⟨ia, iN, ic, iz, rfl, hin⟩ := s1.form
    have hcb : ncnt (es[i].items.take k) ≤ k := by
      have h1 : ncnt (es[i].items.take k) ≤ (es[i].items.take k).length := List.length_filter_le _ _
      rw [List.length_take] at h1; omega
    simp (disch := omega) only [go_sem, seval, hlt, hg1, Int.toNat_natCast, c10]
    by_cases hlk : (k : Int) < (iN : Int)
    · have hkl : k < es[i].items.length := by omega
      obtain ⟨b3, o3, cs3, l3, rfl, rfl, hb3, hg3, ⟨v3, rfl, s3⟩, hr3, ht3, hc3⟩ := s1.at_ (i := k) (x := es[i].items[k]) (List.getElem?_eq_getElem hkl) (k := 2) rfl
      have c30 := hc3 0 (by decide)
      simp only [Nat.add_zero, List.getElem?_cons_zero] at c30
      have hcn : ncnt (es[i].items.take (k + 1)) = ncnt (es[i].items.take k) + if es[i].items[k].op = 1 then 1 else 0 := by
        rw [List.take_add_one, List.getElem?_eq_getElem hkl, Option.toList_some, ncnt_app, ncnt_one]
      simp (disch := omega) only [go_sem, seval, hlk, hlt, hg1, Int.toNat_natCast, c10, hg3, c30]
      by_cases q1 : es[i].items[k].op = 1
      · simp (disch := omega) only [go_sem, seval, q1]
        exact AgainK.mk (es[i].items.length - (k + 1)) (by simp only; omega) ⟨k + 1, by omega, rfl, e2, rfl, by rw [if_pos q1] at hcn; simp [Has, hcn]; omega⟩
      · simp (disch := omega) only [go_sem, seval, q1]
        exact AgainK.mk (es[i].items.length - (k + 1)) (by simp only; omega) ⟨k + 1, by omega, rfl, e2, rfl, by rw [if_neg q1, Nat.add_zero] at hcn; simp [Has, hcn]⟩
    · simp (disch := omega) only [go_sem, seval, hlk]
      have hke : k = es[i].items.length := by omega
      subst hke
      rw [List.take_length] at *
      exact AgainK.mk (es.length - (i + 1)) (by simp only; omega) ⟨i + 1, by omega, rfl, e2, rfl, by simp [Has]; rw [List.map_take, List.map_take] at hnx; omega⟩
  · simp (disch := omega) only [go_sem, seval, hlt]
    have hie : i = es.length := by omega
    subst hie
    rw [List.take_length] at *
    refine hQ _ _ ⟨eh, ?_⟩
    have : (((es.map ncls).sum : Nat) : Int) ≤ 8 ↔ (es.map ncls).sum ≤ 8 := by omega
    simp only [this]

end Go.Proofs.Ytenpjkinpecnfaa
