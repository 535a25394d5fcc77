/-
  Layer dfa: what its laws begin with.
-/
import Derived.Test.YtenpjkinpecnfaaDfaF
import Derived.KernelRfl
namespace Go.Proofs.Ytenpjkinpecnfaa
open Go Go.Am
set_option maxRecDepth 100000
set_option maxHeartbeats 4000000
set_option linter.unusedSimpArgs false
set_option linter.unusedVariables false

def ncnt (l : List Item) : Nat := (l.filter fun x => decide (x.op = 1)).length
theorem ncnt_app (a b : List Item) : ncnt (a ++ b) = ncnt a + ncnt b := by simp [ncnt]
theorem ncnt_one (x : Item) : ncnt [x] = if x.op = 1 then 1 else 0 := by
  unfold ncnt
  by_cases h : x.op = 1 <;> simp [h]
theorem ncls_items : ∀ {e : Rx}, e.ok → ncnt e.items = ncls e
  | .cls l, _ => rfl
  | .rep op a, ⟨hop, ha⟩ => by
    rw [Rx.items, ncnt_app, ncls_items ha, ncnt_one, if_neg (by simp only; omega), ncls, Nat.add_zero]
  | .bin op a b, ⟨hop, ha, hb⟩ => by
    rw [Rx.items, ncnt_app, ncnt_app, ncls_items ha, ncls_items hb, ncnt_one, if_neg (by simp only; omega), ncls, Nat.add_zero]

theorem Few_uf {h : Heap} {v : AV} {es : List Rx} (sl : Lst h v (es.map Rx.items)) (hf : ∀ e ∈ es, Fit e) (hl : es.length ≤ 100) : UF T F 35 [v] h fun v' h' => Ext h h' ∧ v' = .bool (decide ((es.map ncls).sum ≤ 8)) := by
  obtain ⟨a, n, c, z, rfl, hn⟩ := sl.form
  rw [List.length_map] at hn
  have hsum : ∀ i, i ≤ es.length → ((es.take i).map ncls).sum ≤ 48 * i := by
    intro i
    induction i with
    | zero => intro _; simp
    | succ i ih =>
      intro hi
      have := ih (by omega)
      rw [List.take_add_one, List.getElem?_eq_getElem (by omega), Option.toList_some, List.map_append, List.sum_append]
      have F := hf es[i] (List.getElem_mem (by omega))
      have := ncls_items F.ok
      have := F.few
      have : ncnt es[i].items ≤ es[i].items.length := List.length_filter_le _ _
      simp only [List.map_cons, List.map_nil, List.sum_cons, List.sum_nil]
      omega
  refine UF.gen fun Q hQ => UF.of (F_35) (c := _) rfl ?_
  unfold Try.f35
  simp only [List.length, Nat.reduceSub, Nat.reduceAdd, List.replicate, List.cons_append, List.nil_append]
  simp (disch := omega) only [go_sem, seval]
  refine LoopU_while (fun m st hh => ∃ (i : Nat), i ≤ es.length ∧ m = es.length - i ∧ Ext h hh ∧
      Keep st 34 [(0, .slc a n c z), (3, .int .i64 (((es.take i).map ncls).sum : Nat)), (4, .int .i64 (i : Nat))]) es.length
    ⟨0, by omega, by omega, Ext.refl _, rfl, by simp [Has]⟩ ?_
  rintro m st hh ⟨i, hi, rfl, eh, hk⟩
  rw [hk.eq]
  obtain ⟨k0, k3, k4, -⟩ := hk.2
  simp only [slotsFrom, Nat.reduceAdd] at k0 k3 k4 ⊢
  simp only [k0, k3, k4]
  have hs := hsum i hi
  simp (disch := omega) only [go_sem, seval]
  by_cases hlt : (i : Int) < (n : Int)
  · have hil : i < es.length := by omega
    have F := hf es[i] (List.getElem_mem hil)
    have hfew := F.few
    have hfw := ncls_items F.ok
    have hnx : ((es.take (i + 1)).map ncls).sum = ((es.take i).map ncls).sum + ncnt es[i].items := by
      rw [List.take_add_one, List.getElem?_eq_getElem hil, Option.toList_some, List.map_append, List.sum_append, hfw]; simp
    simp (disch := omega) only [go_sem, seval, hlt]
    refine LoopU_while (fun m st h2 => ∃ (k : Nat), k ≤ es[i].items.length ∧ m = es[i].items.length - k ∧ Ext h h2 ∧
        Keep st 34 [(0, .slc a n c z), (3, .int .i64 (((es.take i).map ncls).sum + ncnt (es[i].items.take k) : Nat)), (4, .int .i64 (i : Nat)), (5, .int .i64 (k : Nat))]) es[i].items.length
      ⟨0, by omega, by omega, eh, rfl, by simp [Has, ncnt]⟩ ?_
    rintro m st h2 ⟨k, hk2, rfl, e2, hk⟩
    rw [hk.eq]
    obtain ⟨k0, k3, k4, k5, -⟩ := hk.2
    simp only [slotsFrom, Nat.reduceAdd] at k0 k3 k4 k5 ⊢
    simp only [k0, k3, k4, k5]
    have s2 := sl.ext e2
    obtain ⟨b1, o1, cs1, l1, rfl, rfl, hb1, hg1, ⟨v1, rfl, s1⟩, hr1', ht1, hc1⟩ := s2.at_ (i := i) (x := es[i].items) (by rw [List.getElem?_map, List.getElem?_eq_getElem hil]; rfl) (k := 1) rfl
    have c10 := hc1 0 (by decide)
    simp only [Nat.add_zero, List.getElem?_cons_zero] at c10
    obtain ⟨ia, iN, ic, iz, rfl, hin⟩ := s1.form
    have hcb : ncnt (es[i].items.take k) ≤ k := by
      have h1 : ncnt (es[i].items.take k) ≤ (es[i].items.take k).length := List.length_filter_le _ _
      rw [List.length_take] at h1; omega
    simp (disch := omega) only [go_sem, seval, hlt, hg1, Int.toNat_natCast, c10]
    by_cases hlk : (k : Int) < (iN : Int)
    · have hkl : k < es[i].items.length := by omega
      obtain ⟨b3, o3, cs3, l3, rfl, rfl, hb3, hg3, ⟨v3, rfl, s3⟩, hr3, ht3, hc3⟩ := s1.at_ (i := k) (x := es[i].items[k]) (List.getElem?_eq_getElem hkl) (k := 2) rfl
      have c30 := hc3 0 (by decide)
      simp only [Nat.add_zero, List.getElem?_cons_zero] at c30
      have hcn : ncnt (es[i].items.take (k + 1)) = ncnt (es[i].items.take k) + if es[i].items[k].op = 1 then 1 else 0 := by
        rw [List.take_add_one, List.getElem?_eq_getElem hkl, Option.toList_some, ncnt_app, ncnt_one]
      simp (disch := omega) only [go_sem, seval, hlk, hlt, hg1, Int.toNat_natCast, c10, hg3, c30]
      by_cases q1 : es[i].items[k].op = 1
      · simp (disch := omega) only [go_sem, seval, q1]
        exact AgainK.mk (es[i].items.length - (k + 1)) (by simp only; omega) ⟨k + 1, by omega, rfl, e2, rfl, by rw [if_pos q1] at hcn; simp [Has, hcn]; omega⟩
      · simp (disch := omega) only [go_sem, seval, q1]
        exact AgainK.mk (es[i].items.length - (k + 1)) (by simp only; omega) ⟨k + 1, by omega, rfl, e2, rfl, by rw [if_neg q1, Nat.add_zero] at hcn; simp [Has, hcn]⟩
    · simp (disch := omega) only [go_sem, seval, hlk]
      have hke : k = es[i].items.length := by omega
      subst hke
      rw [List.take_length] at *
      exact AgainK.mk (es.length - (i + 1)) (by simp only; omega) ⟨i + 1, by omega, rfl, e2, rfl, by simp [Has]; rw [List.map_take, List.map_take] at hnx; omega⟩
  · simp (disch := omega) only [go_sem, seval, hlt]
    have hie : i = es.length := by omega
    subst hie
    rw [List.take_length] at *
    refine hQ _ _ ⟨eh, ?_⟩
    have : (((es.map ncls).sum : Nat) : Int) ≤ 8 ↔ (es.map ncls).sum ≤ 8 := by omega
    simp only [this]

/-- The rows of a byte. -/
theorem byte_rows {G : List St} {S : List (List Nat)} {R : List Row} {a b : UInt8} (H : RowFit G S R [.cls [⟨a, a⟩]]) (hab : b ≠ a) :
    R.length = 2 ∧ ∃ x y, R[0]? = some x ∧ R[1]? = some y ∧ x.next[a.toNat]? = some 1 ∧ x.next[b.toNat]? = some (-1) ∧ y.fin = 1 ∧ x.next.length = 256 ∧ y.next.length = 256 := by
  have A := H.auto.auto
  have hst := H.rws.start
  obtain ⟨x, hx, hxf, hxl, hxn⟩ := H.rws.row 0 _ hst
  have live0 : ∀ q, q ∈ clo G [0] ↔ Live G [] q := start_live
  have livea := goes_live live0 a
  have f0 : finOf G (clo G [0]) = 0 := by
    have h1 := finOf_end live0
    cases hf : finOf G (clo G [0]) with
    | zero => rfl
    | succ m =>
      rw [hf] at h1
      have := (HasR.cls.1 (h1.some A).1).2
      cases this
  have fa : finOf G (goes G (clo G [0]) a) = 1 := by
    have h1 := finOf_end livea
    rw [List.nil_append] at h1
    cases hf : finOf G (goes G (clo G [0]) a) with
    | zero => rw [hf] at h1; exact absurd (HasR.cls.2 ⟨rfl, rfl⟩) (h1.none A 0)
    | succ m =>
      rw [hf] at h1
      have := (HasR.cls.1 (h1.some A).1).1
      omega
  have hlen : S.length ≤ 2 := by have := H.len.2.2; rw [H.rws.len] at this; simpa [ncls] using this
  obtain ⟨v, hv, hg⟩ := hxn a
  rcases hg with ⟨hg, _⟩ | ⟨hg, j, rfl, hj⟩
  · rw [hg] at fa; simp [finOf] at fa
  · have hjl := (List.getElem?_eq_some_iff.1 hj).1
    have hj0 : j ≠ 0 := fun e => by
      subst e
      rw [hst] at hj
      simp only [Option.some.injEq] at hj
      rw [hj] at f0; omega
    have hj1 : j = 1 := by omega
    subst hj1
    obtain ⟨y, hy, hyf, hyl, _⟩ := H.rws.row 1 _ hj
    obtain ⟨u, hu, hgb⟩ := hxn b
    have hnb : goes G (clo G [0]) b = [] := by
      have : tos G (clo G [0]) b = [] := by
        refine List.eq_nil_iff_forall_not_mem.2 fun z hz => ?_
        obtain ⟨q, w, hq, hw, hc, _⟩ := mem_tos.1 hz
        obtain ⟨fs, g0, f, t, b', fs', _, F, gt, hz2⟩ := A
        obtain ⟨rfl, rfl, rfl, g1, g2⟩ := F
        have hGl : 1 + 2 + 1 = G.length := hz2.2
        have hql := (List.getElem?_eq_some_iff.1 hw).1
        have hlo := UInt8.le_trans hc.1 hc.2
        have : q = 0 ∨ q = 1 ∨ q = 2 ∨ q = 3 := by omega
        rcases this with rfl | rfl | rfl | rfl
        · exact free_lo (some_eq g0 hw) hlo
        · exact free_lo (some_eq g1 hw) hlo
        · exact end_lo (some_eq gt hw) hlo
        · have := some_eq (g2 0 ⟨a, a⟩ rfl) hw
          subst this
          exact hab (UInt8.le_antisymm hc.2 hc.1)
      unfold goes
      rw [this, clo_nil]
    rcases hgb with ⟨_, rfl⟩ | ⟨hgb, _⟩
    · exact ⟨by rw [H.rws.len]; omega, x, y, hx, hy, hv, hu, by rw [hyf, fa], hxl, hyl⟩
    · exact absurd hnb hgb

theorem begun5_uf {h : Heap} : UF T F 33 [] h fun v h' => Ext h h' ∧ v = .bool true := by
  refine UF.gen fun Q hQ => UF.of (F_33) (c := _) rfl ?_
  unfold Try.f33
  simp only [List.length, Nat.reduceSub, Nat.reduceAdd, List.replicate, List.cons_append, List.nil_append]
  simp (disch := omega) only [go_sem, seval]
  obtain ⟨H, l0, e0, L0⟩ := lit_byte (h := h) 97
  have hf : ∀ e ∈ [Rx.cls [⟨97, 97⟩]], Fit e := fun e he => by
    simp only [List.mem_singleton] at he; subst he; exact fit_byte 97 97 ⟨by decide, by decide, by decide⟩
  refine callV_ofU F_29 rfl ((UF.less l0 (NfaOf_uf L0 hf (by simp))).mono ?_)
  rintro v1 h1 ⟨e1, G, L1, A⟩
  simp (disch := omega) only [go_sem, seval]
  refine callV_ofU F_34 rfl ((DfaOf_es L1 A (by simp)).mono ?_)
  rintro v2 h2 ⟨e2, m2⟩
  simp (disch := omega) only [go_sem, seval]
  rcases m2 with ⟨S, R, L2, W⟩ | ⟨_, hc⟩
  · skip
    refine callV_ofU F_36 rfl ((dBest_uf (s := [97, 98]) L2 W (by simp)).mono ?_)
    rintro v3 h3 ⟨e3, k, n, ok, rfl, b2⟩
    simp (disch := omega) only [go_sem, seval]
    refine callV_ofU F_36 rfl ((dLongest_uf (R := []) (l := .slc none 0 (some 0) 0) (s := [98]) Lst.nil (by simp) (by simp) (by simp)).mono ?_)
    rintro v4 h4 ⟨e4, rfl⟩
    simp (disch := omega) only [go_sem, seval]
    have r2 : k = 0 ∧ n = 1 ∧ ok = true := b2.unique (.inr ⟨rfl, by decide, by decide, HasR.cls.2 ⟨rfl, rfl⟩, fun m hm => by omega, fun j j1 j2 m hm => by
      have := congrArg List.length (HasR.cls.1 hm).2
      simp only [List.length_take, List.length_cons, List.length_nil] at this j2; omega⟩)
    obtain ⟨rfl, rfl, rfl⟩ := r2
    have hd : dRun [] [98] 0 0 (0, 0, false) = (0, 0, false) := rfl
    rw [hd]
    obtain ⟨hl2, x, y, hx, hy, hxa, hxb, hyf, hxl, hyl⟩ := byte_rows (b := 98) W (by decide)
    obtain ⟨ra, rn, rc, rz, rfl, hrn⟩ := L2.form
    have hrn2 : rn = 2 := by omega
    subst hrn2
    have L4 := (L2.ext e3).ext e4
    obtain ⟨b1, o1, cs1, l1, rfl, rfl, hb1, hg1, ⟨rfl, hx1⟩, hr1, ht1, hc1⟩ := L4.at_ (i := 0) (x := x) hx (k := 257) rfl
    obtain ⟨b3, o3, cs3, l3, e5, _, hb3, hg3, ⟨rfl, hx3⟩, hr3, ht3, hc3⟩ := L4.at_ (i := 1) (x := y) hy (k := 257) rfl
    simp only [Option.some.injEq, Prod.mk.injEq] at e5
    obtain ⟨rfl, rfl⟩ := e5
    rw [hg1] at hg3
    simp only [Option.some.injEq, Blk.cells.injEq, and_true] at hg3
    subst hg3
    have ca : cs1[o1 + 97]? = some (.int .i64 1) := by
      have h1 := hc1 97 (by omega)
      rw [show x.cells = rcs x.next x.fin from rfl, rcs_get (by omega), show (97 : Nat) = (97 : UInt8).toNat from rfl, hxa] at h1
      simpa using h1
    have cb : cs1[o1 + 98]? = some (.int .i64 (-1)) := by
      have h1 := hc1 98 (by omega)
      rw [show x.cells = rcs x.next x.fin from rfl, rcs_get (by omega), show (98 : Nat) = (98 : UInt8).toNat from rfl, hxb] at h1
      simpa using h1
    have cc : cs1[o1 + 257 + 256]? = some (.int .i64 1) := by
      have h1 := hc3 256 (by omega)
      rw [show y.cells = rcs y.next y.fin from rfl, rcs_fin hyl, hyf] at h1
      simpa using h1
    simp (disch := omega) only [go_sem, seval, hg1, ca, cb, cc]
    exact hQ _ _ ⟨(((e0.trans e1).trans e2).trans e3).trans e4, rfl⟩
  · simp [ncls] at hc

end Go.Proofs.Ytenpjkinpecnfaa
