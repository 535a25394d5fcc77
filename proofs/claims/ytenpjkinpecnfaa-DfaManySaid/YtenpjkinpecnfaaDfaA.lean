/-
  Layer dfa: sets of states.
-/
import Derived.Test.YtenpjkinpecnfaaNfaV
import Derived.KernelRfl
namespace Go.Proofs.Ytenpjkinpecnfaa
open Go Go.Am
set_option maxRecDepth 100000
set_option maxHeartbeats 4000000
set_option linter.unusedSimpArgs false
set_option linter.unusedVariables false

theorem clone79_uf {h : Heap} {v : AV} {xs : List Int} (s : LSlc h v xs) (hl : xs.length ≤ 1000000) : UF T F 79 [v] h fun v' h' => Ext h h' ∧ (LStk h.nxt h' v' xs ∨ (xs = [] ∧ ∃ a c z, v' = .slc a 0 c z)) := by
  obtain ⟨a, c, z, rfl⟩ := s.form
  generalize hn : xs.length = n at s ⊢
  refine UF.gen fun Q hQ => UF.of (F_79) (c := _) rfl ?_
  unfold Try.f79
  simp only [List.length, Nat.reduceSub, Nat.reduceAdd, List.replicate, List.cons_append, List.nil_append]
  simp (disch := first | ((try simp only [heapN]) <;> omega) | fail) only [go_sem, seval]
  cases a with
  | none =>
    have hxs : xs = [] := by
      obtain ⟨ls, s1, s2⟩ := s
      rcases s1 with ⟨rfl, _⟩ | ⟨_, _, _, _, _, e, _⟩
      · have := s2.length; simp at this; exact List.eq_nil_of_length_eq_zero this.symm
      · simp at e
    subst hxs
    simp (disch := first | ((try simp only [heapN]) <;> omega) | fail) only [go_sem, seval, Option.isNone_none]
    exact hQ _ _ ⟨Ext.refl h, .inr ⟨rfl, _, _, _, rfl⟩⟩
  | some a =>
    simp (disch := first | ((try simp only [heapN]) <;> omega) | fail) only [go_sem, seval, Option.isNone_some]
    have e1 : Ext h (h.add (.cells [] true)) := Ext.add _ _
    refine lappend (m := h.nxt) (xs := ([] : List Int)) (ys := xs) T_49 rfl T_3 rfl (by decide) (by decide) ⟨[], .inl ⟨rfl, _, _, rfl, fun _ => rfl⟩, .nil⟩ ?_ (by simp) (by simp [roomA]; omega) ?_
    · obtain ⟨ls, s1, s2⟩ := s; exact ⟨ls, s1.ext e1, s2.pst e1.pst⟩
    intro v2 h2 n2 g2 o2 c2 p2
    have e2 : Ext h h2 := ⟨by simp at n2; omega, fun b hb => (g2 b (by simp; omega) (by simp [AV.blk])).trans (e1.get b hb)⟩
    simp (disch := first | ((try simp only [heapN]) <;> omega) | fail) only [go_sem, seval]
    rcases c2 with ⟨rfl, rfl, rfl⟩ | ⟨⟨ls, L2, r2⟩, b2⟩
    · exact hQ _ _ ⟨e2, .inr ⟨rfl, _, _, _, rfl⟩⟩
    · rcases L2 with ⟨rfl, a', z', rfl, _⟩ | L2
      · have : xs = [] := by have := r2.length; simp at this; exact List.eq_nil_of_length_eq_zero this.symm
        exact hQ _ _ ⟨e2, .inr ⟨this, _, _, _, rfl⟩⟩
      · exact hQ _ _ ⟨e2, .inl ⟨ls, .inl L2, r2⟩⟩

/-- All that is come to with nothing, from some. -/
noncomputable def clo (G : List St) (A : List Int) : List Nat := (List.range G.length).filter fun i => @decide (∃ a ∈ A, Eps G a i) (Classical.propDecidable _)
theorem mem_clo {G : List St} {A : List Int} {i : Nat} : i ∈ clo G A ↔ ∃ a ∈ A, Eps G a i := by
  unfold clo
  rw [List.mem_filter, List.mem_range]
  constructor
  · rintro ⟨_, h⟩; simpa using h
  · rintro ⟨a, h1, h2⟩; exact ⟨h2.1, by simpa using ⟨a, h1, h2⟩⟩
theorem clo_congr {G : List St} {A B : List Int} (h : ∀ i, (∃ a ∈ A, Eps G a i) ↔ ∃ a ∈ B, Eps G a i) : clo G A = clo G B := by
  unfold clo
  refine List.filter_congr fun i _ => ?_
  simp only [decide_eq_decide]
  exact h i
theorem clo_nodup {G : List St} {A : List Int} : (clo G A).Nodup := List.nodup_range.filter _
theorem clo_le {G : List St} {A : List Int} : (clo G A).length ≤ G.length := by
  have := List.length_filter_le (fun i => @decide (∃ a ∈ A, Eps G a i) (Classical.propDecidable _)) (List.range G.length)
  unfold clo; simpa using this

theorem whole_uf {h : Heap} {k : Nat} {G : List St} {l sv mv v : AV} {A : List Int} (hk : h.get k = some (.cells [l, sv, mv] true)) (hkn : k < h.nxt) (sl : Lst h l G) (sa : LSlc h v A) (hA : A.length ≤ 100000) (hw : wt G ≤ 800000) :
    UF T F 60 [.ptr (some (k, 0)), v] h fun v' h' => Ext h h' ∧ Lst h' v' (clo G A) := by
  obtain ⟨la, ln, lc, lz, rfl, hln⟩ := sl.form
  have hgl := wt_len G
  refine UF.genq fun Q hQ => UF.of (F_60) (c := _) rfl ?_
  unfold Try.f60
  simp only [List.length, Nat.reduceSub, Nat.reduceAdd, List.replicate, List.cons_append, List.nil_append]
  simp (disch := first | ((try simp only [heapN]) <;> omega) | fail) only [go_sem, seval]
  simp (disch := first | ((try simp only [heapN]) <;> omega) | fail) only [go_sem, seval, hk]
  refine mk_bits T_118 (by omega) ?_
  have e1 : Ext h (h.add (.cells ((List.replicate ln false).map AV.bool) true)) := Ext.add _ _
  have sa1 : LSlc (h.add (.cells ((List.replicate ln false).map AV.bool) true)) v A := by
    obtain ⟨ls, a, b⟩ := sa; exact ⟨ls, a.ext e1, b.pst e1.pst⟩
  have g1 : (h.add (.cells ((List.replicate ln false).map AV.bool) true)).get h.nxt = some (.cells ((List.replicate ln false).map AV.bool) true) := get_add_self
  have n1 : h.nxt < (h.add (.cells ((List.replicate ln false).map AV.bool) true)).nxt := by simp
  generalize (h.add (.cells ((List.replicate ln false).map AV.bool) true)) = h1 at *
  simp (disch := first | ((try simp only [heapN]) <;> omega) | fail) only [go_sem, seval]
  refine callV_ofU F_79 rfl ((clone79_uf sa1 (by omega)).mono ?_)
  rintro v2 h2 ⟨e2, c2⟩
  simp (disch := first | ((try simp only [heapN]) <;> omega) | fail) only [go_sem, seval]
  have e12 := e1.trans e2
  have g2 : h2.get h.nxt = _ := (e2.get _ n1).trans g1
  have hle := left_le G (List.replicate ln false)
  have hnx : h.nxt ≤ h1.nxt := e1.nxt
  refine LoopU_while (fun m st hh => ∃ (v : AV) (todo : List Int) (bs' : List Bool), m = left G bs' + todo.length ∧ bs'.length = ln ∧ (LStk h1.nxt hh v todo ∨ (todo = [] ∧ ∃ a c z, v = .slc a 0 c z)) ∧ hh.get h.nxt = some (.cells (bs'.map AV.bool) true) ∧ h2.nxt ≤ hh.nxt ∧ Ext h hh ∧ left G bs' + todo.length ≤ 950000 ∧
      Shut G bs' todo ∧ (∀ i, has bs' i → ∃ a ∈ A, Eps G a i) ∧ (∀ j ∈ todo, ∀ i : Nat, i < G.length → j = (i : Int) → ∃ a ∈ A, Eps G a i) ∧ (∀ i : Nat, i < G.length → (i : Int) ∈ A → has bs' i ∨ (i : Int) ∈ todo) ∧
      Keep st 77 [(0, .ptr (some (k, 0))), (4, .slc none 0 (some 0) 0), (5, .slc (some (h.nxt, 0)) ln (some ln) 1), (6, v)]) (left G (List.replicate ln false) + A.length)
    ⟨_, A, List.replicate ln false, rfl, by simp, c2, g2, Nat.le_refl _, e12, by omega,
      fun i x j h1 => absurd h1 has_new, fun i h1 => absurd h1 has_new, fun j hj i hi e => ⟨j, hj, hi, i, 0, e, .nil⟩, fun i _ hi => .inr hi, rfl, by simp [Has]⟩ ?_
  rintro m st hh ⟨v, todo, bs', rfl, hbl, S0, g, hn2, eh, hb, hsh, hin, hrch, hst, hkp⟩
  obtain ⟨va, vn, vc, vz, rfl, hvn⟩ : ∃ a n c z, v = .slc a n c z ∧ n = todo.length := by
    rcases S0 with S | ⟨rfl, a, c, z, rfl⟩
    · exact S.form
    · exact ⟨a, 0, c, z, rfl, rfl⟩
  rw [hkp.eq]
  obtain ⟨k0, k4, k5, k6, -⟩ := hkp.2
  simp only [slotsFrom, Nat.reduceAdd] at k0 k4 k5 k6 ⊢
  simp only [k0, k4, k5, k6]
  have slj := sl.ext eh
  have gk : hh.get k = _ := (eh.get _ hkn).trans hk
  simp (disch := first | ((try simp only [heapN]) <;> omega) | fail) only [go_sem, seval]
  by_cases hgt : (vn : Int) > 0
  · have S : LStk h1.nxt hh (.slc va vn vc vz) todo := by
      rcases S0 with S | ⟨rfl, _⟩
      · exact S
      · simp at hvn; omega
    obtain ⟨d, rfl⟩ : ∃ d, vn = d + 1 := ⟨vn - 1, by omega⟩
    have hd1 : ((d + 1 : Nat) : Int) - 1 = (d : Nat) := by omega
    have hd2 : (d : Int) < (d + 1 : Nat) := by omega
    have hdl : d < todo.length := by omega
    obtain ⟨rb, ro, rcs, rw_, rl, rfl, rfl, hrb, hrg, rfl, hrr, hrt, hrc⟩ := S.slc.at_ (i := d) (x := todo[d]) (List.getElem?_eq_getElem hdl) (k := 1) rfl
    have hrc0 := hrc 0 (by decide)
    simp only [Nat.add_zero, List.getElem?_cons_zero] at hrc0
    simp (disch := first | ((try simp only [heapN]) <;> omega) | fail) only [go_sem, seval, hgt, hd1, hd2, hrg, Int.toNat_natCast, hrc0]
    refine stk_hi (i := d) T_49 rfl T_3 rfl S (by omega) (by omega) ?_
    intro v2 S2 b2
    obtain ⟨va, vn, vc, vz, rfl, hvn2⟩ := S2.form
    simp (disch := first | ((try simp only [heapN]) <;> omega) | fail) only [go_sem, seval]
    have htd : todo = todo.take d ++ [todo[d]] := by
      have := List.take_append_drop d todo
      rw [List.drop_eq_getElem_cons hdl, List.drop_of_length_le (by omega)] at this
      exact this.symm
    have hmem : ∀ j, j ∈ todo ↔ j ∈ todo.take d ∨ j = todo[d] := fun j => (iff_of_eq (congrArg (fun l => j ∈ l) htd)).trans (List.mem_append.trans (or_congr Iff.rfl List.mem_singleton))
    have hl2 : (todo.take d).length = d := by simp; omega
    rw [hl2] at hvn2
    generalize hq : todo.take d = td at *
    generalize todo[d] = t at *
    have skip : ¬ (t ≥ 0 ∧ t < (ln : Int) ∧ bs'[t.toNat]? = some false) → ∀ j : Nat, j < G.length → (j : Int) = t → has bs' j := by
      rintro h1 j hj rfl
      simp only [Int.toNat_natCast] at h1
      have hj2 : j < bs'.length := by omega
      cases hv : bs'[j] with
      | true => exact List.getElem?_eq_some_iff.2 ⟨hj2, hv⟩
      | false => exact absurd ⟨by omega, by omega, List.getElem?_eq_some_iff.2 ⟨hj2, hv⟩⟩ h1
    have again : ∀ (s2 : List AV), ¬ (t ≥ 0 ∧ t < (ln : Int) ∧ bs'[t.toNat]? = some false) → Keep s2 77 [(0, .ptr (some (k, 0))), (4, .slc none 0 (some 0) 0), (5, .slc (some (h.nxt, 0)) ln (some ln) 1), (6, .slc va vn vc vz)] →
        @AgainK ⟨s2, [], hh⟩ ⟨left G bs' + todo.length, fun m st hh => ∃ (v : AV) (todo : List Int) (bs' : List Bool), m = left G bs' + todo.length ∧ bs'.length = ln ∧ (LStk h1.nxt hh v todo ∨ (todo = [] ∧ ∃ a c z, v = .slc a 0 c z)) ∧ hh.get h.nxt = some (.cells (bs'.map AV.bool) true) ∧ h2.nxt ≤ hh.nxt ∧ Ext h hh ∧ left G bs' + todo.length ≤ 950000 ∧
      Shut G bs' todo ∧ (∀ i, has bs' i → ∃ a ∈ A, Eps G a i) ∧ (∀ j ∈ todo, ∀ i : Nat, i < G.length → j = (i : Int) → ∃ a ∈ A, Eps G a i) ∧ (∀ i : Nat, i < G.length → (i : Int) ∈ A → has bs' i ∨ (i : Int) ∈ todo) ∧
      Keep st 77 [(0, .ptr (some (k, 0))), (4, .slc none 0 (some 0) 0), (5, .slc (some (h.nxt, 0)) ln (some ln) 1), (6, v)]⟩ := by
      rintro s2 hn hk2
      refine AgainK.mk (left G bs' + td.length) (by simp only; omega) ⟨_, td, bs', rfl, hbl, .inl S2, g, hn2, eh, by omega, fun i x j h1 h2 h3 h4 => ?_, hin, fun j hj => hrch j ((hmem j).2 (.inl hj)), fun i hi e => ?_, hk2⟩
      · rcases hsh i x j h1 h2 h3 h4 with h5 | h5
        · exact .inl h5
        · rcases (hmem _).1 h5 with h6 | h6
          · exact .inr h6
          · exact .inl (skip hn j h4 h6)
      · rcases hst i hi e with h5 | h5
        · exact .inl h5
        · rcases (hmem _).1 h5 with h6 | h6
          · exact .inr h6
          · exact .inl (skip hn i hi (by omega))
    by_cases c1 : t ≥ 0
    · by_cases c2 : t < (ln : Int)
      · obtain ⟨i0, rfl⟩ : ∃ i0 : Nat, t = i0 := ⟨t.toNat, by omega⟩
        have hi0 : i0 < G.length := by omega
        have hi1 : i0 < bs'.length := by omega
        have hgi : (bs'.map AV.bool)[i0 * 1]? = some (.bool bs'[i0]) := by rw [Nat.mul_one, List.getElem?_map, List.getElem?_eq_getElem hi1]; rfl
        simp (disch := first | ((try simp only [heapN]) <;> omega) | fail) only [go_sem, seval, c1, gk, c2, g, Int.toNat_natCast, hgi]
        cases hbv : bs'[i0] with
        | true =>
          simp (disch := first | ((try simp only [heapN]) <;> omega) | fail) only [go_sem, seval, hbv]
          exact again _ (fun h1 => by rw [Int.toNat_natCast, List.getElem?_eq_getElem hi1, hbv] at h1; simp at h1) ⟨rfl, by simp [Has]⟩
        | false =>
          have hroom : i0 * 1 + 1 ≤ (bs'.map AV.bool).length := by simp; omega
          obtain ⟨gb, go, gcs, gl, rfl, rfl, hgb, hgg, ⟨fv, rfl, sf⟩, hgr, hgt', hgc⟩ := slj.at_ (i := i0) (x := G[i0]) (List.getElem?_eq_getElem hi0) (k := 5) rfl
          have hgc3 : gcs[go + i0 * 5 + 3]? = some fv := hgc 3 (by decide)
          obtain ⟨fa, fn, fc, fz, rfl, hfn⟩ := sf.form
          have hne : h.nxt ≠ gb := fun e => by rw [← e, g] at hgg; simp at hgg
          have hnk : h.nxt ≠ k := by omega
          have u3 : Upd (· = h.nxt) hh (hh.put h.nxt (.cells ((bs'.map AV.bool).set (i0 * 1) (.bool true)) true)) := Upd.put _ rfl fun c e => by rw [g] at e; simp at e
          have hgg2 := (get_put_ne (h := hh) (x := .cells ((bs'.map AV.bool).set (i0 * 1) (.bool true)) true) hne).trans hgg
          have hgk2 := (get_put_ne (h := hh) (x := .cells ((bs'.map AV.bool).set (i0 * 1) (.bool true)) true) hnk).trans gk
          have hset : (bs'.map AV.bool).set (i0 * 1) (.bool true) = (bs'.set i0 true).map AV.bool := by rw [Nat.mul_one, List.map_set]
          have hG : G[i0]? = some G[i0] := List.getElem?_eq_getElem hi0
          have hfm := wt_mem (List.getElem_mem hi0)
          have hls := left_set hG (bs := bs') (List.getElem?_eq_some_iff.2 ⟨hi1, hbv⟩)
          simp (disch := first | ((try simp only [heapN]) <;> omega) | fail) only [go_sem, seval, hbv, g, Int.toNat_natCast, hroom, c2, hgg2, hgk2, hgc3]
          have e3 : Ext h (hh.put h.nxt (.cells ((bs'.map AV.bool).set (i0 * 1) (.bool true)) true)) := eh.put (Nat.le_refl _)
          refine sappend (m := h1.nxt) (xs := td) (ys := G[i0].free.map fun (x : Nat) => (x : Int)) T_49 rfl T_3 rfl (by decide) (by decide) (S2.upd u3 fun b h5 e e2 => by omega) (lst_int (sf.pst u3.pst)) (by have := e2.nxt; simp; omega) (by simp [roomA]; omega) ?_
          intro v3 h3 S3 u4 b3
          obtain ⟨wa, wn, wc, wz, rfl, hwn⟩ := S3.form
          have nb : ∀ b, (AV.slc va vn vc vz).base = some b → h1.nxt ≤ b := fun b e => (S2.base_ e).1
          have g3 : h3.get h.nxt = some (.cells ((bs'.set i0 true).map AV.bool) true) := by
            rw [u4.get h.nxt (by have := e2.nxt; simp; omega) (fun e => by have := nb _ e; omega), get_put_self, hset]
          have hit : ∃ a ∈ A, Eps G a i0 := hrch i0 ((hmem _).2 (.inr rfl)) i0 hi0 rfl
          have hlen2 : (td ++ G[i0].free.map fun (x : Nat) => (x : Int)).length = d + G[i0].free.length := by simp [hl2]
          have n3 := u4.nxt
          simp only [Heap.put_nxt] at n3
          simp (disch := first | ((try simp only [heapN]) <;> omega) | fail) only [go_sem, seval]
          refine AgainK.mk (left G (bs'.set i0 true) + (td ++ G[i0].free.map fun (x : Nat) => (x : Int)).length) (by simp only; rw [hlen2]; omega) ⟨_, _, bs'.set i0 true, rfl, by simp [hbl], .inl S3, g3, by omega, ((e3.upd (h.nxt ≤ ·)).trans' u4 fun b e hb => by have := nb b e; omega).ext fun b hb => by omega, by rw [hlen2]; omega,
            fun i x j h1 h2 h3 h4 => ?_, fun i h1 => ?_, fun j hj i hi e => ?_, fun i hi e => ?_, rfl, by simp [Has]⟩
          · rcases (has_set hi1).1 h1 with h5 | rfl
            · rcases hsh i x j h5 h2 h3 h4 with h6 | h6
              · exact .inl ((has_set hi1).2 (.inl h6))
              · rcases (hmem _).1 h6 with h7 | h7
                · exact .inr (by simp [h7])
                · exact .inl ((has_set hi1).2 (.inr (by omega)))
            · rw [hG] at h2
              simp only [Option.some.injEq] at h2
              subst h2
              exact .inr (List.mem_append_right _ (List.mem_map.2 ⟨j, h3, rfl⟩))
          · rcases (has_set hi1).1 h1 with h5 | rfl
            · exact hin i h5
            · exact hit
          · rcases List.mem_append.1 hj with h5 | h5
            · exact hrch j ((hmem _).2 (.inl h5)) i hi e
            · obtain ⟨y, hy, rfl⟩ := List.mem_map.1 h5
              have : y = i := by omega
              subst this
              obtain ⟨a, ha, _, k, n, e2, W⟩ := hit
              exact ⟨a, ha, hi, k, _, e2, way_last W hG hy⟩
          · rcases hst i hi e with h5 | h5
            · exact .inl ((has_set hi1).2 (.inl h5))
            · rcases (hmem _).1 h5 with h6 | h6
              · exact .inr (by simp [h6])
              · exact .inl ((has_set hi1).2 (.inr (by omega)))
      · simp (disch := first | ((try simp only [heapN]) <;> omega) | fail) only [go_sem, seval, c1, gk, c2]
        exact again _ (fun h1 => c2 h1.2.1) ⟨rfl, by simp [Has]⟩
    · simp (disch := first | ((try simp only [heapN]) <;> omega) | fail) only [go_sem, seval, c1]
      exact again _ (fun h1 => c1 h1.1) ⟨rfl, by simp [Has]⟩
  · simp (disch := first | ((try simp only [heapN]) <;> omega) | fail) only [go_sem, seval, hgt]
    have ht0 : todo = [] := List.eq_nil_of_length_eq_zero (by omega)
    subst ht0
    have hall : ∀ i, has bs' i ↔ ∃ a ∈ A, Eps G a i := by
      refine fun i => ⟨hin i, ?_⟩
      rintro ⟨a, ha, hi, k, n, rfl, W⟩
      have hkl : k < G.length := by
        generalize hww : ([] : List UInt8) = ww at W
        cases W with
        | nil => exact hi
        | eps hx' _ _ => exact (List.getElem?_eq_some_iff.1 hx').1
        | chr hx' _ _ _ _ => exact (List.getElem?_eq_some_iff.1 hx').1
      rcases hst k hkl ha with h2 | h2
      · exact shut_way hsh W h2 hi
      · simp at h2
    have hclo : (List.range ln).filter (fun j => bs'[j]?.getD false) = clo G A := by
      unfold clo
      rw [hln]
      refine List.filter_congr fun i hi => ?_
      rw [List.mem_range] at hi
      have h1 := hall i
      have h2 : bs'[i]?.getD false = true ↔ has bs' i := by
        unfold has
        cases hx : bs'[i]? with
        | none => simp
        | some y => cases y <;> simp
      rw [Bool.eq_iff_iff]
      exact (h2.trans h1).trans (@decide_eq_true_iff _ (Classical.propDecidable _)).symm
    refine LoopU_while (fun m st h3 => ∃ (i : Nat) (w : AV), i ≤ ln ∧ m = ln - i ∧ Ext hh h3 ∧ LGrow hh.nxt h3 w ((List.range i).filter (fun j => bs'[j]?.getD false)) ∧
        Keep st 77 [(4, w), (63, .slc (some (h.nxt, 0)) ln (some ln) 1), (64, .int .i64 (ln : Nat)), (65, .int .i64 (i : Nat))]) ln
      ⟨0, _, by omega, by omega, Ext.refl _, LGrow.nil, rfl, by simp [Has]⟩ ?_
    rintro m st h3 ⟨i, w, hi, rfl, e3, L, hkq⟩
    obtain ⟨wa, wn, wc, wz, rfl, hwn⟩ := L.form
    rw [hkq.eq]
    obtain ⟨k4, k63, k64, k65, -⟩ := hkq.2
    simp only [slotsFrom, Nat.reduceAdd] at k4 k63 k64 k65 ⊢
    simp only [k4, k63, k64, k65]
    have g3 : h3.get h.nxt = _ := (e3.get _ (by have := e12.nxt; have := e2.nxt; omega)).trans g
    simp (disch := first | ((try simp only [heapN]) <;> omega) | fail) only [go_sem, seval]
    by_cases hlt : (i : Int) < (ln : Int)
    · have hib : i < bs'.length := by omega
      have hgi : (bs'.map AV.bool)[i * 1]? = some (.bool bs'[i]) := by rw [Nat.mul_one, List.getElem?_map, List.getElem?_eq_getElem hib]; rfl
      have hgd : bs'[i]?.getD false = bs'[i] := by rw [List.getElem?_eq_getElem hib]; rfl
      have hfl : ((List.range i).filter (fun j => bs'[j]?.getD false)).length ≤ i := by
        have := List.length_filter_le (fun j => bs'[j]?.getD false) (List.range i)
        simpa using this
      simp (disch := first | ((try simp only [heapN]) <;> omega) | fail) only [go_sem, seval, hlt, g3, Int.toNat_natCast, hgi]
      cases hv : bs'[i] with
      | true =>
        simp (disch := first | ((try simp only [heapN]) <;> omega) | fail) only [go_sem, seval]
        refine gappend (m := hh.nxt) (xs := (List.range i).filter (fun j => bs'[j]?.getD false)) (ys := [i]) T_130 rfl T_3 rfl (by decide) (by decide) (L.ext (Ext.add _ _)) (LSlc.lit (b := h3.nxt) (ls := [[.int .i64 (i : Nat)]]) (by simp) get_add_self rfl (Reps.one (x := i) rfl) rfl rfl) (by have := e3.nxt; simp; omega) (by simp [roomA]; omega) ?_
        intro v5 h5 L5 u5 b5
        simp (disch := first | ((try simp only [heapN]) <;> omega) | fail) only [go_sem, seval]
        refine AgainK.mk (ln - (i + 1)) (by simp only; omega) ⟨i + 1, v5, by omega, rfl, (((e3.trans (Ext.add _ _)).upd (hh.nxt ≤ ·)).trans' u5 fun b h1 h2 => L.blk h1).ext fun b hb => by omega, ?_, rfl, by simp [Has]⟩
        rw [List.range_succ, List.filter_append]
        simpa only [List.filter_cons, List.filter_nil, hgd, hv, if_true] using L5
      | false =>
        simp (disch := first | ((try simp only [heapN]) <;> omega) | fail) only [go_sem, seval]
        refine AgainK.mk (ln - (i + 1)) (by simp only; omega) ⟨i + 1, .slc wa wn wc wz, by omega, rfl, e3, ?_, rfl, by simp [Has]⟩
        rw [List.range_succ, List.filter_append]
        simpa only [List.filter_cons, List.filter_nil, hgd, hv, if_false, Bool.false_eq_true, List.append_nil] using L
    · simp (disch := first | ((try simp only [heapN]) <;> omega) | fail) only [go_sem, seval, hlt]
      have : i = ln := by omega
      subst this
      rw [hclo] at L
      obtain ⟨h9, l9, n9, L9, u9⟩ := L.frz
      refine hQ _ _ h9 l9 ⟨((eh.trans e3).upd (h.nxt ≤ ·) |>.trans (u9.weak fun b _ e => ?_)).ext fun b hb => by omega, L9⟩
      have := e12.nxt; have := e.1; omega

end Go.Proofs.Ytenpjkinpecnfaa
