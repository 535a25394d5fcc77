import Derived.Test.YtenpjkinpecnfaaNfaV
import Derived.KernelRfl
/-
  Layer dfa: sets of states.
-/
namespace Go.Proofs.Ytenpjkinpecnfaa
open Go Go.Am
set_option maxRecDepth 100000
set_option maxHeartbeats 4000000
set_option linter.unusedSimpArgs false
set_option linter.unusedVariables false

theorem clone79_uf {h : Heap} {v : AV} {xs : List Int} (s : LSlc h v xs) (hl : xs.length ≤ 1000000) : UF T F 79 [v] h fun v' h' => Ext h h' ∧ (LStk h.nxt h' v' xs ∨ (xs = [] ∧ ∃ a c z, v' = .slc a 0 c z)) := by
  obtain ⟨a, c, z, rfl⟩ := s.form
  generalize hn : xs.length = n at s ⊢
  refine UF.gen fun Q hQ => UF.of (F_79) (c := _) rfl ?_
  unfold Try.f79
  simp only [List.length, Nat.reduceSub, Nat.reduceAdd, List.replicate, List.cons_append, List.nil_append]
  simp (disch := omega) only [go_sem, seval]
  cases a with
  | none =>
    have hxs : xs = [] := by
      obtain ⟨ls, s1, s2⟩ := s
      rcases s1 with ⟨rfl, _⟩ | ⟨_, _, _, _, _, e, _⟩
      · have := s2.length; simp at this; exact List.eq_nil_of_length_eq_zero this.symm
      · simp at e
    subst hxs
    simp (disch := omega) only [go_sem, seval, Option.isNone_none]
    exact hQ _ _ ⟨Ext.refl h, .inr ⟨rfl, _, _, _, rfl⟩⟩
  | some a =>
    simp (disch := omega) only [go_sem, seval, Option.isNone_some]
    have e1 : Ext h (h.add (.cells [] true)) := Ext.add _ _
    refine lappend (m := h.nxt) (xs := ([] : List Int)) (ys := xs) T_49 rfl T_3 rfl (by decide) (by decide) ⟨[], .inl ⟨rfl, _, _, rfl, fun _ => rfl⟩, .nil⟩ ?_ (by simp) (by simp [roomA]; omega) ?_
    · obtain ⟨ls, s1, s2⟩ := s; exact ⟨ls, s1.ext e1, s2.pst e1.pst⟩
    intro v2 h2 n2 g2 o2 c2 p2
    have e2 : Ext h h2 := ⟨by simp at n2; omega, fun b hb => (g2 b (by simp; omega) (by simp [AV.blk])).trans (e1.get b hb)⟩
    simp (disch := omega) only [go_sem, seval]
    rcases c2 with ⟨rfl, rfl, rfl⟩ | ⟨⟨ls, L2, r2⟩, b2⟩
    · exact hQ _ _ ⟨e2, .inr ⟨rfl, _, _, _, rfl⟩⟩
    · rcases L2 with ⟨rfl, a', z', rfl, _⟩ | L2
      · have : xs = [] := by have := r2.length; simp at this; exact List.eq_nil_of_length_eq_zero this.symm
        exact hQ _ _ ⟨e2, .inr ⟨this, _, _, _, rfl⟩⟩
      · exact hQ _ _ ⟨e2, .inl ⟨ls, .inl L2, r2⟩⟩

/-- All that is come to with nothing, from some. -/
noncomputable def clo (G : List St) (A : List Int) : List Nat := (List.range G.length).filter fun i => @decide (∃ a ∈ A, Eps G a i) (Classical.propDecidable _)
theorem mem_clo {G : List St} {A : List Int} {i : Nat} : i ∈ clo G A ↔ ∃ a ∈ A, Eps G a i := by
  unfold clo
  rw [List.mem_filter, List.mem_range]
  constructor
  · rintro ⟨_, h⟩; simpa using h
  · rintro ⟨a, h1, h2⟩; exact ⟨h2.1, by simpa using ⟨a, h1, h2⟩⟩
theorem clo_congr {G : List St} {A B : List Int} (h : ∀ i, (∃ a ∈ A, Eps G a i) ↔ ∃ a ∈ B, Eps G a i) : clo G A = clo G B := by
  unfold clo
  refine List.filter_congr fun i _ => ?_
  simp only [decide_eq_decide]
  exact h i
theorem clo_le {G : List St} {A : List Int} : (clo G A).length ≤ G.length := by
  have := List.length_filter_le (fun i => @decide (∃ a ∈ A, Eps G a i) (Classical.propDecidable _)) (List.range G.length)
  unfold clo; simpa using this

theorem whole_uf {h : Heap} {k : Nat} {G : List St} {l sv mv v : AV} {A : List Int} (hk : h.get k = some (.cells [l, sv, mv] true)) (hkn : k < h.nxt) (sl : Lst h l G) (sa : LSlc h v A) (hA : A.length ≤ 100000) (hw : wt G ≤ 800000) :
    UF T F 60 [.ptr (some (k, 0)), v] h fun v' h' => Ext h h' ∧ Lst h' v' (clo G A) := by
  obtain ⟨la, ln, lc, lz, rfl, hln⟩ := sl.form
  have hgl := wt_len G
  refine UF.genq fun Q hQ => UF.of (F_60) (c := _) rfl ?_
  unfold Try.f60
  simp only [List.length, Nat.reduceSub, Nat.reduceAdd, List.replicate, List.cons_append, List.nil_append]
  simp (disch := omega) only [go_sem, seval]
  simp (disch := omega) only [go_sem, seval, hk]
  refine mk_bits T_118 (by omega) ?_
  have e1 : Ext h (h.add (.cells ((List.replicate ln false).map AV.bool) true)) := Ext.add _ _
  have sa1 : LSlc (h.add (.cells ((List.replicate ln false).map AV.bool) true)) v A := by
    obtain ⟨ls, a, b⟩ := sa; exact ⟨ls, a.ext e1, b.pst e1.pst⟩
  have g1 : (h.add (.cells ((List.replicate ln false).map AV.bool) true)).get h.nxt = some (.cells ((List.replicate ln false).map AV.bool) true) := get_add_self
  have n1 : h.nxt < (h.add (.cells ((List.replicate ln false).map AV.bool) true)).nxt := by simp
  generalize (h.add (.cells ((List.replicate ln false).map AV.bool) true)) = h1 at *
  simp (disch := omega) only [go_sem, seval]
  refine callV_ofU F_79 rfl ((clone79_uf sa1 (by omega)).mono ?_)
  rintro v2 h2 ⟨e2, c2⟩
  simp (disch := omega) only [go_sem, seval]
  have e12 := e1.trans e2
  have g2 : h2.get h.nxt = _ := (e2.get _ n1).trans g1
  have hle := left_le G (List.replicate ln false)
  have hnx : h.nxt ≤ h1.nxt := e1.nxt
  refine LoopU_while (fun m st hh => ∃ (v : AV) (todo : List Int) (bs' : List Bool), m = left G bs' + todo.length ∧ bs'.length = ln ∧ (LStk h1.nxt hh v todo ∨ (todo = [] ∧ ∃ a c z, v = .slc a 0 c z)) ∧ hh.get h.nxt = some (.cells (bs'.map AV.bool) true) ∧ h2.nxt ≤ hh.nxt ∧ Ext h hh ∧ left G bs' + todo.length ≤ 950000 ∧
      Shut G bs' todo ∧ (∀ i, has bs' i → ∃ a ∈ A, Eps G a i) ∧ (∀ j ∈ todo, ∀ i : Nat, i < G.length → j = (i : Int) → ∃ a ∈ A, Eps G a i) ∧ (∀ i : Nat, i < G.length → (i : Int) ∈ A → has bs' i ∨ (i : Int) ∈ todo) ∧
      Keep st 77 [(0, .ptr (some (k, 0))), (4, .slc none 0 (some 0) 0), (5, .slc (some (h.nxt, 0)) ln (some ln) 1), (6, v)]) (left G (List.replicate ln false) + A.length)
    ⟨_, A, List.replicate ln false, rfl, by simp, c2, g2, Nat.le_refl _, e12, by omega,
      fun i x j h1 => absurd h1 has_new, fun i h1 => absurd h1 has_new, fun j hj i hi e => ⟨j, hj, hi, i, 0, e, .nil⟩, fun i _ hi => .inr hi, rfl, by simp [Has]⟩ ?_
  rintro m st hh ⟨v, todo, bs', rfl, hbl, S0, g, hn2, eh, hb, hsh, hin, hrch, hst, hkp⟩
  obtain ⟨va, vn, vc, vz, rfl, hvn⟩ : ∃ a n c z, v = .slc a n c z ∧ n = todo.length := by
    rcases S0 with S | ⟨rfl, a, c, z, rfl⟩
    · exact S.form
    · exact ⟨a, 0, c, z, rfl, rfl⟩
  rw [hkp.eq]
  obtain ⟨k0, k4, k5, k6, -⟩ := hkp.2
  simp only [slotsFrom, Nat.reduceAdd] at k0 k4 k5 k6 ⊢
  simp only [k0, k4, k5, k6]
  have slj := sl.ext eh
  have gk : hh.get k = _ := (eh.get _ hkn).trans hk
  simp (disch := omega) only [go_sem, seval]
  by_cases hgt : (vn : Int) > 0
  · have S : LStk h1.nxt hh (.slc va vn vc vz) todo := by
      rcases S0 with S | ⟨rfl, _⟩
      · exact S
      · simp at hvn; omega
    obtain ⟨d, rfl⟩ : ∃ d, vn = d + 1 := ⟨vn - 1, by omega⟩
    have hd1 : ((d + 1 : Nat) : Int) - 1 = (d : Nat) := by omega
    have hd2 : (d : Int) < (d + 1 : Nat) := by omega
    have hdl : d < todo.length := by omega
    obtain ⟨rb, ro, rcs, rw_, rl, rfl, rfl, hrb, hrg, rfl, hrr, hrt, hrc⟩ := S.slc.at_ (i := d) (x := todo[d]) (List.getElem?_eq_getElem hdl) (k := 1) rfl
    have hrc0 := hrc 0 (by decide)
    simp only [Nat.add_zero, List.getElem?_cons_zero] at hrc0
    simp (disch := omega) only [go_sem, seval, hgt, hd1, hd2, hrg, Int.toNat_natCast, hrc0]
    refine stk_hi (i := d) T_49 rfl T_3 rfl S (by omega) (by omega) ?_
    intro v2 S2 b2
    obtain ⟨va, vn, vc, vz, rfl, hvn2⟩ := S2.form
    simp (disch := omega) only [go_sem, seval]
    have htd : todo = todo.take d ++ [todo[d]] := by
      have := List.take_append_drop d todo
      rw [List.drop_eq_getElem_cons hdl, List.drop_of_length_le (by omega)] at this
      exact this.symm
    have hmem : ∀ j, j ∈ todo ↔ j ∈ todo.take d ∨ j = todo[d] := fun j => (iff_of_eq (congrArg (fun l => j ∈ l) htd)).trans (List.mem_append.trans (or_congr Iff.rfl List.mem_singleton))
    have hl2 : (todo.take d).length = d := by simp; omega
    rw [hl2] at hvn2
    generalize hq : todo.take d = td at *
    generalize todo[d] = t at *
    have skip : ¬ (t ≥ 0 ∧ t < (ln : Int) ∧ bs'[t.toNat]? = some false) → ∀ j : Nat, j < G.length → (j : Int) = t → has bs' j := by
      rintro h1 j hj rfl
      simp only [Int.toNat_natCast] at h1
      have hj2 : j < bs'.length := by omega
      cases hv : bs'[j] with
      | true => exact List.getElem?_eq_some_iff.2 ⟨hj2, hv⟩
      | false => exact absurd ⟨by omega, by omega, List.getElem?_eq_some_iff.2 ⟨hj2, hv⟩⟩ h1
    have again : ∀ (s2 : List AV), ¬ (t ≥ 0 ∧ t < (ln : Int) ∧ bs'[t.toNat]? = some false) → Keep s2 77 [(0, .ptr (some (k, 0))), (4, .slc none 0 (some 0) 0), (5, .slc (some (h.nxt, 0)) ln (some ln) 1), (6, .slc va vn vc vz)] →
        @AgainK ⟨s2, [], hh⟩ ⟨left G bs' + todo.length, fun m st hh => ∃ (v : AV) (todo : List Int) (bs' : List Bool), m = left G bs' + todo.length ∧ bs'.length = ln ∧ (LStk h1.nxt hh v todo ∨ (todo = [] ∧ ∃ a c z, v = .slc a 0 c z)) ∧ hh.get h.nxt = some (.cells (bs'.map AV.bool) true) ∧ h2.nxt ≤ hh.nxt ∧ Ext h hh ∧ left G bs' + todo.length ≤ 950000 ∧
      Shut G bs' todo ∧ (∀ i, has bs' i → ∃ a ∈ A, Eps G a i) ∧ (∀ j ∈ todo, ∀ i : Nat, i < G.length → j = (i : Int) → ∃ a ∈ A, Eps G a i) ∧ (∀ i : Nat, i < G.length → (i : Int) ∈ A → has bs' i ∨ (i : Int) ∈ todo) ∧
      Keep st 77 [(0, .ptr (some (k, 0))), (4, .slc none 0 (some 0) 0), (5, .slc (some (h.nxt, 0)) ln (some ln) 1), (6, v)]⟩ := by
      rintro s2 hn hk2
      refine AgainK.mk (left G bs' + td.length) (by simp only; omega) ⟨_, td, bs', rfl, hbl, .inl S2, g, hn2, eh, by omega, fun i x j h1 h2 h3 h4 => ?_, hin, fun j hj => hrch j ((hmem j).2 (.inl hj)), fun i hi e => ?_, hk2⟩
      · rcases hsh i x j h1 h2 h3 h4 with h5 | h5
        · exact .inl h5
        · rcases (hmem _).1 h5 with h6 | h6
          · exact .inr h6
          · exact .inl (skip hn j h4 h6)
      · rcases hst i hi e with h5 | h5
        · exact .inl h5
        · rcases (hmem _).1 h5 with h6 | h6
          · exact .inr h6
          · exact .inl (skip hn i hi (by omega))
    by_cases c1 : t ≥ 0
    · by_cases c2 : t < (ln : Int)
      · obtain ⟨i0, rfl⟩ : ∃ i0 : Nat, t = i0 := ⟨t.toNat, by omega⟩
        have hi0 : i0 < G.length := by omega
        have hi1 : i0 < bs'.length := by omega
        have hgi : (bs'.map AV.bool)[i0 * 1]? = some (.bool bs'[i0]) := by rw [Nat.mul_one, List.getElem?_map, List.getElem?_eq_getElem hi1]; rfl
        simp (disch := omega) only [go_sem, seval, c1, gk, c2, g, Int.toNat_natCast, hgi]
        cases hbv : bs'[i0] with
        | true =>
          simp (disch := omega) only [go_sem, seval, hbv]
          exact again _ (fun h1 => by rw [Int.toNat_natCast, List.getElem?_eq_getElem hi1, hbv] at h1; simp at h1) ⟨rfl, by simp [Has]⟩
        | false =>
          have hroom : i0 * 1 + 1 ≤ (bs'.map AV.bool).length := by simp; omega
          obtain ⟨gb, go, gcs, gl, rfl, rfl, hgb, hgg, ⟨fv, rfl, sf⟩, hgr, hgt', hgc⟩ := slj.at_ (i := i0) (x := G[i0]) (List.getElem?_eq_getElem hi0) (k := 5) rfl
          have hgc3 : gcs[go + i0 * 5 + 3]? = some fv := hgc 3 (by decide)
          obtain ⟨fa, fn, fc, fz, rfl, hfn⟩ := sf.form
          have hne : h.nxt ≠ gb := fun e => by rw [← e, g] at hgg; simp at hgg
          have hnk : h.nxt ≠ k := by omega
          have u3 : Upd (· = h.nxt) hh (hh.put h.nxt (.cells ((bs'.map AV.bool).set (i0 * 1) (.bool true)) true)) := Upd.put _ rfl fun c e => by rw [g] at e; simp at e
          have hgg2 := (get_put_ne (h := hh) (x := .cells ((bs'.map AV.bool).set (i0 * 1) (.bool true)) true) hne).trans hgg
          have hgk2 := (get_put_ne (h := hh) (x := .cells ((bs'.map AV.bool).set (i0 * 1) (.bool true)) true) hnk).trans gk
          have hset : (bs'.map AV.bool).set (i0 * 1) (.bool true) = (bs'.set i0 true).map AV.bool := by rw [Nat.mul_one, List.map_set]
          have hG : G[i0]? = some G[i0] := List.getElem?_eq_getElem hi0
          have hfm := wt_mem (List.getElem_mem hi0)
          have hls := left_set hG (bs := bs') (List.getElem?_eq_some_iff.2 ⟨hi1, hbv⟩)
          simp (disch := omega) only [go_sem, seval, hbv, g, Int.toNat_natCast, hroom, c2, hgg2, hgk2, hgc3]
          have e3 : Ext h (hh.put h.nxt (.cells ((bs'.map AV.bool).set (i0 * 1) (.bool true)) true)) := eh.put (Nat.le_refl _)
          refine sappend (m := h1.nxt) (xs := td) (ys := G[i0].free.map fun (x : Nat) => (x : Int)) T_49 rfl T_3 rfl (by decide) (by decide) (S2.upd u3 fun b h5 e e2 => by omega) (lst_int (sf.pst u3.pst)) (by have := e2.nxt; simp; omega) (by simp [roomA]; omega) ?_
          intro v3 h3 S3 u4 b3
          obtain ⟨wa, wn, wc, wz, rfl, hwn⟩ := S3.form
          have nb : ∀ b, (AV.slc va vn vc vz).base = some b → h1.nxt ≤ b := fun b e => (S2.base_ e).1
          have g3 : h3.get h.nxt = some (.cells ((bs'.set i0 true).map AV.bool) true) := by
            rw [u4.get h.nxt (by have := e2.nxt; simp; omega) (fun e => by have := nb _ e; omega), get_put_self, hset]
          have hit : ∃ a ∈ A, Eps G a i0 := hrch i0 ((hmem _).2 (.inr rfl)) i0 hi0 rfl
          have hlen2 : (td ++ G[i0].free.map fun (x : Nat) => (x : Int)).length = d + G[i0].free.length := by simp [hl2]
          have n3 := u4.nxt
          simp only [Heap.put_nxt] at n3
          simp (disch := omega) only [go_sem, seval]
          refine AgainK.mk (left G (bs'.set i0 true) + (td ++ G[i0].free.map fun (x : Nat) => (x : Int)).length) (by simp only; rw [hlen2]; omega) ⟨_, _, bs'.set i0 true, rfl, by simp [hbl], .inl S3, g3, by omega, ((e3.upd (h.nxt ≤ ·)).trans' u4 fun b e hb => by have := nb b e; omega).ext fun b hb => by omega, by rw [hlen2]; omega,
            fun i x j h1 h2 h3 h4 => ?_, fun i h1 => ?_, fun j hj i hi e => ?_, fun i hi e => ?_, rfl, by simp [Has]⟩
          · rcases (has_set hi1).1 h1 with h5 | rfl
            · rcases hsh i x j h5 h2 h3 h4 with h6 | h6
              · exact .inl ((has_set hi1).2 (.inl h6))
              · rcases (hmem _).1 h6 with h7 | h7
                · exact .inr (by simp [h7])
                · exact .inl ((has_set hi1).2 (.inr (by omega)))
            · rw [hG] at h2
              simp only [Option.some.injEq] at h2
              subst h2
              exact .inr (List.mem_append_right _ (List.mem_map.2 ⟨j, h3, rfl⟩))
          · rcases (has_set hi1).1 h1 with h5 | rfl
            · exact hin i h5
            · exact hit
          · rcases List.mem_append.1 hj with h5 | h5
            · exact hrch j ((hmem _).2 (.inl h5)) i hi e
            · obtain ⟨y, hy, rfl⟩ := List.mem_map.1 h5
              have : y = i := by omega
              subst this
              obtain ⟨a, ha, _, k, n, e2, W⟩ := hit
              exact ⟨a, ha, hi, k, _, e2, way_last W hG hy⟩
          · rcases hst i hi e with h5 | h5
            · exact .inl ((has_set hi1).2 (.inl h5))
            · rcases (hmem _).1 h5 with h6 | h6
              · exact .inr (by simp [h6])
              · exact .inl ((has_set hi1).2 (.inr (by omega)))
      · simp (disch := omega) only [go_sem, seval, c1, gk, c2]
        exact again _ (fun h1 => c2 h1.2.1) ⟨rfl, by simp [Has]⟩
    · simp (disch := omega) only [go_sem, seval, c1]
      exact again _ (fun h1 => c1 h1.1) ⟨rfl, by simp [Has]⟩
  · simp (disch := omega) only [go_sem, seval, hgt]
    have ht0 : todo = [] := List.eq_nil_of_length_eq_zero (by omega)
    subst ht0
    have hall : ∀ i, has bs' i ↔ ∃ a ∈ A, Eps G a i := by
      refine fun i => ⟨hin i, ?_⟩
      rintro ⟨a, ha, hi, k, n, rfl, W⟩
      have hkl : k < G.length := by
        generalize hww : ([] : List UInt8) = ww at W
        cases W with
        | nil => exact hi
        | eps hx' _ _ => exact (List.getElem?_eq_some_iff.1 hx').1
        | chr hx' _ _ _ _ => exact (List.getElem?_eq_some_iff.1 hx').1
      rcases hst k hkl ha with h2 | h2
      · exact shut_way hsh W h2 hi
      · simp at h2
    have hclo : (List.range ln).filter (fun j => bs'[j]?.getD false) = clo G A := by
      unfold clo
      rw [hln]
      refine List.filter_congr fun i hi => ?_
      rw [List.mem_range] at hi
      have h1 := hall i
      have h2 : bs'[i]?.getD false = true ↔ has bs' i := by
        unfold has
        cases hx : bs'[i]? with
        | none => simp
        | some y => cases y <;> simp
      rw [Bool.eq_iff_iff]
      exact (h2.trans h1).trans (@decide_eq_true_iff _ (Classical.propDecidable _)).symm
    refine LoopU_while (fun m st h3 => ∃ (i : Nat) (w : AV), i ≤ ln ∧ m = ln - i ∧ Ext hh h3 ∧ LGrow hh.nxt h3 w ((List.range i).filter (fun j => bs'[j]?.getD false)) ∧
        Keep st 77 [(4, w), (63, .slc (some (h.nxt, 0)) ln (some ln) 1), (64, .int .i64 (ln : Nat)), (65, .int .i64 (i : Nat))]) ln
      ⟨0, _, by omega, by omega, Ext.refl _, LGrow.nil, rfl, by simp [Has]⟩ ?_
    rintro m st h3 ⟨i, w, hi, rfl, e3, L, hkq⟩
    obtain ⟨wa, wn, wc, wz, rfl, hwn⟩ := L.form
    rw [hkq.eq]
    obtain ⟨k4, k63, k64, k65, -⟩ := hkq.2
    simp only [slotsFrom, Nat.reduceAdd] at k4 k63 k64 k65 ⊢
    simp only [k4, k63, k64, k65]
    have g3 : h3.get h.nxt = _ := (e3.get _ (by have := e12.nxt; have := e2.nxt; omega)).trans g
    simp (disch := omega) only [go_sem, seval]
    by_cases hlt : (i : Int) < (ln : Int)
    · have hib : i < bs'.length := by omega
      have hgi : (bs'.map AV.bool)[i * 1]? = some (.bool bs'[i]) := by rw [Nat.mul_one, List.getElem?_map, List.getElem?_eq_getElem hib]; rfl
      have hgd : bs'[i]?.getD false = bs'[i] := by rw [List.getElem?_eq_getElem hib]; rfl
      have hfl : ((List.range i).filter (fun j => bs'[j]?.getD false)).length ≤ i := by
        have := List.length_filter_le (fun j => bs'[j]?.getD false) (List.range i)
        simpa using this
      simp (disch := omega) only [go_sem, seval, hlt, g3, Int.toNat_natCast, hgi]
      cases hv : bs'[i] with
      | true =>
        simp (disch := omega) only [go_sem, seval]
        refine gappend (m := hh.nxt) (xs := (List.range i).filter (fun j => bs'[j]?.getD false)) (ys := [i]) T_130 rfl T_3 rfl (by decide) (by decide) (L.ext (Ext.add _ _)) (LSlc.lit (b := h3.nxt) (ls := [[.int .i64 (i : Nat)]]) (by simp) get_add_self rfl (Reps.one (x := i) rfl) rfl rfl) (by have := e3.nxt; simp; omega) (by simp [roomA]; omega) ?_
        intro v5 h5 L5 u5 b5
        simp (disch := omega) only [go_sem, seval]
        refine AgainK.mk (ln - (i + 1)) (by simp only; omega) ⟨i + 1, v5, by omega, rfl, (((e3.trans (Ext.add _ _)).upd (hh.nxt ≤ ·)).trans' u5 fun b h1 h2 => L.blk h1).ext fun b hb => by omega, ?_, rfl, by simp [Has]⟩
        rw [List.range_succ, List.filter_append]
        simpa only [List.filter_cons, List.filter_nil, hgd, hv, if_true] using L5
      | false =>
        simp (disch := omega) only [go_sem, seval]
        refine AgainK.mk (ln - (i + 1)) (by simp only; omega) ⟨i + 1, .slc wa wn wc wz, by omega, rfl, e3, ?_, rfl, by simp [Has]⟩
        rw [List.range_succ, List.filter_append]
        simpa only [List.filter_cons, List.filter_nil, hgd, hv, if_false, Bool.false_eq_true, List.append_nil] using L
    · simp (disch := omega) only [go_sem, seval, hlt]
      have : i = ln := by omega
      subst this
      rw [hclo] at L
      obtain ⟨h9, l9, n9, L9, u9⟩ := L.frz
      refine hQ _ _ h9 l9 ⟨((eh.trans e3).upd (h.nxt ≤ ·) |>.trans (u9.weak fun b _ e => ?_)).ext fun b hb => by omega, L9⟩
      have := e12.nxt; have := e.1; omega

end Go.Proofs.Ytenpjkinpecnfaa

/-
  Layer dfa: rows of sets, by keys.
-/
namespace Go.Proofs.Ytenpjkinpecnfaa
open Go Go.Am
set_option maxRecDepth 100000
set_option maxHeartbeats 4000000
set_option linter.unusedSimpArgs false
set_option linter.unusedVariables false

section
variable {T : TT} {F : Nat → Option Func} {s : List AV} {h : Heap} {k : AV → Heap → Prop}
@[go_sem ↓] theorem UK_makeMap {t r} : UK T F (.makeMap t r) s h k = @OBk (opA T (evalO s) (.makeMap t r) h) ⟨k⟩ := propext Iff.rfl
@[go_sem ↓] theorem UK_lookup {t x y ok} : UK T F (.lookup t x y ok) s h k = @OBk (opA T (evalO s) (.lookup t x y ok) h) ⟨k⟩ := propext Iff.rfl
@[go_sem ↓] theorem UK_mapUpdate {t m y x} : UK T F (.mapUpdate t m y x) s h k = @OBk (opA T (evalO s) (.mapUpdate t m y x) h) ⟨k⟩ := propext Iff.rfl
end

/-- A set as a key. -/
def key (s : List Nat) : List UInt8 := s.flatMap fun n => [UInt8.ofNat (n / 16777216), UInt8.ofNat (n / 65536), UInt8.ofNat (n / 256), UInt8.ofNat n]
theorem key_cons (n : Nat) (s : List Nat) : key (n :: s) = UInt8.ofNat (n / 16777216) :: UInt8.ofNat (n / 65536) :: UInt8.ofNat (n / 256) :: UInt8.ofNat n :: key s := rfl
theorem key_app (s t : List Nat) : key (s ++ t) = key s ++ key t := by simp [key]
theorem key_len : ∀ s : List Nat, (key s).length = 4 * s.length
  | [] => rfl
  | n :: s => by rw [key_cons]; simp only [List.length_cons, key_len s]; omega
theorem u8_ofNat {a b : Nat} (h : UInt8.ofNat a = UInt8.ofNat b) : a % 256 = b % 256 := by
  have := congrArg UInt8.toNat h
  simpa using this
theorem key_inj : ∀ {s t : List Nat}, (∀ x ∈ s, x < 4294967296) → (∀ x ∈ t, x < 4294967296) → key s = key t → s = t
  | [], [], _, _, _ => rfl
  | [], n :: t, _, _, h => by rw [key_cons] at h; cases h
  | n :: s, [], _, _, h => by rw [key_cons] at h; cases h
  | n :: s, m :: t, h1, h2, h => by
    rw [key_cons, key_cons] at h
    simp only [List.cons.injEq] at h
    obtain ⟨a1, a2, a3, a4, h⟩ := h
    have b1 := u8_ofNat a1
    have b2 := u8_ofNat a2
    have b3 := u8_ofNat a3
    have b4 := u8_ofNat a4
    have c1 := h1 n (by simp)
    have c2 := h2 m (by simp)
    rw [key_inj (fun x hx => h1 x (by simp [hx])) (fun x hx => h2 x (by simp [hx])) h]
    have : n = m := by omega
    rw [this]

theorem shr_at {T : TT} {t : Nat} {n : Nat} {j : Nat} (hj : j ≤ 60) : binOpA T .shr t (.int .i64 (n : Nat)) (.int .u64 (j : Nat)) = some (.int .i64 ((n / 2 ^ j : Nat) : Int)) := by
  have hb : IntKind.i64.bits = 64 := rfl
  simp [binOpA, shiftOp]
  rw [hb, Nat.min_eq_left (by omega), Int.fdiv_eq_ediv_of_nonneg _ (Int.pow_nonneg (by omega))]
theorem wrap_n (m : Nat) : IntKind.u8.wrap (m : Int) = ((UInt8.ofNat m).toNat : Nat) := by
  unfold IntKind.wrap
  simp [IntKind.bits, IntKind.signed]

theorem conv_lst {h : Heap} {v : AV} {l : List UInt8} (s : LSlc h v l) : convA T 22 9 v h = some (.str l, h) := by
  obtain ⟨ls, a, r⟩ := s
  have hls : ∀ {xs : List UInt8} {ls : List (List AV)}, Reps h xs ls → ls.flatten = xs.map fun b => AV.int .u8 b.toNat := by
    intro xs ls hr
    induction hr with
    | nil => rfl
    | cons a _ ih => rw [List.flatten_cons, ih, a]; rfl
  have hl := r.length
  rcases a with ⟨rfl, a', cap, z, rfl, _⟩ | ⟨b, o, cap, cs, wr, rfl, hb, hc⟩
  · have : l = [] := by simp at hl; exact List.eq_nil_of_length_eq_zero hl.symm
    subst this
    cases a' with
    | none => simp [convA, T_22, T_9, T_5]
    | some p => simp [convA, T_22, T_9, T_5]
  · have hw := hb.win
    have hro := hb.room
    have hsz : Rep.sz UInt8 = 1 := rfl
    rw [hsz, Nat.mul_one] at hw hro
    rw [hls r] at hw
    have hlc : Am.loadCells h b o ls.length = some (l.map fun b => AV.int .u8 b.toNat) := by
      unfold Am.loadCells
      rw [hb.get]
      simp only
      rw [if_pos hro, hw]
    by_cases h0 : ls.length = 0
    · have : l = [] := by rw [h0] at hl; exact List.eq_nil_of_length_eq_zero hl.symm
      subst this
      simp [convA, T_22, T_9, T_5, h0]
    · simp only [convA, T_22, T_9, T_5, if_true, if_neg h0, hlc, bytesOf_map]

theorem key_uf {h : Heap} {v : AV} {s : List Nat} (sl : Lst h v s) (hl : s.length ≤ 1000000) (hs : ∀ x ∈ s, x < 4294967296) : UF T F 78 [v] h fun v' h' => Ext h h' ∧ v' = .str (key s) := by
  obtain ⟨a, n, c, z, rfl, hn⟩ := sl.form
  refine UF.gen fun Q hQ => UF.of (F_78) (c := _) rfl ?_
  unfold Try.f78
  simp only [List.length, Nat.reduceSub, Nat.reduceAdd, List.replicate, List.cons_append, List.nil_append]
  simp (disch := omega) only [go_sem, seval]
  have hm4 : (4 * (n : Int)) = ((4 * n : Nat) : Int) := by omega
  rw [hm4]
  have em : makeSliceA T 22 (.int .i64 0) (.int .i64 ((4 * n : Nat) : Int)) h = some (.slc (some (h.nxt, 0)) 0 (some (4 * n)) 1, h.add (.cells (zeroRow [.int .u8 0] (4 * n)) true)) := by
    simp only [makeSliceA, T_22, T_5]
    rw [if_pos (by omega)]
    simp only [Int.toNat_natCast, Int.toNat_zero, Nat.mul_one]
  rw [em]
  have e1 : Ext h (h.add (.cells (zeroRow [.int .u8 0] (4 * n)) true)) := Ext.add _ _
  have S0 : LStk (α := UInt8) h.nxt (h.add (.cells (zeroRow [.int .u8 0] (4 * n)) true)) (.slc (some (h.nxt, 0)) 0 (some (4 * n)) 1) [] := by
    refine ⟨[], .inr ⟨h.nxt, 0, 4 * n, _, rfl, Nat.le_refl _, by simp, by simp [zeroRow, show Rep.sz UInt8 = 1 from rfl], by simp, get_add_self, by simp, by simp, by simp⟩, .nil⟩
  have n1 : h.nxt ≤ (h.add (.cells (zeroRow [.int .u8 0] (4 * n)) true)).nxt := by simp
  generalize (h.add (.cells (zeroRow [.int .u8 0] (4 * n)) true)) = h1 at *
  simp (disch := omega) only [go_sem, seval]
  refine LoopU_while (fun m st hh => ∃ (i : Nat) (w : AV), i ≤ n ∧ m = n - i ∧ Ext h hh ∧ LStk h.nxt hh w (key (s.take i)) ∧
      Keep st 33 [(3, w), (10, .slc a n c z), (11, .int .i64 (n : Nat)), (12, .int .i64 (i : Nat))]) n
    ⟨0, _, by omega, by omega, e1, by simpa [key] using S0, rfl, by simp [Has]⟩ ?_
  rintro m st hh ⟨i, w, hi, rfl, eh, L, hk⟩
  obtain ⟨wa, wn, wc, wz, rfl, hwn⟩ := L.form
  rw [hk.eq]
  obtain ⟨k3, k10, k11, k12, -⟩ := hk.2
  simp only [slotsFrom, Nat.reduceAdd] at k3 k10 k11 k12 ⊢
  simp only [k3, k10, k11, k12]
  simp (disch := omega) only [go_sem, seval]
  by_cases hlt : (i : Int) < (n : Int)
  · have hil : i < s.length := by omega
    obtain ⟨b1, o1, cs1, l1, rfl, rfl, hb1, hg1, rfl, hr1, ht1, hc1⟩ := sl.at_ (i := i) (x := s[i]) (List.getElem?_eq_getElem hil) (k := 1) rfl
    have c10 := hc1 0 (by decide)
    simp only [Nat.add_zero, List.getElem?_cons_zero] at c10
    have g1 : hh.get b1 = _ := (eh.get _ hb1).trans hg1
    have x24 : binOpA T .shr 3 (.int .i64 (s[i] : Nat)) (.int .u64 24) = some (.int .i64 ((s[i] / 16777216 : Nat) : Int)) := shr_at (T := T) (t := 3) (n := s[i]) (j := 24) (by omega)
    have x16 : binOpA T .shr 3 (.int .i64 (s[i] : Nat)) (.int .u64 16) = some (.int .i64 ((s[i] / 65536 : Nat) : Int)) := shr_at (T := T) (t := 3) (n := s[i]) (j := 16) (by omega)
    have x8 : binOpA T .shr 3 (.int .i64 (s[i] : Nat)) (.int .u64 8) = some (.int .i64 ((s[i] / 256 : Nat) : Int)) := shr_at (T := T) (t := 3) (n := s[i]) (j := 8) (by omega)
    simp (disch := omega) only [go_sem, seval, hlt, g1, Int.toNat_natCast, c10, x24, x16, x8, wrap_n]
    have hkl := key_len (s.take i)
    rw [List.length_take, Nat.min_eq_left (by omega)] at hkl
    refine sappend (m := h.nxt) (xs := key (s.take i)) (ys := [UInt8.ofNat (s[i] / 16777216), UInt8.ofNat (s[i] / 65536), UInt8.ofNat (s[i] / 256), UInt8.ofNat s[i]]) T_22 rfl T_5 rfl (by decide) (by decide) (L.upd ((Ext.add hh _).upd fun _ => False) fun _ _ _ f => f)
      (LSlc.lit (b := hh.nxt) (ls := [[.int .u8 (UInt8.ofNat (s[i] / 16777216)).toNat], [.int .u8 (UInt8.ofNat (s[i] / 65536)).toNat], [.int .u8 (UInt8.ofNat (s[i] / 256)).toNat], [.int .u8 (UInt8.ofNat s[i]).toNat]]) (by simp) get_add_self rfl (.cons rfl (.cons rfl (.cons rfl (.cons rfl .nil)))) rfl rfl)
      (by have := eh.nxt; simp; omega) (by simp [roomA, hkl]; omega) ?_
    intro v5 h5 S5 u5 b5
    simp (disch := omega) only [go_sem, seval]
    refine AgainK.mk (n - (i + 1)) (by simp only; omega) ⟨i + 1, v5, by omega, rfl, ((eh.trans (Ext.add _ _)).upd (h.nxt ≤ ·) |>.trans' u5 fun b e1 e2 => (L.base_ e1).1).ext fun b hb => by omega, ?_, rfl, by simp [Has]⟩
    have : key (s.take (i + 1)) = key (s.take i) ++ [UInt8.ofNat (s[i] / 16777216), UInt8.ofNat (s[i] / 65536), UInt8.ofNat (s[i] / 256), UInt8.ofNat s[i]] := by
      rw [List.take_add_one, List.getElem?_eq_getElem hil, Option.toList_some, key_app]; rfl
    rw [this]; exact S5
  · simp (disch := omega) only [go_sem, seval, hlt]
    have : i = s.length := by omega
    subst this
    rw [List.take_length] at L
    rw [conv_lst L.slc]
    simp (disch := omega) only [go_sem, seval]
    exact hQ _ _ ⟨eh, rfl⟩

/-- Sets as entries of a map. -/
def ents : List (List Nat) → Nat → List (AV × AV × Nat)
  | [], _ => []
  | s :: r, n => (.str (key s), .int .i64 (n : Nat), n) :: ents r (n + 1)
theorem ents_app : ∀ (S : List (List Nat)) (n : Nat) (s : List Nat), ents (S ++ [s]) n = ents S n ++ [(.str (key s), .int .i64 (n + S.length : Nat), n + S.length)]
  | [], n, s => by simp [ents]
  | t :: S, n, s => by
    rw [List.cons_append, ents, ents_app S (n + 1) s, ents, List.cons_append, List.length_cons, show n + 1 + S.length = n + (S.length + 1) by omega]
theorem find_ents {s : List Nat} (hs : ∀ x ∈ s, x < 4294967296) : ∀ {S : List (List Nat)} (n i : Nat), (∀ t ∈ S, ∀ x ∈ t, x < 4294967296) → findA .str (.str (key s)) (ents S n) i = some (if s ∈ S then some (i + S.idxOf s, .int .i64 ((n + S.idxOf s : Nat) : Int), n + S.idxOf s) else none)
  | [], n, i, _ => by simp [ents, findA]
  | t :: S, n, i, h => by
    rw [ents, findA]
    by_cases e : t = s
    · subst e
      simp [keyEq, List.idxOf_cons_self]
    · have hk : ¬ key s = key t := fun h1 => e (key_inj hs (h t (by simp)) h1).symm
      have hk2 : (key s == key t) = false := by simpa using hk
      simp only [keyEq, hk2]
      rw [find_ents hs (n + 1) (i + 1) fun t ht => h t (by simp [ht])]
      have hb : (t == s) = false := by simpa using e
      have hm : s ∈ t :: S ↔ s ∈ S := by simp [Ne.symm e]
      rw [List.idxOf_cons, hb]
      simp only [hm, cond_false]
      split
      · rw [show i + 1 + S.idxOf s = i + (S.idxOf s + 1) by omega, show n + 1 + S.idxOf s = n + (S.idxOf s + 1) by omega]
      · rfl

/-- Sets, and where a set stands among them: a new one at the end; none: below 0. -/
def rowN (S : List (List Nat)) (s : List Nat) : List (List Nat) × Int := if s = [] then (S, -1) else if s ∈ S then (S, (S.idxOf s : Nat)) else (S ++ [s], (S.length : Nat))
/-- The builder of rows at k, its map at mb. -/
structure Db (h : Heap) (k mb : Nat) (lv sv : AV) (G : List St) (S : List (List Nat)) : Prop where
  box : h.get k = some (.cells [lv, sv, .map (some mb)] true)
  lt : mb < k ∧ k < h.nxt
  map : h.get mb = some (.map (ents S 0) S.length)
  l : Lst h lv G
  s : LGrow (k + 1) h sv S
  small : wt G ≤ 800000
  elems : ∀ t ∈ S, ∀ x ∈ t, x < G.length
  lens : ∀ t ∈ S, t.length ≤ G.length
/-- What a builder changes. -/
def DbB (k mb : Nat) (sv : AV) (b : Nat) : Prop := b = k ∨ b = mb ∨ sv.blk = some b
theorem Db.upd {h h' : Heap} {k mb : Nat} {lv sv : AV} {G : List St} {S : List (List Nat)} {P : Nat → Prop} (D : Db h k mb lv sv G S) (u : Upd P h h') (hP : ∀ b, DbB k mb sv b → ¬ P b) : Db h' k mb lv sv G S :=
  ⟨(u.get k D.lt.2 (hP k (.inl rfl))).trans D.box, ⟨D.lt.1, Nat.lt_of_lt_of_le D.lt.2 u.nxt⟩, (u.get mb (Nat.lt_trans D.lt.1 D.lt.2) (hP mb (.inr (.inl rfl)))).trans D.map, D.l.pst u.pst, D.s.upd u fun b _ e => hP b (.inr (.inr e)), D.small, D.elems, D.lens⟩
theorem Db.ext {h h' : Heap} {k mb : Nat} {lv sv : AV} {G : List St} {S : List (List Nat)} (D : Db h k mb lv sv G S) (e : Ext h h') : Db h' k mb lv sv G S := D.upd (e.upd fun _ => False) fun _ _ f => f

theorem row_uf {h : Heap} {k mb : Nat} {lv sv : AV} {G : List St} {S : List (List Nat)} (D : Db h k mb lv sv G S) {v : AV} {s : List Nat} (hv : Lst h v s) (hs : ∀ x ∈ s, x < G.length) (hl : s.length ≤ G.length) (hS : S.length ≤ 100000) :
    UF T F 59 [.ptr (some (k, 0)), v] h fun v' h' => v' = .int .i64 (rowN S s).2 ∧ ∃ sv', Db h' k mb lv sv' G (rowN S s).1 ∧ Upd (DbB k mb sv) h h' ∧ (∀ b, sv'.blk = some b → sv.blk = some b ∨ h.nxt ≤ b) := by
  obtain ⟨a, n, c, z, rfl, hn⟩ := hv.form
  have hgl := wt_len G
  have hsm := D.small
  refine UF.gen fun Q hQ => UF.of (F_59) (c := _) rfl ?_
  unfold Try.f59
  simp only [List.length, Nat.reduceSub, Nat.reduceAdd, List.replicate, List.cons_append, List.nil_append]
  simp (disch := omega) only [go_sem, seval]
  by_cases h0 : (n : Int) = 0
  · have : s = [] := List.eq_nil_of_length_eq_zero (by omega)
    subst this
    simp (disch := omega) only [go_sem, seval, h0]
    exact hQ _ _ ⟨rfl, sv, by simpa [rowN] using D, Upd.refl _ _, fun b e => .inl e⟩
  · have hne : s ≠ [] := by intro e; subst e; simp at hn; omega
    simp (disch := omega) only [go_sem, seval, h0]
    refine callV_ofU F_78 rfl ((key_uf hv (by omega) (fun x hx => by have := hs x hx; omega)).mono ?_)
    rintro v1 h1 ⟨e1, rfl⟩
    simp (disch := omega) only [go_sem, seval]
    have D1 := D.ext e1
    have hmt : mapTypes T 125 = some (.str, 3) := by simp [mapTypes, T_125, T_9]
    have hf := find_ents (s := s) (fun x hx => by have := hs x hx; omega) (S := S) 0 0 (fun t ht x hx => by have := D.elems t ht x hx; omega)
    rw [Nat.zero_add] at hf
    by_cases hin : s ∈ S
    · rw [if_pos hin] at hf
      have hlk : lookupA T 125 (.map (some mb)) (.str (key s)) true h1 = some (.tup [.int .i64 (S.idxOf s : Nat), .bool true]) := by
        simp only [lookupA, hmt, entriesA, D1.map, hf, if_true]
      simp (disch := omega) only [go_sem, seval, D1.box, hlk]
      refine hQ _ _ ⟨by simp [rowN, hne, hin], sv, by simpa [rowN, hne, hin] using D1, e1.upd _, fun b e => .inl e⟩
    · rw [if_neg hin] at hf
      have hz : zeroOf T 3 = some (.int .i64 0) := by simp [zeroOf, T_3, TK.isAgg]
      have hlk : lookupA T 125 (.map (some mb)) (.str (key s)) true h1 = some (.tup [.int .i64 0, .bool false]) := by
        simp only [lookupA, hmt, entriesA, D1.map, hf, hz, if_true]
      obtain ⟨sa, sn, sc, sz, rfl, hsn⟩ := D1.s.form
      simp (disch := omega) only [go_sem, seval, D1.box, hlk]
      have hup : mapUpdateA T 125 (.map (some mb)) (.str (key s)) (.int .i64 (sn : Nat)) h1 = some (h1.put mb (.map (ents (S ++ [s]) 0) (S.length + 1))) := by
        simp only [mapUpdateA, hmt, D1.map, hf]
        rw [ents_app, Nat.zero_add, hsn]
      have hmk := D1.lt
      have u2 : Upd (DbB k mb (.slc sa sn sc sz)) h1 (h1.put mb (.map (ents (S ++ [s]) 0) (S.length + 1))) := Upd.put _ (.inr (.inl rfl)) fun c e => by rw [D1.map] at e; simp at e
      have g2k : (h1.put mb (.map (ents (S ++ [s]) 0) (S.length + 1))).get k = _ := (get_put_ne (by omega)).trans D1.box
      have g2m : (h1.put mb (.map (ents (S ++ [s]) 0) (S.length + 1))).get mb = _ := get_put_self
      have L2 : LGrow (k + 1) (h1.put mb (.map (ents (S ++ [s]) 0) (S.length + 1))) (.slc sa sn sc sz) S := D1.s.upd (S := (· = mb)) (Upd.put _ rfl fun c e => by rw [D1.map] at e; simp at e) fun b h1 _ h2 => by omega
      have v2 := (hv.ext e1).pst u2.pst
      have n2 : (h1.put mb (.map (ents (S ++ [s]) 0) (S.length + 1))).nxt = h1.nxt := by simp
      simp (disch := omega) only [go_sem, seval, hup, g2k]
      generalize (h1.put mb (.map (ents (S ++ [s]) 0) (S.length + 1))) = h2 at *
      refine gappend (m := k + 1) (xs := S) (ys := [s]) T_126 rfl T_130 rfl (by decide) (by decide) (L2.ext (Ext.add _ _)) (LSlc.lit (b := h1.nxt) (ls := [[.slc a n c z]]) (by simp; omega) (by rw [← n2]; exact get_add_self) rfl (Reps.one (x := s) ⟨_, rfl, v2.ext (Ext.add _ _)⟩) rfl rfl) (by simp; omega) (by simp [roomA]; omega) ?_
      intro v5 h5 L5 u5 b5
      obtain ⟨wa, wn, wc, wz, rfl, hwn⟩ := L5.form
      have ua : Upd (fun b => (AV.slc sa sn sc sz).blk = some b) h2 h5 := ((Ext.add h2 _).upd _).trans u5
      have g5k : h5.get k = _ := (ua.get k (by omega) fun e => by have := L2.blk e; omega).trans g2k
      have g5m : h5.get mb = _ := (ua.get mb (by omega) fun e => by have := L2.blk e; omega).trans g2m
      have n5 := ua.nxt
      simp (disch := omega) only [go_sem, seval, g5k]
      have u6 : Upd (· = k) h5 (h5.put k (.cells [lv, .slc wa wn wc wz, .map (some mb)] true)) := Upd.put _ rfl fun c e => by rw [g5k] at e; simp at e
      have hrow : rowN S s = (S ++ [s], ((S.length : Nat) : Int)) := by simp [rowN, hne, hin]
      refine hQ _ _ ⟨by rw [hrow, hsn], .slc wa wn wc wz, ?_, ?_, ?_⟩
      · rw [hrow]
        refine ⟨get_put_self, ⟨hmk.1, by simp; omega⟩, (get_put_ne (by omega)).trans (by rw [g5m, List.length_append]; rfl), (((D1.l.pst u2.pst).pst ua.pst).pst u6.pst), L5.upd u6 fun b e1 e2 e3 => by omega, D.small, fun t ht => ?_, fun t ht => ?_⟩
        · rcases List.mem_append.1 ht with ht | ht
          · exact D.elems t ht
          · simp only [List.mem_singleton] at ht; subst ht; exact hs
        · rcases List.mem_append.1 ht with ht | ht
          · exact D.lens t ht
          · simp only [List.mem_singleton] at ht; subst ht; exact hl
      · exact ((e1.upd _).trans u2).trans ((ua.weak fun b _ e => .inr (.inr e)).trans (u6.weak fun b _ e => .inl e))
      · intro b e
        have := e1.nxt
        rcases b5 b e with h6 | h6
        · exact .inl h6
        · exact .inr (by simp at h6; omega)

end Go.Proofs.Ytenpjkinpecnfaa
