import Derived.Test.YtenpjkinpecnfaaNfaL
import Derived.Test.YtenpjkinpecnfaaAmSt
import Derived.KernelRfl
/-
  Layer nfa: sets of states.
-/
namespace Go.Proofs.Ytenpjkinpecnfaa
open Go Go.Am
set_option maxRecDepth 100000
set_option maxHeartbeats 4000000
set_option linter.unusedSimpArgs false
set_option linter.unusedVariables false

/-- A set of our own, in its block. -/
def Bits (h : Heap) (b : Nat) (v : AV) (bs : List Bool) : Prop := v = .slc (some (b, 0)) bs.length (some bs.length) 1 ∧ b < h.nxt ∧ h.get b = some (.cells (bs.map AV.bool) true)
theorem Bits.upd {h h' : Heap} {b : Nat} {v : AV} {bs : List Bool} {S : Nat → Prop} (B : Bits h b v bs) (u : Upd S h h') (hS : ¬ S b) : Bits h' b v bs := ⟨B.1, Nat.lt_of_lt_of_le B.2.1 u.nxt, (u.get b B.2.1 hS).trans B.2.2⟩

theorem reps_int {h : Heap} : ∀ {xs : List Nat} {ls : List (List AV)}, Reps h xs ls → Reps h (xs.map fun (x : Nat) => (x : Int)) ls
  | [], _, .nil => .nil
  | x :: xs, _, .cons a b => .cons a (reps_int b)
theorem lst_int {h : Heap} {v : AV} {xs : List Nat} (s : Lst h v xs) : LSlc h v (xs.map fun (x : Nat) => (x : Int)) := by
  obtain ⟨ls, a, b⟩ := s
  exact ⟨ls, a.slc, reps_int b⟩

/-- What is come to with nothing, from one of those. -/
def Eps (G : List St) (a : Int) (i : Nat) : Prop := i < G.length ∧ ∃ (k n : Nat), a = (k : Int) ∧ Way G n k [] i
def has (bs : List Bool) (i : Nat) : Prop := bs[i]? = some true
/-- What they come to in one step with nothing is in the set, or is yet to do. -/
def Shut (G : List St) (bs : List Bool) (todo : List Int) : Prop := ∀ (i : Nat) (x : St) (j : Nat), has bs i → G[i]? = some x → j ∈ x.free → j < G.length → has bs j ∨ (j : Int) ∈ todo
/-- How much is to do. -/
def left : List St → List Bool → Nat
  | x :: G, b :: bs => (if b then 0 else 1 + x.free.length) + left G bs
  | _, _ => 0
theorem left_set : ∀ {G : List St} {bs : List Bool} {i : Nat} {x : St}, G[i]? = some x → bs[i]? = some false → left G (bs.set i true) + (1 + x.free.length) = left G bs
  | [], _, _, _, h, _ => by simp at h
  | _ :: _, [], _, _, _, h => by simp at h
  | y :: G, b :: bs, 0, x, h1, h2 => by
    simp at h1 h2; subst h1; subst h2
    simp [left]; omega
  | y :: G, b :: bs, i + 1, x, h1, h2 => by
    have := left_set (G := G) (bs := bs) (i := i) (x := x) (by simpa using h1) (by simpa using h2)
    simp only [left, List.set_cons_succ]; omega
theorem left_le : ∀ (G : List St) (bs : List Bool), left G bs ≤ wt G
  | [], bs => by simp [left]
  | x :: G, [] => by simp [left]
  | x :: G, b :: bs => by
    have := left_le G bs
    have e : wt (x :: G) = 1 + x.free.length + wt G := rfl
    rw [e, left]
    split <;> omega
theorem way_last {G : List St} {n a i : Nat} {w : List UInt8} (h : Way G n a w i) {x : St} (hx : G[i]? = some x) {j : Nat} (hj : j ∈ x.free) : Way G (n + 1) a w j := by
  have := h.app (.eps hx hj .nil : Way G 1 i [] j)
  rwa [List.append_nil] at this
theorem shut_way {G : List St} {bs : List Bool} (hs : Shut G bs []) {n a i : Nat} (h : Way G n a [] i) (ha : has bs a) (hi : i < G.length) : has bs i := by
  generalize hw : ([] : List UInt8) = w at h
  induction h with
  | nil => exact ha
  | @eps a' b' c' n' w' x' hx hb t ih =>
    have hbl : b' < G.length := by
      cases t with
      | nil => exact hi
      | eps hx' _ _ => exact (List.getElem?_eq_some_iff.1 hx').1
      | chr hx' _ _ _ _ => exact (List.getElem?_eq_some_iff.1 hx').1
    rcases hs _ _ _ ha hx hb hbl with h1 | h1
    · exact ih h1 hi hw
    · simp at h1
  | chr => cases hw

theorem has_set {bs : List Bool} {i j : Nat} (hi : i < bs.length) : has (bs.set i true) j ↔ has bs j ∨ j = i := by
  unfold has
  by_cases h : i = j
  · subst h; rw [List.getElem?_set_self hi]; simp
  · rw [List.getElem?_set_ne h]
    exact ⟨.inl, fun h1 => h1.elim id fun e => absurd e.symm h⟩
theorem add_uf {h : Heap} {G : List St} {l s : AV} {bs : List Bool} {sb : Nat} {a : Int} (sl : Lst h l G) (B : Bits h sb s bs) (hlen : bs.length = G.length) (hw : wt G ≤ 1000000) (hs : Shut G bs []) :
    UF T F 55 [s, l, .int .i64 a] h fun _ h' => Upd (· = sb) h h' ∧ ∃ bs', Bits h' sb s bs' ∧ bs'.length = G.length ∧ Shut G bs' [] ∧ ∀ i, has bs' i ↔ has bs i ∨ Eps G a i := by
  obtain ⟨la, ln, lc, lz, rfl, hln⟩ := sl.form
  obtain ⟨rfl, hsb, hsg⟩ := B
  have hgl := wt_len G
  refine UF.gen fun Q hQ => UF.of (F_55) (c := _) rfl ?_
  unfold Try.f55
  simp only [List.length, Nat.reduceSub, Nat.reduceAdd, List.replicate, List.cons_append, List.nil_append]
  simp (disch := omega) only [go_sem, seval]
  have e1 : Ext h (h.add (.cells [.int .i64 a] true)) := Ext.add _ _
  have S0 : LStk (α := Int) h.nxt (h.add (.cells [.int .i64 a] true)) (.slc (some (h.nxt, 0)) 1 (some 1) 1) [a] := stk_lit (ls := [[.int .i64 a]]) (by simp) (Nat.le_refl _) get_add_self rfl (Reps.one rfl) rfl rfl
  have hle := left_le G bs
  refine LoopU_while (fun m st hh => ∃ (v : AV) (todo : List Int) (bs' : List Bool), m = left G bs' + todo.length ∧ bs'.length = bs.length ∧ LStk h.nxt hh v todo ∧ hh.get sb = some (.cells (bs'.map AV.bool) true) ∧ Upd (· = sb) h hh ∧ left G bs' + todo.length ≤ 1000001 ∧
      Shut G bs' todo ∧ (∀ i, has bs' i → has bs i ∨ Eps G a i) ∧ (∀ i, has bs i → has bs' i) ∧ (∀ j ∈ todo, ∀ i : Nat, i < G.length → j = (i : Int) → Eps G a i) ∧ (∀ i : Nat, i < G.length → a = (i : Int) → has bs' i ∨ a ∈ todo) ∧
      Keep st 48 [(0, .slc (some (sb, 0)) bs.length (some bs.length) 1), (1, .slc la ln lc lz), (6, v)]) (left G bs + 1)
    ⟨_, [a], bs, rfl, rfl, S0, (get_add_lt hsb).trans hsg, e1.upd _, by simp; omega,
      fun i x j h1 h2 h3 h4 => (hs i x j h1 h2 h3 h4).imp id (by simp), fun i h => .inl h, fun i h => h, fun j hj i hi e => ⟨hi, i, 0, by simp at hj; omega, .nil⟩, fun i _ _ => .inr (by simp), rfl, by simp [Has]⟩ ?_
  rintro m st hh ⟨v, todo, bs', rfl, hbl, S, g, u, hb, hsh, hin, hold, hrch, hst, hk⟩
  obtain ⟨va, vn, vc, vz, rfl, hvn⟩ := S.form
  rw [hk.eq]
  obtain ⟨k0, k1, k6, -⟩ := hk.2
  simp only [slotsFrom, Nat.reduceAdd] at k0 k1 k6 ⊢
  simp only [k0, k1, k6]
  have slj := sl.pst u.pst
  simp (disch := omega) only [go_sem, seval]
  by_cases hgt : (vn : Int) > 0
  · obtain ⟨d, rfl⟩ : ∃ d, vn = d + 1 := ⟨vn - 1, by omega⟩
    have hd1 : ((d + 1 : Nat) : Int) - 1 = (d : Nat) := by omega
    have hd2 : (d : Int) < (d + 1 : Nat) := by omega
    have hdl : d < todo.length := by omega
    obtain ⟨rb, ro, rcs, rw_, rl, rfl, rfl, hrb, hrg, rfl, hrr, hrt, hrc⟩ := S.slc.at_ (i := d) (x := todo[d]) (List.getElem?_eq_getElem hdl) (k := 1) rfl
    have hrc0 := hrc 0 (by decide)
    simp only [Nat.add_zero, List.getElem?_cons_zero] at hrc0
    simp (disch := omega) only [go_sem, seval, hgt, hd1, hd2, hrg, Int.toNat_natCast, hrc0]
    refine stk_hi (i := d) T_49 rfl T_3 rfl S (by omega) (by omega) ?_
    intro v2 S2 b2
    obtain ⟨va, vn, vc, vz, rfl, hvn2⟩ := S2.form
    simp (disch := omega) only [go_sem, seval]
    have htd : todo = todo.take d ++ [todo[d]] := by
      have := List.take_append_drop d todo
      rw [List.drop_eq_getElem_cons hdl, List.drop_of_length_le (by omega)] at this
      exact this.symm
    have hmem : ∀ j, j ∈ todo ↔ j ∈ todo.take d ∨ j = todo[d] := fun j => (iff_of_eq (congrArg (fun l => j ∈ l) htd)).trans (List.mem_append.trans (or_congr Iff.rfl List.mem_singleton))
    have hl2 : (todo.take d).length = d := by simp; omega
    rw [hl2] at hvn2
    generalize hq : todo.take d = td at *
    generalize todo[d] = t at *
    have skip : ¬ (t ≥ 0 ∧ t < (ln : Int) ∧ bs'[t.toNat]? = some false) → ∀ j : Nat, j < G.length → (j : Int) = t → has bs' j := by
      rintro h1 j hj rfl
      simp only [Int.toNat_natCast] at h1
      have hj2 : j < bs'.length := by omega
      cases hv : bs'[j] with
      | true => exact List.getElem?_eq_some_iff.2 ⟨hj2, hv⟩
      | false => exact absurd ⟨by omega, by omega, List.getElem?_eq_some_iff.2 ⟨hj2, hv⟩⟩ h1
    have again : ∀ (h2 : Heap) (s2 : List AV), ¬ (t ≥ 0 ∧ t < (ln : Int) ∧ bs'[t.toNat]? = some false) → h2 = hh → Keep s2 48 [(0, .slc (some (sb, 0)) bs.length (some bs.length) 1), (1, .slc la ln lc lz), (6, .slc va vn vc vz)] →
        @AgainK ⟨s2, [], h2⟩ ⟨left G bs' + todo.length, fun m st hh => ∃ (v : AV) (todo : List Int) (bs' : List Bool), m = left G bs' + todo.length ∧ bs'.length = bs.length ∧ LStk h.nxt hh v todo ∧ hh.get sb = some (.cells (bs'.map AV.bool) true) ∧ Upd (· = sb) h hh ∧ left G bs' + todo.length ≤ 1000001 ∧
      Shut G bs' todo ∧ (∀ i, has bs' i → has bs i ∨ Eps G a i) ∧ (∀ i, has bs i → has bs' i) ∧ (∀ j ∈ todo, ∀ i : Nat, i < G.length → j = (i : Int) → Eps G a i) ∧ (∀ i : Nat, i < G.length → a = (i : Int) → has bs' i ∨ a ∈ todo) ∧
      Keep st 48 [(0, .slc (some (sb, 0)) bs.length (some bs.length) 1), (1, .slc la ln lc lz), (6, v)]⟩ := by
      rintro h2 s2 hn rfl hk2
      refine AgainK.mk (left G bs' + td.length) (by simp only; omega) ⟨_, td, bs', rfl, hbl, S2, g, u, by omega, fun i x j h1 h2 h3 h4 => ?_, hin, hold, fun j hj => hrch j ((hmem j).2 (.inl hj)), fun i hi e => ?_, hk2⟩
      · rcases hsh i x j h1 h2 h3 h4 with h5 | h5
        · exact .inl h5
        · rcases (hmem _).1 h5 with h6 | h6
          · exact .inr h6
          · exact .inl (skip hn j h4 h6)
      · rcases hst i hi e with h5 | h5
        · exact .inl h5
        · rcases (hmem _).1 h5 with h6 | h6
          · exact .inr h6
          · exact .inl (skip hn i hi (by omega))
    by_cases c1 : t ≥ 0
    · by_cases c2 : t < (ln : Int)
      · obtain ⟨i0, rfl⟩ : ∃ i0 : Nat, t = i0 := ⟨t.toNat, by omega⟩
        have hi0 : i0 < G.length := by omega
        have hi1 : i0 < bs'.length := by omega
        have c3 : (i0 : Int) < (bs.length : Int) := by omega
        have hgi : (bs'.map AV.bool)[i0 * 1]? = some (.bool bs'[i0]) := by rw [Nat.mul_one, List.getElem?_map, List.getElem?_eq_getElem hi1]; rfl
        simp (disch := omega) only [go_sem, seval, c1, c2, c3, g, Int.toNat_natCast, hgi]
        cases hbv : bs'[i0] with
        | true =>
          simp (disch := omega) only [go_sem, seval, hbv]
          exact again _ _ (fun h1 => by rw [Int.toNat_natCast, List.getElem?_eq_getElem hi1, hbv] at h1; simp at h1) rfl ⟨rfl, by simp [Has]⟩
        | false =>
          have hroom : i0 * 1 + 1 ≤ (bs'.map AV.bool).length := by simp; omega
          obtain ⟨gb, go, gcs, gl, rfl, rfl, hgb, hgg, ⟨fv, rfl, sf⟩, hgr, hgt', hgc⟩ := slj.at_ (i := i0) (x := G[i0]) (List.getElem?_eq_getElem hi0) (k := 5) rfl
          have hgc3 := hgc 3 (by decide)
          simp only [List.getElem?_cons_zero, List.getElem?_cons_succ] at hgc3
          have hne : sb ≠ gb := fun e => by rw [← e, g] at hgg; simp at hgg
          have u3 : Upd (· = sb) hh (hh.put sb (.cells ((bs'.map AV.bool).set (i0 * 1) (.bool true)) true)) := Upd.put _ rfl fun c e => by rw [g] at e; simp at e
          have hgg2 := (get_put_ne (h := hh) (x := .cells ((bs'.map AV.bool).set (i0 * 1) (.bool true)) true) hne).trans hgg
          have hset : (bs'.map AV.bool).set (i0 * 1) (.bool true) = (bs'.set i0 true).map AV.bool := by rw [Nat.mul_one, List.map_set]
          have hG : G[i0]? = some G[i0] := List.getElem?_eq_getElem hi0
          have hfm := wt_mem (List.getElem_mem hi0)
          have hls := left_set hG (bs := bs') (List.getElem?_eq_some_iff.2 ⟨hi1, hbv⟩)
          simp (disch := omega) only [go_sem, seval, hbv, g, Int.toNat_natCast, hroom, c2, hgg, hgc3]
          have hnn := u.nxt
          refine sappend (m := h.nxt) (xs := td) (ys := G[i0].free.map fun (x : Nat) => (x : Int)) T_49 rfl T_3 rfl (by decide) (by decide) (S2.upd u3 fun b _ e e2 => ?_) (lst_int (sf.pst u3.pst)) (by simp; omega) (by simp [roomA]; omega) ?_
          · have := (S2.base_ e).1
            omega
          intro v3 h3 S3 u4 b3
          obtain ⟨wa, wn, wc, wz, rfl, hwn⟩ := S3.form
          have nb : ∀ b, (AV.slc va vn vc vz).base = some b → h.nxt ≤ b := fun b e => (S2.base_ e).1
          have g3 : h3.get sb = some (.cells ((bs'.set i0 true).map AV.bool) true) := by
            rw [u4.get sb (by simp; omega) (fun e => by have := nb _ e; omega), get_put_self, hset]
          have hit : Eps G a i0 := hrch i0 ((hmem _).2 (.inr rfl)) i0 hi0 rfl
          have hlen2 : (td ++ G[i0].free.map fun (x : Nat) => (x : Int)).length = d + G[i0].free.length := by simp [hl2]
          simp (disch := omega) only [go_sem, seval]
          refine AgainK.mk (left G (bs'.set i0 true) + (td ++ G[i0].free.map fun (x : Nat) => (x : Int)).length) (by simp only; rw [hlen2]; omega) ⟨_, _, bs'.set i0 true, rfl, by simp [hbl], S3, g3, (u.trans u3).trans' u4 fun b e hb => by have := nb b e; omega, by rw [hlen2]; omega,
            fun i x j h1 h2 h3 h4 => ?_, fun i h1 => ?_, fun i h1 => (has_set hi1).2 (.inl (hold i h1)), fun j hj i hi e => ?_, fun i hi e => ?_, rfl, by simp [Has]⟩
          · rcases (has_set hi1).1 h1 with h5 | rfl
            · rcases hsh i x j h5 h2 h3 h4 with h6 | h6
              · exact .inl ((has_set hi1).2 (.inl h6))
              · rcases (hmem _).1 h6 with h7 | h7
                · exact .inr (by simp [h7])
                · exact .inl ((has_set hi1).2 (.inr (by omega)))
            · rw [hG] at h2
              simp only [Option.some.injEq] at h2
              subst h2
              exact .inr (List.mem_append_right _ (List.mem_map.2 ⟨j, h3, rfl⟩))
          · rcases (has_set hi1).1 h1 with h5 | rfl
            · exact hin i h5
            · exact .inr hit
          · rcases List.mem_append.1 hj with h5 | h5
            · exact hrch j ((hmem _).2 (.inl h5)) i hi e
            · obtain ⟨y, hy, rfl⟩ := List.mem_map.1 h5
              have : y = i := by omega
              subst this
              obtain ⟨_, k, n, e2, W⟩ := hit
              exact ⟨hi, k, _, e2, way_last W hG hy⟩
          · rcases hst i hi e with h5 | h5
            · exact .inl ((has_set hi1).2 (.inl h5))
            · rcases (hmem _).1 h5 with h6 | h6
              · exact .inr (by simp [h6])
              · exact .inl ((has_set hi1).2 (.inr (by omega)))
      · simp (disch := omega) only [go_sem, seval, c1, c2]
        exact again _ _ (fun h1 => c2 h1.2.1) rfl ⟨rfl, by simp [Has]⟩
    · simp (disch := omega) only [go_sem, seval, c1]
      exact again _ _ (fun h1 => c1 h1.1) rfl ⟨rfl, by simp [Has]⟩
  · simp (disch := omega) only [go_sem, seval, hgt]
    have ht0 : todo = [] := List.eq_nil_of_length_eq_zero (by omega)
    subst ht0
    refine hQ _ _ ⟨u, bs', ⟨by rw [hbl], Nat.lt_of_lt_of_le hsb u.nxt, g⟩, by omega, hsh, fun i => ⟨hin i, fun h1 => ?_⟩⟩
    rcases h1 with h1 | ⟨hi, k, n, rfl, W⟩
    · exact hold i h1
    · have hkl : k < G.length := by
        generalize hww : ([] : List UInt8) = ww at W
        cases W with
        | nil => exact hi
        | eps hx' _ _ => exact (List.getElem?_eq_some_iff.1 hx').1
        | chr hx' _ _ _ _ => exact (List.getElem?_eq_some_iff.1 hx').1
      rcases hst k hkl rfl with h2 | h2
      · exact shut_way hsh W h2 hi
      · simp at h2

/-- The least kind of the first ones of a set; 0: none. -/
def EndTo (G : List St) (bs : List Bool) (n e : Nat) : Prop := (e = 0 ∧ ∀ i x, i < n → has bs i → G[i]? = some x → x.fin = 0) ∨ (0 < e ∧ (∃ i x, has bs i ∧ G[i]? = some x ∧ x.fin = e) ∧ ∀ i x, i < n → has bs i → G[i]? = some x → 0 < x.fin → e ≤ x.fin)
theorem EndTo.skip {G : List St} {bs : List Bool} {n e : Nat} (E : EndTo G bs n e) {x : St} (hx : G[n]? = some x) (h : ¬ (has bs n ∧ 0 < x.fin ∧ (e = 0 ∨ x.fin < e))) : EndTo G bs (n + 1) e := by
  rcases E with ⟨rfl, E⟩ | ⟨h0, E1, E2⟩
  · refine .inl ⟨rfl, fun i y hi hb hy => ?_⟩
    by_cases hin : i = n
    · subst hin
      rw [hx] at hy; simp only [Option.some.injEq] at hy; subst hy
      have : ¬ 0 < x.fin := fun h1 => h ⟨hb, h1, .inl rfl⟩
      omega
    · exact E i y (by omega) hb hy
  · refine .inr ⟨h0, E1, fun i y hi hb hy hp => ?_⟩
    by_cases hin : i = n
    · subst hin
      rw [hx] at hy; simp only [Option.some.injEq] at hy; subst hy
      have : ¬ x.fin < e := fun h1 => h ⟨hb, hp, .inr h1⟩
      omega
    · exact E2 i y (by omega) hb hy hp
theorem EndTo.take {G : List St} {bs : List Bool} {n e : Nat} (E : EndTo G bs n e) {x : St} (hx : G[n]? = some x) (hb : has bs n) (h1 : 0 < x.fin) (h2 : e = 0 ∨ x.fin < e) : EndTo G bs (n + 1) x.fin := by
  refine .inr ⟨h1, ⟨n, x, hb, hx, rfl⟩, fun i y hi hb' hy hp => ?_⟩
  by_cases hin : i = n
  · subst hin
    rw [hx] at hy; simp only [Option.some.injEq] at hy; subst hy
    exact Nat.le_refl _
  · rcases E with ⟨rfl, E⟩ | ⟨h0, E1, E2⟩
    · have := E i y (by omega) hb' hy; omega
    · have := E2 i y (by omega) hb' hy hp; omega

theorem end_uf {h : Heap} {G : List St} {l s : AV} {bs : List Bool} {sb : Nat} (sl : Lst h l G) (B : Bits h sb s bs) (hlen : bs.length = G.length) (hw : wt G ≤ 1000000) :
    UF T F 57 [s, l] h fun v' h' => Ext h h' ∧ ∃ e : Nat, v' = .int .i64 e ∧ EndTo G bs G.length e := by
  obtain ⟨la, ln, lc, lz, rfl, hln⟩ := sl.form
  obtain ⟨rfl, hsb, hsg⟩ := B
  have hgl := wt_len G
  refine UF.gen fun Q hQ => UF.of (F_57) (c := _) rfl ?_
  unfold Try.f57
  simp only [List.length, Nat.reduceSub, Nat.reduceAdd, List.replicate, List.cons_append, List.nil_append]
  simp (disch := omega) only [go_sem, seval]
  refine LoopU_while (fun m st hh => ∃ (j e : Nat), j ≤ G.length ∧ m = G.length - j ∧ Ext h hh ∧ EndTo G bs j e ∧
      Keep st 37 [(0, .slc (some (sb, 0)) bs.length (some bs.length) 1), (1, .slc la ln lc lz), (4, .int .i64 (e : Nat)), (8, .slc (some (sb, 0)) bs.length (some bs.length) 1), (9, .int .i64 (bs.length : Nat)), (10, .int .i64 (j : Nat))]) G.length
    ⟨0, 0, by omega, by omega, Ext.refl _, .inl ⟨rfl, fun i x hi => by omega⟩, rfl, by simp [Has]⟩ ?_
  rintro m st hh ⟨j, e, hj, rfl, eh, E, hk⟩
  rw [hk.eq]
  obtain ⟨k0, k1, k4, k8, k9, k10, -⟩ := hk.2
  simp only [slotsFrom, Nat.reduceAdd] at k0 k1 k4 k8 k9 k10 ⊢
  simp only [k0, k1, k4, k8, k9, k10]
  have slj := sl.pst eh.pst
  have g := (eh.get sb hsb).trans hsg
  simp (disch := omega) only [go_sem, seval]
  by_cases hlt : (j : Int) < (bs.length : Int)
  · have hjl : j < G.length := by omega
    have hjb : j < bs.length := by omega
    have hgi : (bs.map AV.bool)[j * 1]? = some (.bool bs[j]) := by rw [Nat.mul_one, List.getElem?_map, List.getElem?_eq_getElem hjb]; rfl
    obtain ⟨gb, go, gcs, gl, rfl, rfl, hgb, hgg, ⟨fv, rfl, sf⟩, hgr, hgt', hgc⟩ := slj.at_ (i := j) (x := G[j]) (List.getElem?_eq_getElem hjl) (k := 5) rfl
    have hgc4 := hgc 4 (by decide)
    simp only [List.getElem?_cons_zero, List.getElem?_cons_succ] at hgc4
    have hlt2 : (j : Int) < (ln : Int) := by omega
    have hG : G[j]? = some G[j] := List.getElem?_eq_getElem hjl
    simp (disch := omega) only [go_sem, seval, hlt, g, Int.toNat_natCast, hgi, hlt2, hgg, hgc4]
    have hhas : has bs j ↔ bs[j] = true := by unfold has; rw [List.getElem?_eq_getElem hjb]; simp
    cases hbv : bs[j] with
    | false =>
      simp (disch := omega) only [go_sem, seval]
      exact AgainK.mk (G.length - (j + 1)) (by simp only; omega) ⟨j + 1, e, by omega, rfl, eh, (E.skip hG fun h1 => by rw [hhas, hbv] at h1; simp at h1), rfl, by simp [Has]⟩
    | true =>
      have hb : has bs j := hhas.2 hbv
      by_cases p1 : (G[j].fin : Int) > 0
      · by_cases p2 : (e : Int) = 0
        · simp (disch := omega) only [go_sem, seval, p1, p2]
          exact AgainK.mk (G.length - (j + 1)) (by simp only; omega) ⟨j + 1, G[j].fin, by omega, rfl, eh, (E.take hG hb (by omega) (.inl (by omega))), rfl, by simp [Has]⟩
        · by_cases p3 : (G[j].fin : Int) < e
          · simp (disch := omega) only [go_sem, seval, p1, p2, p3]
            exact AgainK.mk (G.length - (j + 1)) (by simp only; omega) ⟨j + 1, G[j].fin, by omega, rfl, eh, (E.take hG hb (by omega) (.inr (by omega))), rfl, by simp [Has]⟩
          · simp (disch := omega) only [go_sem, seval, p1, p2, p3]
            exact AgainK.mk (G.length - (j + 1)) (by simp only; omega) ⟨j + 1, e, by omega, rfl, eh, (E.skip hG fun h1 => by omega), rfl, by simp [Has]⟩
      · simp (disch := omega) only [go_sem, seval, p1]
        exact AgainK.mk (G.length - (j + 1)) (by simp only; omega) ⟨j + 1, e, by omega, rfl, eh, (E.skip hG fun h1 => by omega), rfl, by simp [Has]⟩
  · have : j = G.length := by omega
    subst this
    simp (disch := omega) only [go_sem, seval, hlt]
    exact hQ _ _ ⟨eh, e, rfl, E⟩

theorem index_uf {h : Heap} {s : AV} {bs : List Bool} {sb : Nat} (B : Bits h sb s bs) (hl : bs.length ≤ 1000000) : UF T F 75 [s, .bool true] h fun v' h' => Ext h h' ∧ ((∃ i : Nat, v' = .int .i64 i ∧ has bs i) ∨ (v' = .int .i64 (-1) ∧ ∀ i, ¬ has bs i)) := by
  obtain ⟨rfl, hsb, hsg⟩ := B
  refine UF.gen fun Q hQ => UF.of (F_75) (c := _) rfl ?_
  unfold Try.f75
  simp only [List.length, Nat.reduceSub, Nat.reduceAdd, List.replicate, List.cons_append, List.nil_append]
  simp (disch := omega) only [go_sem, seval]
  refine LoopU_while (fun m st hh => ∃ j : Nat, j ≤ bs.length ∧ m = bs.length - j ∧ Ext h hh ∧ (∀ i, i < j → ¬ has bs i) ∧
      Keep st 19 [(0, .slc (some (sb, 0)) bs.length (some bs.length) 1), (1, .bool true), (7, .int .i64 (bs.length : Nat)), (8, .int .i64 (j : Nat))]) bs.length
    ⟨0, by omega, by omega, Ext.refl _, fun i hi => by omega, rfl, by simp [Has]⟩ ?_
  rintro m st hh ⟨j, hj, rfl, eh, hno, hk⟩
  rw [hk.eq]
  obtain ⟨k0, k1, k7, k8, -⟩ := hk.2
  simp only [slotsFrom, Nat.reduceAdd] at k0 k1 k7 k8 ⊢
  simp only [k0, k1, k7, k8]
  have g := (eh.get sb hsb).trans hsg
  simp (disch := omega) only [go_sem, seval]
  by_cases hlt : (j : Int) < (bs.length : Int)
  · have hjb : j < bs.length := by omega
    have hgi : (bs.map AV.bool)[j * 1]? = some (.bool bs[j]) := by rw [Nat.mul_one, List.getElem?_map, List.getElem?_eq_getElem hjb]; rfl
    have hhas : has bs j ↔ bs[j] = true := by unfold has; rw [List.getElem?_eq_getElem hjb]; simp
    simp (disch := omega) only [go_sem, seval, hlt, g, Int.toNat_natCast, hgi]
    cases hbv : bs[j] with
    | false =>
      simp (disch := omega) only [go_sem, seval]
      refine AgainK.mk (bs.length - (j + 1)) (by simp only; omega) ⟨j + 1, by omega, rfl, eh, fun i hi h1 => ?_, rfl, by simp [Has]⟩
      by_cases e : i = j
      · subst e; rw [hhas, hbv] at h1; simp at h1
      · exact hno i (by omega) h1
    | true =>
      simp (disch := omega) only [go_sem, seval]
      exact hQ _ _ ⟨eh, .inl ⟨j, rfl, hhas.2 hbv⟩⟩
  · have : j = bs.length := by omega
    subst this
    simp (disch := omega) only [go_sem, seval, hlt]
    refine hQ _ _ ⟨eh, .inr ⟨rfl, fun i h1 => ?_⟩⟩
    exact hno i (List.getElem?_eq_some_iff.1 h1).1 h1
theorem contains_uf {h : Heap} {s : AV} {bs : List Bool} {sb : Nat} (B : Bits h sb s bs) (hl : bs.length ≤ 1000000) : UF T F 56 [s, .bool true] h fun v' h' => Ext h h' ∧ ∃ y : Bool, v' = .bool y ∧ (y = true ↔ ∃ i, has bs i) := by
  refine UF.gen fun Q hQ => UF.of (F_56) (c := _) rfl ?_
  unfold Try.f56
  simp only [List.length, Nat.reduceSub, Nat.reduceAdd, List.replicate, List.cons_append, List.nil_append]
  simp (disch := omega) only [go_sem, seval]
  refine callV_ofU F_75 rfl ((index_uf B hl).mono ?_)
  rintro v2 h2 ⟨e2, c⟩
  simp (disch := omega) only [go_sem, seval]
  rcases c with ⟨i, rfl, hi⟩ | ⟨rfl, hno⟩
  · have p : (i : Int) ≥ 0 := by omega
    simp (disch := omega) only [go_sem, seval, p]
    exact hQ _ _ ⟨e2, true, rfl, by simp; exact ⟨i, hi⟩⟩
  · simp (disch := omega) only [go_sem, seval]
    exact hQ _ _ ⟨e2, false, rfl, by simp; exact hno⟩

theorem way_split {G : List St} {n a z : Nat} {w : List UInt8} (h : Way G n a w z) : ∀ (u : List UInt8) (c : UInt8), w = u ++ [c] → ∃ n1 p x b n2, Way G n1 a u p ∧ G[p]? = some x ∧ (x.lo ≤ c ∧ c ≤ x.hi) ∧ x.next = ((b : Nat) : Int) ∧ Way G n2 b [] z := by
  induction h with
  | nil => intro u c e; simp at e
  | eps hx hb t ih =>
    intro u c e
    obtain ⟨n1, p, x, b, n2, h1, h2⟩ := ih u c e
    exact ⟨n1 + 1, p, x, b, n2, .eps hx hb h1, h2⟩
  | chr hx hl hh hn t ih =>
    intro u c e
    cases u with
    | nil =>
      simp at e
      obtain ⟨rfl, rfl⟩ := e
      exact ⟨0, _, _, _, _, .nil, hx, ⟨hl, hh⟩, hn, t⟩
    | cons y u =>
      simp at e
      obtain ⟨rfl, e⟩ := e
      obtain ⟨n1, p, x, b, n2, h1, h2⟩ := ih u c e
      exact ⟨n1 + 1, p, x, b, n2, .chr hx hl hh hn h1, h2⟩
/-- The states that a text's front comes to. -/
def Live (G : List St) (w : List UInt8) (q : Nat) : Prop := q < G.length ∧ ∃ n, Way G n 0 w q
theorem live_next {G : List St} {w : List UInt8} {c : UInt8} {q : Nat} : Live G (w ++ [c]) q ↔ ∃ p x, Live G w p ∧ G[p]? = some x ∧ (x.lo ≤ c ∧ c ≤ x.hi) ∧ Eps G x.next q := by
  constructor
  · rintro ⟨hq, n, W⟩
    obtain ⟨n1, p, x, b, n2, h1, h2, h3, h4, h5⟩ := way_split W w c rfl
    exact ⟨p, x, ⟨(List.getElem?_eq_some_iff.1 h2).1, n1, h1⟩, h2, h3, hq, b, n2, h4, h5⟩
  · rintro ⟨p, x, ⟨hp, n1, h1⟩, h2, h3, hq, b, n2, h4, h5⟩
    exact ⟨hq, _, h1.app (.chr h2 h3.1 h3.2 h4 h5)⟩

end Go.Proofs.Ytenpjkinpecnfaa

/-
  Layer nfa: the longest front, by states.
-/
namespace Go.Proofs.Ytenpjkinpecnfaa
open Go Go.Am
set_option maxRecDepth 100000
set_option maxHeartbeats 4000000
set_option linter.unusedSimpArgs false
set_option linter.unusedVariables false

/-- The least kind that a text's front comes to; 0: none. -/
def EndL (G : List St) (w : List UInt8) (e : Nat) : Prop := (e = 0 ∧ ∀ q x, Live G w q → G[q]? = some x → x.fin = 0) ∨ (0 < e ∧ (∃ q x, Live G w q ∧ G[q]? = some x ∧ x.fin = e) ∧ ∀ q x, Live G w q → G[q]? = some x → 0 < x.fin → e ≤ x.fin)
/-- The longest of the fronts of so many bytes. -/
def Best (G : List St) (s : List UInt8) (i k n : Nat) (ok : Bool) : Prop := (ok = false ∧ k = 0 ∧ n = 0 ∧ ∀ j, 0 < j → j ≤ i → EndL G (s.take j) 0) ∨ (ok = true ∧ 0 < n ∧ n ≤ i ∧ EndL G (s.take n) (k + 1) ∧ ∀ j, n < j → j ≤ i → EndL G (s.take j) 0)

theorem live_front {G : List St} {u : List UInt8} : ∀ (n : Nat) (v : List UInt8) {q : Nat}, v.length = n → Live G (u ++ v) q → ∃ p, Live G u p
  | 0, v, q, hv, h => by
    have := List.eq_nil_of_length_eq_zero hv
    subst this
    rw [List.append_nil] at h
    exact ⟨q, h⟩
  | n + 1, v, q, hv, h => by
    have hne : v ≠ [] := by intro e; subst e; simp at hv
    rw [← List.dropLast_concat_getLast hne, ← List.append_assoc] at h
    obtain ⟨p, x, h1, _⟩ := live_next.1 h
    exact live_front n v.dropLast (by simp [hv]) h1
theorem zero_bools (n : Nat) : zeroRow [.bool false] n = (List.replicate n false).map AV.bool := by
  refine List.ext_getElem (by simp [zeroRow]) fun i h1 h2 => ?_
  simp [zeroRow, Nat.mod_one]
/-- A new set. -/
theorem mk_bits {K : KH} {h : Heap} {n : Nat} {t : Nat} {zr : List AV} (ht : T t = some ⟨.slc 4, 1, 24, zr, false⟩) (hn : n ≤ 1000000) (k : K.k (.slc (some (h.nxt, 0)) n (some n) 1) (h.add (.cells ((List.replicate n false).map AV.bool) true))) : @OBk (makeSliceA T t (.int .i64 n) (.int .i64 n) h) K := by
  have e : makeSliceA T t (.int .i64 n) (.int .i64 n) h = some (.slc (some (h.nxt, 0)) n (some n) 1, h.add (.cells ((List.replicate n false).map AV.bool) true)) := by
    simp only [makeSliceA, ht, T_4]
    rw [if_pos (by omega), Int.toNat_natCast, Nat.mul_one, zero_bools]
  exact OBk_of e k
theorem bits_new {h : Heap} {n : Nat} : Bits (h.add (.cells ((List.replicate n false).map AV.bool) true)) h.nxt (.slc (some (h.nxt, 0)) n (some n) 1) (List.replicate n false) := ⟨by simp, by simp, get_add_self⟩
theorem has_new {n i : Nat} : ¬ has (List.replicate n false) i := by unfold has; rw [List.getElem?_replicate]; split <;> simp

theorem nLongest_uf {h : Heap} {G : List St} {l : AV} {s : List UInt8} (sl : Lst h l G) (hp : 0 < G.length) (hw : wt G ≤ 1000000) (hs : s.length ≤ 100000) (hf : ∀ x ∈ G, x.fin ≤ 1000000) :
    UF T F 31 [l, .str s] h fun v' h' => Ext h h' ∧ ∃ k n ok, v' = .tup [.int .i64 (k : Nat), .int .i64 (n : Nat), .bool ok] ∧ Best G s s.length k n ok := by
  obtain ⟨la, ln, lc, lz, rfl, hln⟩ := sl.form
  have hgl := wt_len G
  refine UF.gen fun Q hQ => UF.of (F_31) (c := _) rfl ?_
  unfold Try.f31
  simp only [List.length, Nat.reduceSub, Nat.reduceAdd, List.replicate, List.cons_append, List.nil_append]
  simp (disch := omega) only [go_sem, seval]
  refine mk_bits T_119 (by omega) ?_
  have e1 : Ext h (h.add (.cells ((List.replicate ln false).map AV.bool) true)) := Ext.add _ _
  simp (disch := omega) only [go_sem, seval]
  refine callV_ofU F_55 rfl ((add_uf (sl.ext e1) (bits_new (n := ln)) (by simp; omega) hw (fun i x j h1 => absurd h1 has_new)).mono ?_)
  rintro v2 h2 ⟨u2, bs0, B0, hl0, hs0, hb0⟩
  simp (disch := omega) only [go_sem, seval]
  have e2 : Ext h h2 := ((e1.upd (h.nxt ≤ ·)).trans (u2.weak fun b _ e => by omega)).ext fun b hb => by omega
  have B0' : Bits h2 h.nxt (.slc (some (h.nxt, 0)) ln (some ln) 1) bs0 := B0
  have hlive0 : ∀ q, has bs0 q ↔ Live G (s.take 0) q := fun q => by
    rw [hb0, List.take_zero]
    constructor
    · rintro (h1 | ⟨h1, k, n, h2, W⟩)
      · exact absurd h1 has_new
      · have : k = 0 := by omega
        subst this; exact ⟨h1, n, W⟩
    · rintro ⟨h1, n, W⟩; exact .inr ⟨h1, 0, n, rfl, W⟩
  refine LoopU_while (fun m st hh => ∃ (i sb : Nat) (bs : List Bool) (k n : Nat) (ok : Bool), i ≤ s.length ∧ m = s.length - i ∧ h.nxt ≤ sb ∧ Bits hh sb (.slc (some (sb, 0)) ln (some ln) 1) bs ∧ bs.length = G.length ∧ (∀ q, has bs q ↔ Live G (s.take i) q) ∧ Best G s i k n ok ∧ Ext h hh ∧
      Keep st 79 [(0, .slc la ln lc lz), (1, .str s), (4, .int .i64 (k : Nat)), (5, .int .i64 (n : Nat)), (6, .bool ok), (7, .slc (some (sb, 0)) ln (some ln) 1), (21, .int .i64 (s.length : Nat)), (22, .int .i64 (i : Nat))]) s.length
    ⟨0, h.nxt, bs0, 0, 0, false, by omega, by omega, Nat.le_refl _, B0', hl0, hlive0, .inl ⟨rfl, rfl, rfl, fun j h1 h2 => by omega⟩, e2, rfl, by simp [Has]⟩ ?_
  rintro m st hh ⟨i, sb, bs, k, n, ok, hi, rfl, hsb, B, hbl, hlive, hbest, eh, hk⟩
  rw [hk.eq]
  obtain ⟨k0, k1, k4, k5, k6, k7, k21, k22, -⟩ := hk.2
  simp only [slotsFrom, Nat.reduceAdd] at k0 k1 k4 k5 k6 k7 k21 k22 ⊢
  simp only [k0, k1, k4, k5, k6, k7, k21, k22]
  have slj := sl.ext eh
  simp (disch := omega) only [go_sem, seval]
  by_cases hlt : (i : Int) < (s.length : Int)
  · simp (disch := omega) only [go_sem, seval, hlt]
    refine mk_bits T_119 (by omega) ?_
    simp (disch := omega) only [go_sem, seval]
    have hil : i < s.length := by omega
    have en : Ext hh (hh.add (.cells ((List.replicate ln false).map AV.bool) true)) := Ext.add _ _
    have hnb : sb ≠ hh.nxt := by have := B.2.1; omega
    have hnh := eh.nxt
    generalize hb9 : hh.nxt = nb at *
    have Bn : Bits (hh.add (.cells ((List.replicate ln false).map AV.bool) true)) nb (.slc (some (nb, 0)) ln (some ln) 1) (List.replicate ln false) := by rw [← hb9]; exact bits_new
    refine LoopU_while (fun m st h2 => ∃ (j : Nat) (bs2 : List Bool), j ≤ G.length ∧ m = G.length - j ∧ Bits h2 nb (.slc (some (nb, 0)) ln (some ln) 1) bs2 ∧ bs2.length = G.length ∧ Shut G bs2 [] ∧ (∀ q, has bs2 q ↔ ∃ p x, p < j ∧ has bs p ∧ G[p]? = some x ∧ (x.lo ≤ s[i] ∧ s[i] ≤ x.hi) ∧ Eps G x.next q) ∧ Ext hh h2 ∧
        Keep st 79 [(0, .slc la ln lc lz), (1, .str s), (4, .int .i64 (k : Nat)), (5, .int .i64 (n : Nat)), (6, .bool ok), (7, .slc (some (sb, 0)) ln (some ln) 1), (8, .int .i64 (i : Nat)), (9, .slc (some (nb, 0)) ln (some ln) 1), (21, .int .i64 (s.length : Nat)), (22, .int .i64 (i : Nat)), (28, .slc (some (sb, 0)) ln (some ln) 1), (29, .int .i64 (ln : Nat)), (30, .int .i64 (j : Nat))]) G.length
      ⟨0, List.replicate ln false, by omega, by omega, Bn, by simp; omega, fun i x j h1 => absurd h1 has_new, fun q => ⟨fun h1 => absurd h1 has_new, fun ⟨p, x, h1, _⟩ => by omega⟩, en, rfl, by simp [Has]⟩ ?_
    rintro m st h2' ⟨j, bs2, hj, rfl, B2, hbl2, hsh2, hlive2, eh2, hk⟩
    rw [hk.eq]
    obtain ⟨k0, k1, k4, k5, k6, k7, k8, k9, k21, k22, k28, k29, k30, -⟩ := hk.2
    simp only [slotsFrom, Nat.reduceAdd] at k0 k1 k4 k5 k6 k7 k8 k9 k21 k22 k28 k29 k30 ⊢
    simp only [k0, k1, k4, k5, k6, k7, k8, k9, k21, k22, k28, k29, k30]
    have sl2 := slj.ext eh2
    have Bs2 : Bits h2' sb (.slc (some (sb, 0)) ln (some ln) 1) bs := B.upd (eh2.upd fun _ => False) fun f => f
    simp (disch := omega) only [go_sem, seval]
    by_cases hjlt : (j : Int) < (ln : Int)
    · have hjl : j < G.length := by omega
      have hjb : j < bs.length := by omega
      have g := Bs2.2.2
      have hgi : (bs.map AV.bool)[j * 1]? = some (.bool bs[j]) := by rw [Nat.mul_one, List.getElem?_map, List.getElem?_eq_getElem hjb]; rfl
      obtain ⟨gb, go, gcs, gl, rfl, rfl, hgb, hgg, ⟨fv, rfl, sf⟩, hgr, hgt', hgc⟩ := sl2.at_ (i := j) (x := G[j]) (List.getElem?_eq_getElem hjl) (k := 5) rfl
      obtain ⟨fa, fn, fc, fz, rfl, hfn⟩ := sf.form
      simp (disch := omega) only [go_sem, seval, hjlt, g, Int.toNat_natCast, hgi, hgg, hgr, hgt']
      have e3 : Ext h2' ((h2'.add (.cells [.int .u8 0, .int .u8 0, .int .i64 0, .slc none 0 (some 0) 0, .int .i64 0] true)).put h2'.nxt (.cells [.int .u8 G[j].lo.toNat, .int .u8 G[j].hi.toNat, .int .i64 G[j].next, .slc fa fn fc fz, .int .i64 G[j].fin] true)) := (Ext.add _ _).put (Nat.le_refl _)
      have g3 : ((h2'.add (.cells [.int .u8 0, .int .u8 0, .int .i64 0, .slc none 0 (some 0) 0, .int .i64 0] true)).put h2'.nxt (.cells [.int .u8 G[j].lo.toNat, .int .u8 G[j].hi.toNat, .int .i64 G[j].next, .slc fa fn fc fz, .int .i64 G[j].fin] true)).get h2'.nxt = some (.cells [.int .u8 G[j].lo.toNat, .int .u8 G[j].hi.toNat, .int .i64 G[j].next, .slc fa fn fc fz, .int .i64 G[j].fin] true) := get_put_self
      have n3 : h2'.nxt < ((h2'.add (.cells [.int .u8 0, .int .u8 0, .int .i64 0, .slc none 0 (some 0) 0, .int .i64 0] true)).put h2'.nxt (.cells [.int .u8 G[j].lo.toNat, .int .u8 G[j].hi.toNat, .int .i64 G[j].next, .slc fa fn fc fz, .int .i64 G[j].fin] true)).nxt := by simp
      generalize ((h2'.add (.cells [.int .u8 0, .int .u8 0, .int .i64 0, .slc none 0 (some 0) 0, .int .i64 0] true)).put h2'.nxt (.cells [.int .u8 G[j].lo.toNat, .int .u8 G[j].hi.toNat, .int .i64 G[j].next, .slc fa fn fc fz, .int .i64 G[j].fin] true)) = h3 at e3 g3 n3 ⊢
      have hG : G[j]? = some G[j] := List.getElem?_eq_getElem hjl
      have hhas : has bs j ↔ bs[j] = true := by unfold has; rw [List.getElem?_eq_getElem hjb]; simp
      have hsi : s[i]? = some s[i] := List.getElem?_eq_getElem hil
      have hskip : ¬ (has bs j ∧ G[j].lo ≤ s[i] ∧ s[i] ≤ G[j].hi) → ∀ q, has bs2 q ↔ ∃ p x, p < j + 1 ∧ has bs p ∧ G[p]? = some x ∧ (x.lo ≤ s[i] ∧ s[i] ≤ x.hi) ∧ Eps G x.next q := by
        intro hno q
        rw [hlive2]
        constructor
        · rintro ⟨p, x, h1, h2⟩; exact ⟨p, x, by omega, h2⟩
        · rintro ⟨p, x, h1, h2, h3, h4, h5⟩
          by_cases hpj : p = j
          · subst hpj
            rw [hG] at h3; simp only [Option.some.injEq] at h3; subst h3
            exact absurd ⟨h2, h4⟩ hno
          · exact ⟨p, x, by omega, h2, h3, h4, h5⟩
      have eb : Ext hh (h3.bump 17) := (eh2.trans e3).trans (Ext.bump _ _)
      have B3 : Bits (h3.bump 17) nb (.slc (some (nb, 0)) ln (some ln) 1) bs2 := B2.upd ((e3.trans (Ext.bump _ _)).upd fun _ => False) fun f => f
      cases hbv : bs[j] with
      | false =>
        refine DrawU_quiet (by rfl) ?_
        simp (disch := omega) only [go_sem, seval]
        exact AgainK.mk (G.length - (j + 1)) (by simp only; omega) ⟨j + 1, bs2, by omega, rfl, B3, hbl2, hsh2, hskip fun h1 => by rw [hhas, hbv] at h1; simp at h1, eb, rfl, by simp [Has]⟩
      | true =>
        by_cases q1 : ((s[i].toNat : Nat) : Int) ≥ (G[j].lo.toNat : Nat)
        · by_cases q2 : ((s[i].toNat : Nat) : Int) ≤ (G[j].hi.toNat : Nat)
          · skip
            refine DrawU_quiet (by rfl) ?_
            simp (disch := omega) only [go_sem, seval, g3, hlt, Int.toNat_natCast, hsi, q1, q2]
            have sl3 := sl2.ext (e3.trans (Ext.bump _ 17))
            refine callV_ofU F_55 rfl ((add_uf sl3 B3 hbl2 hw hsh2).mono ?_)
            rintro v4 h4 ⟨u4, bs4, B4, hl4, hs4, hb4⟩
            simp (disch := omega) only [go_sem, seval]
            have e4 : Ext hh h4 := ((eb.upd (nb ≤ ·)).trans (u4.weak fun b _ e => by omega)).ext fun b hb => by omega
            refine AgainK.mk (G.length - (j + 1)) (by simp only; omega) ⟨j + 1, bs4, by omega, rfl, B4, hl4, hs4, fun q => ?_, e4, rfl, by simp [Has]⟩
            rw [hb4, hlive2]
            constructor
            · rintro (⟨p, x, h1, h2⟩ | h1)
              · exact ⟨p, x, by omega, h2⟩
              · exact ⟨j, G[j], by omega, hhas.2 hbv, hG, ⟨UInt8.le_iff_toNat_le.2 (by omega), UInt8.le_iff_toNat_le.2 (by omega)⟩, h1⟩
            · rintro ⟨p, x, h1, h2, h3, h4, h5⟩
              by_cases hpj : p = j
              · subst hpj
                rw [hG] at h3; simp only [Option.some.injEq] at h3; subst h3
                exact .inr h5
              · exact .inl ⟨p, x, by omega, h2, h3, h4, h5⟩
          · skip
            refine DrawU_quiet (by rfl) ?_
            simp (disch := omega) only [go_sem, seval, g3, hlt, Int.toNat_natCast, hsi, q1, q2]
            exact AgainK.mk (G.length - (j + 1)) (by simp only; omega) ⟨j + 1, bs2, by omega, rfl, B3, hbl2, hsh2, hskip fun h1 => q2 (by have := UInt8.le_iff_toNat_le.1 h1.2.2; omega), eb, rfl, by simp [Has]⟩
        · skip
          refine DrawU_quiet (by rfl) ?_
          simp (disch := omega) only [go_sem, seval, g3, hlt, Int.toNat_natCast, hsi, q1]
          exact AgainK.mk (G.length - (j + 1)) (by simp only; omega) ⟨j + 1, bs2, by omega, rfl, B3, hbl2, hsh2, hskip fun h1 => q1 (by have := UInt8.le_iff_toNat_le.1 h1.2.1; omega), eb, rfl, by simp [Has]⟩
    · have hjn : j = G.length := by omega
      subst hjn
      simp (disch := omega) only [go_sem, seval, hjlt]
      have hnext : ∀ q, has bs2 q ↔ Live G (s.take (i + 1)) q := fun q => by
        rw [List.take_add_one, List.getElem?_eq_getElem hil, Option.toList_some, live_next, hlive2]
        constructor
        · rintro ⟨p, x, h1, h2, h3⟩; exact ⟨p, x, (hlive p).1 h2, h3⟩
        · rintro ⟨p, x, h1, h2, h3⟩; exact ⟨p, x, (List.getElem?_eq_some_iff.1 h2).1, (hlive p).2 h1, h2, h3⟩
      refine callV_ofU F_56 rfl ((contains_uf B2 (by omega)).mono ?_)
      rintro v5 h5 ⟨e5, y, rfl, hy⟩
      simp (disch := omega) only [go_sem, seval]
      cases y with
      | false =>
        have hno : ∀ q, ¬ Live G (s.take (i + 1)) q := fun q h1 => by
          have := hy.2 ⟨q, (hnext q).2 h1⟩
          simp at this
        have hnone : ∀ j, i < j → EndL G (s.take j) 0 := fun j hj' => .inl ⟨rfl, fun q x h1 _ => by
          have e : s.take j = s.take (i + 1) ++ (s.drop (i + 1)).take (j - (i + 1)) := by
            rw [← List.take_add]; congr 1; omega
          rw [e] at h1
          obtain ⟨p, h2⟩ := live_front _ _ rfl h1
          exact absurd h2 (hno p)⟩
        simp (disch := omega) only [go_sem, seval]
        refine hQ _ _ ⟨(eh.trans eh2).trans e5, k, n, ok, rfl, ?_⟩
        rcases hbest with ⟨h1, h2, h3, h4⟩ | ⟨h1, h2, h3, h4, h5⟩
        · exact .inl ⟨h1, h2, h3, fun j h6 h7 => if h8 : j ≤ i then h4 j h6 h8 else hnone j (by omega)⟩
        · exact .inr ⟨h1, h2, by omega, h4, fun j h6 h7 => if h8 : j ≤ i then h5 j h6 h8 else hnone j (by omega)⟩
      | true =>
        simp (disch := omega) only [go_sem, seval]
        have B5 : Bits h5 nb (.slc (some (nb, 0)) ln (some ln) 1) bs2 := B2.upd (e5.upd fun _ => False) fun f => f
        refine callV_ofU F_57 rfl ((end_uf (sl2.ext e5) B5 hbl2 hw).mono ?_)
        rintro v6 h6 ⟨e6, e, rfl, hE⟩
        simp (disch := omega) only [go_sem, seval]
        have hEL : EndL G (s.take (i + 1)) e := by
          rcases hE with ⟨h1, h2⟩ | ⟨h1, ⟨q, x, h2, h3, h4⟩, h5⟩
          · exact .inl ⟨h1, fun q x h3 h4 => h2 q x (List.getElem?_eq_some_iff.1 h4).1 ((hnext q).2 h3) h4⟩
          · exact .inr ⟨h1, ⟨q, x, (hnext q).1 h2, h3, h4⟩, fun q x h3 h4 h6 => h5 q x (List.getElem?_eq_some_iff.1 h4).1 ((hnext q).2 h3) h4 h6⟩
        have eAll : Ext h h6 := ((eh.trans eh2).trans e5).trans e6
        have B6 : Bits h6 nb (.slc (some (nb, 0)) ln (some ln) 1) bs2 := B5.upd (e6.upd fun _ => False) fun f => f
        by_cases he : (e : Int) > 0
        · obtain ⟨e, rfl⟩ : ∃ e', e = e' + 1 := ⟨e - 1, by omega⟩
          have hb : e + 1 ≤ 1000000 := by
            rcases hE with ⟨h1, _⟩ | ⟨_, ⟨q, x, _, h3, h4⟩, _⟩
            · omega
            · have := hf x (List.mem_of_getElem? h3); omega
          have he1 : (((e + 1 : Nat) : Int) - 1) = (e : Nat) := by omega
          simp (disch := omega) only [go_sem, seval, he, he1]
          refine AgainK.mk (s.length - (i + 1)) (by simp only; omega) ⟨i + 1, nb, bs2, e, i + 1, true, by omega, rfl, by omega, B6, hbl2, hnext, .inr ⟨rfl, by omega, by omega, hEL, fun j h1 h2 => by omega⟩, eAll, rfl, by simp [Has]⟩
        · have he0 : e = 0 := by omega
          subst he0
          simp (disch := omega) only [go_sem, seval]
          refine AgainK.mk (s.length - (i + 1)) (by simp only; omega) ⟨i + 1, nb, bs2, k, n, ok, by omega, rfl, by omega, B6, hbl2, hnext, ?_, eAll, rfl, by simp [Has]⟩
          rcases hbest with ⟨h1, h2, h3, h4⟩ | ⟨h1, h2, h3, h4, h5⟩
          · exact .inl ⟨h1, h2, h3, fun j h6 h7 => if h8 : j ≤ i then h4 j h6 h8 else by rw [show j = i + 1 by omega]; exact hEL⟩
          · exact .inr ⟨h1, h2, by omega, h4, fun j h6 h7 => if h8 : j ≤ i then h5 j h6 h8 else by rw [show j = i + 1 by omega]; exact hEL⟩
  · have : i = s.length := by omega
    subst this
    simp (disch := omega) only [go_sem, seval, hlt]
    exact hQ _ _ ⟨eh, k, n, ok, rfl, hbest⟩

end Go.Proofs.Ytenpjkinpecnfaa

/-
  Layer nfa: the longest front, told of patterns.
-/
namespace Go.Proofs.Ytenpjkinpecnfaa
open Go Go.Am
set_option maxRecDepth 100000
set_option linter.unusedSimpArgs false
set_option linter.unusedVariables false

/-- A pattern, by its number, has a word. -/
def HasR (es : List Rx) (w : List UInt8) (m : Nat) : Prop := ∃ e, es[m]? = some e ∧ Lang e w
/-- The longest front, and the first pattern that has it. -/
def BestR (es : List Rx) (s : List UInt8) (k n : Nat) (ok : Bool) : Prop :=
  (ok = false ∧ k = 0 ∧ n = 0 ∧ ∀ j, 0 < j → j ≤ s.length → ∀ m, ¬ HasR es (s.take j) m) ∨
  (ok = true ∧ 0 < n ∧ n ≤ s.length ∧ HasR es (s.take n) k ∧ (∀ m, m < k → ¬ HasR es (s.take n) m) ∧ ∀ j, n < j → j ≤ s.length → ∀ m, ¬ HasR es (s.take j) m)

theorem EndL.none {G : List St} {es : List Rx} (A : Auto G es) {w : List UInt8} (h : EndL G w 0) (m : Nat) : ¬ HasR es w m := by
  intro hm
  obtain ⟨n, q, x, W, hx, hf⟩ := A.acc.2 hm
  rcases h with ⟨_, h⟩ | ⟨h, _⟩
  · have := h q x ⟨(List.getElem?_eq_some_iff.1 hx).1, n, W⟩ hx
    omega
  · omega
theorem EndL.some {G : List St} {es : List Rx} (A : Auto G es) {w : List UInt8} {k : Nat} (h : EndL G w (k + 1)) : HasR es w k ∧ ∀ m, m < k → ¬ HasR es w m := by
  rcases h with ⟨h, _⟩ | ⟨_, ⟨q, x, ⟨hq, n, W⟩, hx, hf⟩, h⟩
  · omega
  · refine ⟨A.acc.1 ⟨n, q, x, W, hx, hf⟩, fun m hm h2 => ?_⟩
    obtain ⟨n2, q2, x2, W2, hx2, hf2⟩ := A.acc.2 h2
    have := h q2 x2 ⟨(List.getElem?_eq_some_iff.1 hx2).1, n2, W2⟩ hx2 (by omega)
    omega
theorem Best.patterns {G : List St} {es : List Rx} (A : Auto G es) {s : List UInt8} {k n : Nat} {ok : Bool} (h : Best G s s.length k n ok) : BestR es s k n ok := by
  rcases h with ⟨h1, h2, h3, h4⟩ | ⟨h1, h2, h3, h4, h5⟩
  · exact .inl ⟨h1, h2, h3, fun j j1 j2 => (h4 j j1 j2).none A⟩
  · exact .inr ⟨h1, h2, h3, (h4.some A).1, (h4.some A).2, fun j j1 j2 => (h5 j j1 j2).none A⟩
theorem BestR.unique {es : List Rx} {s : List UInt8} {k n k2 n2 : Nat} {ok ok2 : Bool} (h : BestR es s k n ok) (h2 : BestR es s k2 n2 ok2) : k = k2 ∧ n = n2 ∧ ok = ok2 := by
  rcases h with ⟨rfl, rfl, rfl, h⟩ | ⟨rfl, a1, a2, a3, a4, a5⟩ <;> rcases h2 with ⟨rfl, rfl, rfl, h2⟩ | ⟨rfl, b1, b2, b3, b4, b5⟩
  · exact ⟨rfl, rfl, rfl⟩
  · exact absurd b3 (h _ b1 b2 _)
  · exact absurd a3 (h2 _ a1 a2 _)
  · have e : n = n2 := by
      rcases Nat.lt_trichotomy n n2 with l | l | l
      · exact absurd b3 (a5 _ l b2 _)
      · exact l
      · exact absurd a3 (b5 _ l a2 _)
    subst e
    refine ⟨?_, rfl, rfl⟩
    rcases Nat.lt_trichotomy k k2 with l | l | l
    · exact absurd a3 (b4 _ l)
    · exact l
    · exact absurd b3 (a4 _ l)

/-- A word of a pattern has no byte below 32. -/
theorem Lang.ge {e : Rx} (h : e.ok) : ∀ {w : List UInt8}, Lang e w → ∀ c ∈ w, 32 ≤ c.toNat := by
  induction e with
  | cls l =>
    rintro w ⟨c, rfl, r, hr, h1, h2⟩ d hd
    obtain rfl := List.mem_singleton.1 hd
    have := (h.2 r hr).2.1
    have := UInt8.le_iff_toNat_le.1 h1
    omega
  | bin op x y ix iy =>
    rintro w (⟨_, u, v, rfl, h1, h2⟩ | ⟨_, h1 | h1⟩) d hd
    · rcases List.mem_append.1 hd with hd | hd
      · exact ix h.2.1 h1 d hd
      · exact iy h.2.2 h2 d hd
    · exact ix h.2.1 h1 d hd
    · exact iy h.2.2 h1 d hd
  | rep op x ix =>
    rintro w (⟨rfl, _⟩ | ⟨_, h1⟩ | ⟨_, h1⟩) d hd
    · cases hd
    · exact ix h.2 h1 d hd
    · induction h1 with
      | one h1 => exact ix h.2 h1 d hd
      | more h1 _ ih =>
        rcases List.mem_append.1 hd with hd | hd
        · exact ix h.2 h1 d hd
        · exact ih hd

end Go.Proofs.Ytenpjkinpecnfaa
