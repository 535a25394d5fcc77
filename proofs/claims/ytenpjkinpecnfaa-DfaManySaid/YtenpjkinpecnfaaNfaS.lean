/-
  Layer nfa: sets of states.
-/
import Derived.Test.YtenpjkinpecnfaaNfaL
import Derived.Test.YtenpjkinpecnfaaAmSt
import Derived.KernelRfl
namespace Go.Proofs.Ytenpjkinpecnfaa
open Go Go.Am
set_option maxRecDepth 100000
set_option maxHeartbeats 4000000
set_option linter.unusedSimpArgs false
set_option linter.unusedVariables false

/-- A set of our own, in its block. -/
def Bits (h : Heap) (b : Nat) (v : AV) (bs : List Bool) : Prop := v = .slc (some (b, 0)) bs.length (some bs.length) 1 ∧ b < h.nxt ∧ h.get b = some (.cells (bs.map AV.bool) true)
theorem Bits.upd {h h' : Heap} {b : Nat} {v : AV} {bs : List Bool} {S : Nat → Prop} (B : Bits h b v bs) (u : Upd S h h') (hS : ¬ S b) : Bits h' b v bs := ⟨B.1, Nat.lt_of_lt_of_le B.2.1 u.nxt, (u.get b B.2.1 hS).trans B.2.2⟩

theorem reps_int {h : Heap} : ∀ {xs : List Nat} {ls : List (List AV)}, Reps h xs ls → Reps h (xs.map fun (x : Nat) => (x : Int)) ls
  | [], _, .nil => .nil
  | x :: xs, _, .cons a b => .cons a (reps_int b)
theorem lst_int {h : Heap} {v : AV} {xs : List Nat} (s : Lst h v xs) : LSlc h v (xs.map fun (x : Nat) => (x : Int)) := by
  obtain ⟨ls, a, b⟩ := s
  exact ⟨ls, a.slc, reps_int b⟩

/-- What is come to with nothing, from one of those. -/
def Eps (G : List St) (a : Int) (i : Nat) : Prop := i < G.length ∧ ∃ (k n : Nat), a = (k : Int) ∧ Way G n k [] i
def has (bs : List Bool) (i : Nat) : Prop := bs[i]? = some true
/-- What they come to in one step with nothing is in the set, or is yet to do. -/
def Shut (G : List St) (bs : List Bool) (todo : List Int) : Prop := ∀ (i : Nat) (x : St) (j : Nat), has bs i → G[i]? = some x → j ∈ x.free → j < G.length → has bs j ∨ (j : Int) ∈ todo
/-- How much is to do. -/
def left : List St → List Bool → Nat
  | x :: G, b :: bs => (if b then 0 else 1 + x.free.length) + left G bs
  | _, _ => 0
theorem left_set : ∀ {G : List St} {bs : List Bool} {i : Nat} {x : St}, G[i]? = some x → bs[i]? = some false → left G (bs.set i true) + (1 + x.free.length) = left G bs
  | [], _, _, _, h, _ => by simp at h
  | _ :: _, [], _, _, _, h => by simp at h
  | y :: G, b :: bs, 0, x, h1, h2 => by
    simp at h1 h2; subst h1; subst h2
    simp [left]; omega
  | y :: G, b :: bs, i + 1, x, h1, h2 => by
    have := left_set (G := G) (bs := bs) (i := i) (x := x) (by simpa using h1) (by simpa using h2)
    simp only [left, List.set_cons_succ]; omega
theorem left_le : ∀ (G : List St) (bs : List Bool), left G bs ≤ wt G
  | [], bs => by simp [left]
  | x :: G, [] => by simp [left]
  | x :: G, b :: bs => by
    have := left_le G bs
    have e : wt (x :: G) = 1 + x.free.length + wt G := rfl
    rw [e, left]
    split <;> omega
theorem way_last {G : List St} {n a i : Nat} {w : List UInt8} (h : Way G n a w i) {x : St} (hx : G[i]? = some x) {j : Nat} (hj : j ∈ x.free) : Way G (n + 1) a w j := by
  have := h.app (.eps hx hj .nil : Way G 1 i [] j)
  rwa [List.append_nil] at this
theorem shut_way {G : List St} {bs : List Bool} (hs : Shut G bs []) {n a i : Nat} (h : Way G n a [] i) (ha : has bs a) (hi : i < G.length) : has bs i := by
  generalize hw : ([] : List UInt8) = w at h
  induction h with
  | nil => exact ha
  | @eps a' b' c' n' w' x' hx hb t ih =>
    have hbl : b' < G.length := by
      cases t with
      | nil => exact hi
      | eps hx' _ _ => exact (List.getElem?_eq_some_iff.1 hx').1
      | chr hx' _ _ _ _ => exact (List.getElem?_eq_some_iff.1 hx').1
    rcases hs _ _ _ ha hx hb hbl with h1 | h1
    · exact ih h1 hi hw
    · simp at h1
  | chr => cases hw

theorem has_set {bs : List Bool} {i j : Nat} (hi : i < bs.length) : has (bs.set i true) j ↔ has bs j ∨ j = i := by
  unfold has
  by_cases h : i = j
  · subst h; rw [List.getElem?_set_self hi]; simp
  · rw [List.getElem?_set_ne h]
    exact ⟨.inl, fun h1 => h1.elim id fun e => absurd e.symm h⟩
theorem add_uf {h : Heap} {G : List St} {l s : AV} {bs : List Bool} {sb : Nat} {a : Int} (sl : Lst h l G) (B : Bits h sb s bs) (hlen : bs.length = G.length) (hw : wt G ≤ 1000000) (hs : Shut G bs []) :
    UF T F 55 [s, l, .int .i64 a] h fun _ h' => Upd (· = sb) h h' ∧ ∃ bs', Bits h' sb s bs' ∧ bs'.length = G.length ∧ Shut G bs' [] ∧ ∀ i, has bs' i ↔ has bs i ∨ Eps G a i := by
  obtain ⟨la, ln, lc, lz, rfl, hln⟩ := sl.form
  obtain ⟨rfl, hsb, hsg⟩ := B
  have hgl := wt_len G
  refine UF.gen fun Q hQ => UF.of (F_55) (c := _) rfl ?_
  unfold Try.f55
  simp only [List.length, Nat.reduceSub, Nat.reduceAdd, List.replicate, List.cons_append, List.nil_append]
  simp (disch := first | ((try simp only [heapN]) <;> omega) | fail) only [go_sem, seval]
  have e1 : Ext h (h.add (.cells [.int .i64 a] true)) := Ext.add _ _
  have S0 : LStk (α := Int) h.nxt (h.add (.cells [.int .i64 a] true)) (.slc (some (h.nxt, 0)) 1 (some 1) 1) [a] := stk_lit (ls := [[.int .i64 a]]) (by simp) (Nat.le_refl _) get_add_self rfl (Reps.one rfl) rfl rfl
  have hle := left_le G bs
  refine LoopU_while (fun m st hh => ∃ (v : AV) (todo : List Int) (bs' : List Bool), m = left G bs' + todo.length ∧ bs'.length = bs.length ∧ LStk h.nxt hh v todo ∧ hh.get sb = some (.cells (bs'.map AV.bool) true) ∧ Upd (· = sb) h hh ∧ left G bs' + todo.length ≤ 1000001 ∧
      Shut G bs' todo ∧ (∀ i, has bs' i → has bs i ∨ Eps G a i) ∧ (∀ i, has bs i → has bs' i) ∧ (∀ j ∈ todo, ∀ i : Nat, i < G.length → j = (i : Int) → Eps G a i) ∧ (∀ i : Nat, i < G.length → a = (i : Int) → has bs' i ∨ a ∈ todo) ∧
      Keep st 48 [(0, .slc (some (sb, 0)) bs.length (some bs.length) 1), (1, .slc la ln lc lz), (6, v)]) (left G bs + 1)
    ⟨_, [a], bs, rfl, rfl, S0, (get_add_lt hsb).trans hsg, e1.upd _, by simp; omega,
      fun i x j h1 h2 h3 h4 => (hs i x j h1 h2 h3 h4).imp id (by simp), fun i h => .inl h, fun i h => h, fun j hj i hi e => ⟨hi, i, 0, by simp at hj; omega, .nil⟩, fun i _ _ => .inr (by simp), rfl, by simp [Has]⟩ ?_
  rintro m st hh ⟨v, todo, bs', rfl, hbl, S, g, u, hb, hsh, hin, hold, hrch, hst, hk⟩
  obtain ⟨va, vn, vc, vz, rfl, hvn⟩ := S.form
  rw [hk.eq]
  obtain ⟨k0, k1, k6, -⟩ := hk.2
  simp only [slotsFrom, Nat.reduceAdd] at k0 k1 k6 ⊢
  simp only [k0, k1, k6]
  have slj := sl.pst u.pst
  simp (disch := first | ((try simp only [heapN]) <;> omega) | fail) only [go_sem, seval]
  by_cases hgt : (vn : Int) > 0
  · obtain ⟨d, rfl⟩ : ∃ d, vn = d + 1 := ⟨vn - 1, by omega⟩
    have hd1 : ((d + 1 : Nat) : Int) - 1 = (d : Nat) := by omega
    have hd2 : (d : Int) < (d + 1 : Nat) := by omega
    have hdl : d < todo.length := by omega
    obtain ⟨rb, ro, rcs, rw_, rl, rfl, rfl, hrb, hrg, rfl, hrr, hrt, hrc⟩ := S.slc.at_ (i := d) (x := todo[d]) (List.getElem?_eq_getElem hdl) (k := 1) rfl
    have hrc0 := hrc 0 (by decide)
    simp only [Nat.add_zero, List.getElem?_cons_zero] at hrc0
    simp (disch := first | ((try simp only [heapN]) <;> omega) | fail) only [go_sem, seval, hgt, hd1, hd2, hrg, Int.toNat_natCast, hrc0]
    refine stk_hi (i := d) T_49 rfl T_3 rfl S (by omega) (by omega) ?_
    intro v2 S2 b2
    obtain ⟨va, vn, vc, vz, rfl, hvn2⟩ := S2.form
    simp (disch := first | ((try simp only [heapN]) <;> omega) | fail) only [go_sem, seval]
    have htd : todo = todo.take d ++ [todo[d]] := by
      have := List.take_append_drop d todo
      rw [List.drop_eq_getElem_cons hdl, List.drop_of_length_le (by omega)] at this
      exact this.symm
    have hmem : ∀ j, j ∈ todo ↔ j ∈ todo.take d ∨ j = todo[d] := fun j => (iff_of_eq (congrArg (fun l => j ∈ l) htd)).trans (List.mem_append.trans (or_congr Iff.rfl List.mem_singleton))
    have hl2 : (todo.take d).length = d := by simp; omega
    rw [hl2] at hvn2
    generalize hq : todo.take d = td at *
    generalize todo[d] = t at *
    have skip : ¬ (t ≥ 0 ∧ t < (ln : Int) ∧ bs'[t.toNat]? = some false) → ∀ j : Nat, j < G.length → (j : Int) = t → has bs' j := by
      rintro h1 j hj rfl
      simp only [Int.toNat_natCast] at h1
      have hj2 : j < bs'.length := by omega
      cases hv : bs'[j] with
      | true => exact List.getElem?_eq_some_iff.2 ⟨hj2, hv⟩
      | false => exact absurd ⟨by omega, by omega, List.getElem?_eq_some_iff.2 ⟨hj2, hv⟩⟩ h1
    have again : ∀ (h2 : Heap) (s2 : List AV), ¬ (t ≥ 0 ∧ t < (ln : Int) ∧ bs'[t.toNat]? = some false) → h2 = hh → Keep s2 48 [(0, .slc (some (sb, 0)) bs.length (some bs.length) 1), (1, .slc la ln lc lz), (6, .slc va vn vc vz)] →
        @AgainK ⟨s2, [], h2⟩ ⟨left G bs' + todo.length, fun m st hh => ∃ (v : AV) (todo : List Int) (bs' : List Bool), m = left G bs' + todo.length ∧ bs'.length = bs.length ∧ LStk h.nxt hh v todo ∧ hh.get sb = some (.cells (bs'.map AV.bool) true) ∧ Upd (· = sb) h hh ∧ left G bs' + todo.length ≤ 1000001 ∧
      Shut G bs' todo ∧ (∀ i, has bs' i → has bs i ∨ Eps G a i) ∧ (∀ i, has bs i → has bs' i) ∧ (∀ j ∈ todo, ∀ i : Nat, i < G.length → j = (i : Int) → Eps G a i) ∧ (∀ i : Nat, i < G.length → a = (i : Int) → has bs' i ∨ a ∈ todo) ∧
      Keep st 48 [(0, .slc (some (sb, 0)) bs.length (some bs.length) 1), (1, .slc la ln lc lz), (6, v)]⟩ := by
      rintro h2 s2 hn rfl hk2
      refine AgainK.mk (left G bs' + td.length) (by simp only; omega) ⟨_, td, bs', rfl, hbl, S2, g, u, by omega, fun i x j h1 h2 h3 h4 => ?_, hin, hold, fun j hj => hrch j ((hmem j).2 (.inl hj)), fun i hi e => ?_, hk2⟩
      · rcases hsh i x j h1 h2 h3 h4 with h5 | h5
        · exact .inl h5
        · rcases (hmem _).1 h5 with h6 | h6
          · exact .inr h6
          · exact .inl (skip hn j h4 h6)
      · rcases hst i hi e with h5 | h5
        · exact .inl h5
        · rcases (hmem _).1 h5 with h6 | h6
          · exact .inr h6
          · exact .inl (skip hn i hi (by omega))
    by_cases c1 : t ≥ 0
    · by_cases c2 : t < (ln : Int)
      · obtain ⟨i0, rfl⟩ : ∃ i0 : Nat, t = i0 := ⟨t.toNat, by omega⟩
        have hi0 : i0 < G.length := by omega
        have hi1 : i0 < bs'.length := by omega
        have c3 : (i0 : Int) < (bs.length : Int) := by omega
        have hgi : (bs'.map AV.bool)[i0 * 1]? = some (.bool bs'[i0]) := by rw [Nat.mul_one, List.getElem?_map, List.getElem?_eq_getElem hi1]; rfl
        simp (disch := first | ((try simp only [heapN]) <;> omega) | fail) only [go_sem, seval, c1, c2, c3, g, Int.toNat_natCast, hgi]
        cases hbv : bs'[i0] with
        | true =>
          simp (disch := first | ((try simp only [heapN]) <;> omega) | fail) only [go_sem, seval, hbv]
          exact again _ _ (fun h1 => by rw [Int.toNat_natCast, List.getElem?_eq_getElem hi1, hbv] at h1; simp at h1) rfl ⟨rfl, by simp [Has]⟩
        | false =>
          have hroom : i0 * 1 + 1 ≤ (bs'.map AV.bool).length := by simp; omega
          obtain ⟨gb, go, gcs, gl, rfl, rfl, hgb, hgg, ⟨fv, rfl, sf⟩, hgr, hgt', hgc⟩ := slj.at_ (i := i0) (x := G[i0]) (List.getElem?_eq_getElem hi0) (k := 5) rfl
          have hgc3 := hgc 3 (by decide)
          simp only [List.getElem?_cons_zero, List.getElem?_cons_succ] at hgc3
          have hne : sb ≠ gb := fun e => by rw [← e, g] at hgg; simp at hgg
          have u3 : Upd (· = sb) hh (hh.put sb (.cells ((bs'.map AV.bool).set (i0 * 1) (.bool true)) true)) := Upd.put _ rfl fun c e => by rw [g] at e; simp at e
          have hgg2 := (get_put_ne (h := hh) (x := .cells ((bs'.map AV.bool).set (i0 * 1) (.bool true)) true) hne).trans hgg
          have hset : (bs'.map AV.bool).set (i0 * 1) (.bool true) = (bs'.set i0 true).map AV.bool := by rw [Nat.mul_one, List.map_set]
          have hG : G[i0]? = some G[i0] := List.getElem?_eq_getElem hi0
          have hfm := wt_mem (List.getElem_mem hi0)
          have hls := left_set hG (bs := bs') (List.getElem?_eq_some_iff.2 ⟨hi1, hbv⟩)
          simp (disch := first | ((try simp only [heapN]) <;> omega) | fail) only [go_sem, seval, hbv, g, Int.toNat_natCast, hroom, c2, hgg, hgc3]
          have hnn := u.nxt
          refine sappend (m := h.nxt) (xs := td) (ys := G[i0].free.map fun (x : Nat) => (x : Int)) T_49 rfl T_3 rfl (by decide) (by decide) (S2.upd u3 fun b _ e e2 => ?_) (lst_int (sf.pst u3.pst)) (by simp; omega) (by simp [roomA]; omega) ?_
          · have := (S2.base_ e).1
            omega
          intro v3 h3 S3 u4 b3
          obtain ⟨wa, wn, wc, wz, rfl, hwn⟩ := S3.form
          have nb : ∀ b, (AV.slc va vn vc vz).base = some b → h.nxt ≤ b := fun b e => (S2.base_ e).1
          have g3 : h3.get sb = some (.cells ((bs'.set i0 true).map AV.bool) true) := by
            rw [u4.get sb (by simp; omega) (fun e => by have := nb _ e; omega), get_put_self, hset]
          have hit : Eps G a i0 := hrch i0 ((hmem _).2 (.inr rfl)) i0 hi0 rfl
          have hlen2 : (td ++ G[i0].free.map fun (x : Nat) => (x : Int)).length = d + G[i0].free.length := by simp [hl2]
          simp (disch := first | ((try simp only [heapN]) <;> omega) | fail) only [go_sem, seval]
          refine AgainK.mk (left G (bs'.set i0 true) + (td ++ G[i0].free.map fun (x : Nat) => (x : Int)).length) (by simp only; rw [hlen2]; omega) ⟨_, _, bs'.set i0 true, rfl, by simp [hbl], S3, g3, (u.trans u3).trans' u4 fun b e hb => by have := nb b e; omega, by rw [hlen2]; omega,
            fun i x j h1 h2 h3 h4 => ?_, fun i h1 => ?_, fun i h1 => (has_set hi1).2 (.inl (hold i h1)), fun j hj i hi e => ?_, fun i hi e => ?_, rfl, by simp [Has]⟩
          · rcases (has_set hi1).1 h1 with h5 | rfl
            · rcases hsh i x j h5 h2 h3 h4 with h6 | h6
              · exact .inl ((has_set hi1).2 (.inl h6))
              · rcases (hmem _).1 h6 with h7 | h7
                · exact .inr (by simp [h7])
                · exact .inl ((has_set hi1).2 (.inr (by omega)))
            · rw [hG] at h2
              simp only [Option.some.injEq] at h2
              subst h2
              exact .inr (List.mem_append_right _ (List.mem_map.2 ⟨j, h3, rfl⟩))
          · rcases (has_set hi1).1 h1 with h5 | rfl
            · exact hin i h5
            · exact .inr hit
          · rcases List.mem_append.1 hj with h5 | h5
            · exact hrch j ((hmem _).2 (.inl h5)) i hi e
            · obtain ⟨y, hy, rfl⟩ := List.mem_map.1 h5
              have : y = i := by omega
              subst this
              obtain ⟨_, k, n, e2, W⟩ := hit
              exact ⟨hi, k, _, e2, way_last W hG hy⟩
          · rcases hst i hi e with h5 | h5
            · exact .inl ((has_set hi1).2 (.inl h5))
            · rcases (hmem _).1 h5 with h6 | h6
              · exact .inr (by simp [h6])
              · exact .inl ((has_set hi1).2 (.inr (by omega)))
      · simp (disch := first | ((try simp only [heapN]) <;> omega) | fail) only [go_sem, seval, c1, c2]
        exact again _ _ (fun h1 => c2 h1.2.1) rfl ⟨rfl, by simp [Has]⟩
    · simp (disch := first | ((try simp only [heapN]) <;> omega) | fail) only [go_sem, seval, c1]
      exact again _ _ (fun h1 => c1 h1.1) rfl ⟨rfl, by simp [Has]⟩
  · simp (disch := first | ((try simp only [heapN]) <;> omega) | fail) only [go_sem, seval, hgt]
    have ht0 : todo = [] := List.eq_nil_of_length_eq_zero (by omega)
    subst ht0
    refine hQ _ _ ⟨u, bs', ⟨by rw [hbl], Nat.lt_of_lt_of_le hsb u.nxt, g⟩, by omega, hsh, fun i => ⟨hin i, fun h1 => ?_⟩⟩
    rcases h1 with h1 | ⟨hi, k, n, rfl, W⟩
    · exact hold i h1
    · have hkl : k < G.length := by
        generalize hww : ([] : List UInt8) = ww at W
        cases W with
        | nil => exact hi
        | eps hx' _ _ => exact (List.getElem?_eq_some_iff.1 hx').1
        | chr hx' _ _ _ _ => exact (List.getElem?_eq_some_iff.1 hx').1
      rcases hst k hkl rfl with h2 | h2
      · exact shut_way hsh W h2 hi
      · simp at h2

/-- The least kind of the first ones of a set; 0: none. -/
def EndTo (G : List St) (bs : List Bool) (n e : Nat) : Prop := (e = 0 ∧ ∀ i x, i < n → has bs i → G[i]? = some x → x.fin = 0) ∨ (0 < e ∧ (∃ i x, has bs i ∧ G[i]? = some x ∧ x.fin = e) ∧ ∀ i x, i < n → has bs i → G[i]? = some x → 0 < x.fin → e ≤ x.fin)
theorem EndTo.skip {G : List St} {bs : List Bool} {n e : Nat} (E : EndTo G bs n e) {x : St} (hx : G[n]? = some x) (h : ¬ (has bs n ∧ 0 < x.fin ∧ (e = 0 ∨ x.fin < e))) : EndTo G bs (n + 1) e := by
  rcases E with ⟨rfl, E⟩ | ⟨h0, E1, E2⟩
  · refine .inl ⟨rfl, fun i y hi hb hy => ?_⟩
    by_cases hin : i = n
    · subst hin
      rw [hx] at hy; simp only [Option.some.injEq] at hy; subst hy
      have : ¬ 0 < x.fin := fun h1 => h ⟨hb, h1, .inl rfl⟩
      omega
    · exact E i y (by omega) hb hy
  · refine .inr ⟨h0, E1, fun i y hi hb hy hp => ?_⟩
    by_cases hin : i = n
    · subst hin
      rw [hx] at hy; simp only [Option.some.injEq] at hy; subst hy
      have : ¬ x.fin < e := fun h1 => h ⟨hb, hp, .inr h1⟩
      omega
    · exact E2 i y (by omega) hb hy hp
theorem EndTo.take {G : List St} {bs : List Bool} {n e : Nat} (E : EndTo G bs n e) {x : St} (hx : G[n]? = some x) (hb : has bs n) (h1 : 0 < x.fin) (h2 : e = 0 ∨ x.fin < e) : EndTo G bs (n + 1) x.fin := by
  refine .inr ⟨h1, ⟨n, x, hb, hx, rfl⟩, fun i y hi hb' hy hp => ?_⟩
  by_cases hin : i = n
  · subst hin
    rw [hx] at hy; simp only [Option.some.injEq] at hy; subst hy
    exact Nat.le_refl _
  · rcases E with ⟨rfl, E⟩ | ⟨h0, E1, E2⟩
    · have := E i y (by omega) hb' hy; omega
    · have := E2 i y (by omega) hb' hy hp; omega

theorem end_uf {h : Heap} {G : List St} {l s : AV} {bs : List Bool} {sb : Nat} (sl : Lst h l G) (B : Bits h sb s bs) (hlen : bs.length = G.length) (hw : wt G ≤ 1000000) :
    UF T F 57 [s, l] h fun v' h' => Ext h h' ∧ ∃ e : Nat, v' = .int .i64 e ∧ EndTo G bs G.length e := by
  obtain ⟨la, ln, lc, lz, rfl, hln⟩ := sl.form
  obtain ⟨rfl, hsb, hsg⟩ := B
  have hgl := wt_len G
  refine UF.gen fun Q hQ => UF.of (F_57) (c := _) rfl ?_
  unfold Try.f57
  simp only [List.length, Nat.reduceSub, Nat.reduceAdd, List.replicate, List.cons_append, List.nil_append]
  simp (disch := first | ((try simp only [heapN]) <;> omega) | fail) only [go_sem, seval]
  refine LoopU_while (fun m st hh => ∃ (j e : Nat), j ≤ G.length ∧ m = G.length - j ∧ Ext h hh ∧ EndTo G bs j e ∧
      Keep st 37 [(0, .slc (some (sb, 0)) bs.length (some bs.length) 1), (1, .slc la ln lc lz), (4, .int .i64 (e : Nat)), (8, .slc (some (sb, 0)) bs.length (some bs.length) 1), (9, .int .i64 (bs.length : Nat)), (10, .int .i64 (j : Nat))]) G.length
    ⟨0, 0, by omega, by omega, Ext.refl _, .inl ⟨rfl, fun i x hi => by omega⟩, rfl, by simp [Has]⟩ ?_
  rintro m st hh ⟨j, e, hj, rfl, eh, E, hk⟩
  rw [hk.eq]
  obtain ⟨k0, k1, k4, k8, k9, k10, -⟩ := hk.2
  simp only [slotsFrom, Nat.reduceAdd] at k0 k1 k4 k8 k9 k10 ⊢
  simp only [k0, k1, k4, k8, k9, k10]
  have slj := sl.pst eh.pst
  have g := (eh.get sb hsb).trans hsg
  simp (disch := first | ((try simp only [heapN]) <;> omega) | fail) only [go_sem, seval]
  by_cases hlt : (j : Int) < (bs.length : Int)
  · have hjl : j < G.length := by omega
    have hjb : j < bs.length := by omega
    have hgi : (bs.map AV.bool)[j * 1]? = some (.bool bs[j]) := by rw [Nat.mul_one, List.getElem?_map, List.getElem?_eq_getElem hjb]; rfl
    obtain ⟨gb, go, gcs, gl, rfl, rfl, hgb, hgg, ⟨fv, rfl, sf⟩, hgr, hgt', hgc⟩ := slj.at_ (i := j) (x := G[j]) (List.getElem?_eq_getElem hjl) (k := 5) rfl
    have hgc4 := hgc 4 (by decide)
    simp only [List.getElem?_cons_zero, List.getElem?_cons_succ] at hgc4
    have hlt2 : (j : Int) < (ln : Int) := by omega
    have hG : G[j]? = some G[j] := List.getElem?_eq_getElem hjl
    simp (disch := first | ((try simp only [heapN]) <;> omega) | fail) only [go_sem, seval, hlt, g, Int.toNat_natCast, hgi, hlt2, hgg, hgc4]
    have hhas : has bs j ↔ bs[j] = true := by unfold has; rw [List.getElem?_eq_getElem hjb]; simp
    cases hbv : bs[j] with
    | false =>
      simp (disch := first | ((try simp only [heapN]) <;> omega) | fail) only [go_sem, seval]
      exact AgainK.mk (G.length - (j + 1)) (by simp only; omega) ⟨j + 1, e, by omega, rfl, eh, (E.skip hG fun h1 => by rw [hhas, hbv] at h1; simp at h1), rfl, by simp [Has]⟩
    | true =>
      have hb : has bs j := hhas.2 hbv
      by_cases p1 : (G[j].fin : Int) > 0
      · by_cases p2 : (e : Int) = 0
        · simp (disch := first | ((try simp only [heapN]) <;> omega) | fail) only [go_sem, seval, p1, p2]
          exact AgainK.mk (G.length - (j + 1)) (by simp only; omega) ⟨j + 1, G[j].fin, by omega, rfl, eh, (E.take hG hb (by omega) (.inl (by omega))), rfl, by simp [Has]⟩
        · by_cases p3 : (G[j].fin : Int) < e
          · simp (disch := first | ((try simp only [heapN]) <;> omega) | fail) only [go_sem, seval, p1, p2, p3]
            exact AgainK.mk (G.length - (j + 1)) (by simp only; omega) ⟨j + 1, G[j].fin, by omega, rfl, eh, (E.take hG hb (by omega) (.inr (by omega))), rfl, by simp [Has]⟩
          · simp (disch := first | ((try simp only [heapN]) <;> omega) | fail) only [go_sem, seval, p1, p2, p3]
            exact AgainK.mk (G.length - (j + 1)) (by simp only; omega) ⟨j + 1, e, by omega, rfl, eh, (E.skip hG fun h1 => by omega), rfl, by simp [Has]⟩
      · simp (disch := first | ((try simp only [heapN]) <;> omega) | fail) only [go_sem, seval, p1]
        exact AgainK.mk (G.length - (j + 1)) (by simp only; omega) ⟨j + 1, e, by omega, rfl, eh, (E.skip hG fun h1 => by omega), rfl, by simp [Has]⟩
  · have : j = G.length := by omega
    subst this
    simp (disch := first | ((try simp only [heapN]) <;> omega) | fail) only [go_sem, seval, hlt]
    exact hQ _ _ ⟨eh, e, rfl, E⟩

theorem index_uf {h : Heap} {s : AV} {bs : List Bool} {sb : Nat} (B : Bits h sb s bs) (hl : bs.length ≤ 1000000) : UF T F 75 [s, .bool true] h fun v' h' => Ext h h' ∧ ((∃ i : Nat, v' = .int .i64 i ∧ has bs i) ∨ (v' = .int .i64 (-1) ∧ ∀ i, ¬ has bs i)) := by
  obtain ⟨rfl, hsb, hsg⟩ := B
  refine UF.gen fun Q hQ => UF.of (F_75) (c := _) rfl ?_
  unfold Try.f75
  simp only [List.length, Nat.reduceSub, Nat.reduceAdd, List.replicate, List.cons_append, List.nil_append]
  simp (disch := first | ((try simp only [heapN]) <;> omega) | fail) only [go_sem, seval]
  refine LoopU_while (fun m st hh => ∃ j : Nat, j ≤ bs.length ∧ m = bs.length - j ∧ Ext h hh ∧ (∀ i, i < j → ¬ has bs i) ∧
      Keep st 19 [(0, .slc (some (sb, 0)) bs.length (some bs.length) 1), (1, .bool true), (7, .int .i64 (bs.length : Nat)), (8, .int .i64 (j : Nat))]) bs.length
    ⟨0, by omega, by omega, Ext.refl _, fun i hi => by omega, rfl, by simp [Has]⟩ ?_
  rintro m st hh ⟨j, hj, rfl, eh, hno, hk⟩
  rw [hk.eq]
  obtain ⟨k0, k1, k7, k8, -⟩ := hk.2
  simp only [slotsFrom, Nat.reduceAdd] at k0 k1 k7 k8 ⊢
  simp only [k0, k1, k7, k8]
  have g := (eh.get sb hsb).trans hsg
  simp (disch := first | ((try simp only [heapN]) <;> omega) | fail) only [go_sem, seval]
  by_cases hlt : (j : Int) < (bs.length : Int)
  · have hjb : j < bs.length := by omega
    have hgi : (bs.map AV.bool)[j * 1]? = some (.bool bs[j]) := by rw [Nat.mul_one, List.getElem?_map, List.getElem?_eq_getElem hjb]; rfl
    have hhas : has bs j ↔ bs[j] = true := by unfold has; rw [List.getElem?_eq_getElem hjb]; simp
    simp (disch := first | ((try simp only [heapN]) <;> omega) | fail) only [go_sem, seval, hlt, g, Int.toNat_natCast, hgi]
    cases hbv : bs[j] with
    | false =>
      simp (disch := first | ((try simp only [heapN]) <;> omega) | fail) only [go_sem, seval]
      refine AgainK.mk (bs.length - (j + 1)) (by simp only; omega) ⟨j + 1, by omega, rfl, eh, fun i hi h1 => ?_, rfl, by simp [Has]⟩
      by_cases e : i = j
      · subst e; rw [hhas, hbv] at h1; simp at h1
      · exact hno i (by omega) h1
    | true =>
      simp (disch := first | ((try simp only [heapN]) <;> omega) | fail) only [go_sem, seval]
      exact hQ _ _ ⟨eh, .inl ⟨j, rfl, hhas.2 hbv⟩⟩
  · have : j = bs.length := by omega
    subst this
    simp (disch := first | ((try simp only [heapN]) <;> omega) | fail) only [go_sem, seval, hlt]
    refine hQ _ _ ⟨eh, .inr ⟨rfl, fun i h1 => ?_⟩⟩
    exact hno i (List.getElem?_eq_some_iff.1 h1).1 h1
theorem contains_uf {h : Heap} {s : AV} {bs : List Bool} {sb : Nat} (B : Bits h sb s bs) (hl : bs.length ≤ 1000000) : UF T F 56 [s, .bool true] h fun v' h' => Ext h h' ∧ ∃ y : Bool, v' = .bool y ∧ (y = true ↔ ∃ i, has bs i) := by
  refine UF.gen fun Q hQ => UF.of (F_56) (c := _) rfl ?_
  unfold Try.f56
  simp only [List.length, Nat.reduceSub, Nat.reduceAdd, List.replicate, List.cons_append, List.nil_append]
  simp (disch := first | ((try simp only [heapN]) <;> omega) | fail) only [go_sem, seval]
  refine callV_ofU F_75 rfl ((index_uf B hl).mono ?_)
  rintro v2 h2 ⟨e2, c⟩
  simp (disch := first | ((try simp only [heapN]) <;> omega) | fail) only [go_sem, seval]
  rcases c with ⟨i, rfl, hi⟩ | ⟨rfl, hno⟩
  · have p : (i : Int) ≥ 0 := by omega
    simp (disch := first | ((try simp only [heapN]) <;> omega) | fail) only [go_sem, seval, p]
    exact hQ _ _ ⟨e2, true, rfl, by simp; exact ⟨i, hi⟩⟩
  · simp (disch := first | ((try simp only [heapN]) <;> omega) | fail) only [go_sem, seval]
    exact hQ _ _ ⟨e2, false, rfl, by simp; exact hno⟩

theorem way_split {G : List St} {n a z : Nat} {w : List UInt8} (h : Way G n a w z) : ∀ (u : List UInt8) (c : UInt8), w = u ++ [c] → ∃ n1 p x b n2, Way G n1 a u p ∧ G[p]? = some x ∧ (x.lo ≤ c ∧ c ≤ x.hi) ∧ x.next = ((b : Nat) : Int) ∧ Way G n2 b [] z := by
  induction h with
  | nil => intro u c e; simp at e
  | eps hx hb t ih =>
    intro u c e
    obtain ⟨n1, p, x, b, n2, h1, h2⟩ := ih u c e
    exact ⟨n1 + 1, p, x, b, n2, .eps hx hb h1, h2⟩
  | chr hx hl hh hn t ih =>
    intro u c e
    cases u with
    | nil =>
      simp at e
      obtain ⟨rfl, rfl⟩ := e
      exact ⟨0, _, _, _, _, .nil, hx, ⟨hl, hh⟩, hn, t⟩
    | cons y u =>
      simp at e
      obtain ⟨rfl, e⟩ := e
      obtain ⟨n1, p, x, b, n2, h1, h2⟩ := ih u c e
      exact ⟨n1 + 1, p, x, b, n2, .chr hx hl hh hn h1, h2⟩
/-- The states that a text's front comes to. -/
def Live (G : List St) (w : List UInt8) (q : Nat) : Prop := q < G.length ∧ ∃ n, Way G n 0 w q
theorem live_next {G : List St} {w : List UInt8} {c : UInt8} {q : Nat} : Live G (w ++ [c]) q ↔ ∃ p x, Live G w p ∧ G[p]? = some x ∧ (x.lo ≤ c ∧ c ≤ x.hi) ∧ Eps G x.next q := by
  constructor
  · rintro ⟨hq, n, W⟩
    obtain ⟨n1, p, x, b, n2, h1, h2, h3, h4, h5⟩ := way_split W w c rfl
    exact ⟨p, x, ⟨(List.getElem?_eq_some_iff.1 h2).1, n1, h1⟩, h2, h3, hq, b, n2, h4, h5⟩
  · rintro ⟨p, x, ⟨hp, n1, h1⟩, h2, h3, hq, b, n2, h4, h5⟩
    exact ⟨hq, _, h1.app (.chr h2 h3.1 h3.2 h4 h5)⟩

end Go.Proofs.Ytenpjkinpecnfaa
