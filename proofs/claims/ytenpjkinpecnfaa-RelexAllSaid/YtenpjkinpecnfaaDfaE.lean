/-
  Layer dfa: what rows tell.
-/
import Derived.Test.YtenpjkinpecnfaaDfaD
import Derived.KernelRfl
namespace Go.Proofs.Ytenpjkinpecnfaa
open Go Go.Am
set_option maxRecDepth 100000
set_option maxHeartbeats 4000000
set_option linter.unusedSimpArgs false
set_option linter.unusedVariables false

/-- Where a row goes with a byte. -/
def GoesTo (G : List St) (S : List (List Nat)) (s : List Nat) (c : UInt8) (v : Int) : Prop := (goes G s c = [] ∧ v = -1) ∨ (goes G s c ≠ [] ∧ ∃ j : Nat, v = j ∧ S[j]? = some (goes G s c))
theorem GoesTo.app {G : List St} {S r : List (List Nat)} {s : List Nat} {c : UInt8} {v : Int} (h : GoesTo G S s c v) : GoesTo G (S ++ r) s c v := by
  rcases h with h | ⟨h1, j, h2, h3⟩
  · exact .inl h
  · exact .inr ⟨h1, j, h2, by rw [List.getElem?_append_left (List.getElem?_eq_some_iff.1 h3).1]; exact h3⟩
theorem rowAll_at (G : List St) (s : List Nat) (S : List (List Nat)) : ∀ n c, c < n → ∃ v, (rowAll G s n S).2[c]? = some v ∧ GoesTo G (rowAll G s n S).1 s (UInt8.ofNat c) v
  | n + 1, c, hc => by
    have hl := rowAll_len G s S n
    obtain ⟨r, hr, _⟩ := rowN_pre (rowAll G s n S).1 (goes G s (UInt8.ofNat n))
    by_cases e : c = n
    · subst e
      refine ⟨_, by rw [rowAll, List.getElem?_append_right (by omega), hl]; simp; rfl, ?_⟩
      rcases rowN_at (rowAll G s c S).1 (goes G s (UInt8.ofNat c)) with h | ⟨h1, j, h2, h3⟩
      · exact .inl h
      · exact .inr ⟨h1, j, h2, h3⟩
    · obtain ⟨v, h1, h2⟩ := rowAll_at G s S n c (by omega)
      refine ⟨v, by rw [rowAll, List.getElem?_append_left (by omega)]; exact h1, ?_⟩
      rw [rowAll, hr]
      exact h2.app

/-- A row of a set. -/
def RowOf (G : List St) (S : List (List Nat)) (s : List Nat) (x : Row) : Prop := x.fin = finOf G s ∧ x.next.length = 256 ∧ ∀ c : UInt8, ∃ v, x.next[c.toNat]? = some v ∧ GoesTo G S s c v
theorem RowOf.app {G : List St} {S r : List (List Nat)} {s : List Nat} {x : Row} (h : RowOf G S s x) : RowOf G (S ++ r) s x :=
  ⟨h.1, h.2.1, fun c => by obtain ⟨v, h1, h2⟩ := h.2.2 c; exact ⟨v, h1, h2.app⟩⟩
theorem ofN_rows (G : List St) (hp : 0 < G.length) : ∀ i, i ≤ (ofN G i).1.length → (ofN G i).1[0]? = some (clo G [0]) ∧ (ofN G i).1.Nodup ∧ (ofN G i).2.length = i ∧ ∀ j, j < i → ∃ s x, (ofN G i).1[j]? = some s ∧ (ofN G i).2[j]? = some x ∧ RowOf G (ofN G i).1 s x
  | 0, _ => by
    have hne : clo G [0] ≠ [] := fun e => by
      have : (0 : Nat) ∈ clo G [0] := mem_clo.2 ⟨0, by simp, hp, 0, 0, rfl, .nil⟩
      rw [e] at this; cases this
    refine ⟨?_, rowN_nodup .nil, rfl, fun j hj => by omega⟩
    simp [ofN, rowN, hne]
  | i + 1, h => by
    cases hs : (ofN G i).1[i]? with
    | none =>
      have := List.getElem?_eq_none_iff.1 hs
      rw [ofN, hs] at h
      simp only at h; omega
    | some s =>
      have hil := (List.getElem?_eq_some_iff.1 hs).1
      obtain ⟨h0, hnd, hl, hr⟩ := ofN_rows G hp i (by omega)
      obtain ⟨r, hr1, _⟩ := rowAll_pre G s (ofN G i).1 256
      have he : ofN G (i + 1) = ((rowAll G s 256 (ofN G i).1).1, (ofN G i).2 ++ [⟨(rowAll G s 256 (ofN G i).1).2, finOf G s⟩]) := by rw [ofN, hs]
      rw [he]
      refine ⟨?_, ?_, by simp [hl], fun j hj => ?_⟩
      · simp only [hr1]; rw [List.getElem?_append_left (by omega)]; exact h0
      · have : ∀ n, (rowAll G s n (ofN G i).1).1.Nodup := fun n => by
          induction n with
          | zero => exact hnd
          | succ n ih => rw [rowAll]; exact rowN_nodup ih
        exact this 256
      · by_cases e : j = i
        · subst e
          refine ⟨s, ⟨(rowAll G s 256 (ofN G j).1).2, finOf G s⟩, ?_, ?_, rfl, rowAll_len _ _ _ _, fun c => ?_⟩
          · simp only [hr1]; rw [List.getElem?_append_left (by omega)]; exact hs
          · simp only; rw [List.getElem?_append_right (by omega), hl]; simp
          · have := rowAll_at G s (ofN G j).1 256 c.toNat c.toNat_lt
            simpa using this
        · obtain ⟨s2, x, q1, q2, q3⟩ := hr j (by omega)
          refine ⟨s2, x, ?_, ?_, ?_⟩
          · simp only [hr1]; rw [List.getElem?_append_left (by omega)]; exact q1
          · simp only; rw [List.getElem?_append_left (by omega)]; exact q2
          · simp only [hr1]; exact q3.app

/-- Rows of states. -/
structure Rws (G : List St) (S : List (List Nat)) (R : List Row) : Prop where
  len : R.length = S.length
  start : S[0]? = some (clo G [0])
  nodup : S.Nodup
  row : ∀ (j : Nat) (s : List Nat), S[j]? = some s → ∃ x, R[j]? = some x ∧ RowOf G S s x
theorem ofN_done {G : List St} (hp : 0 < G.length) {i : Nat} (h : (ofN G i).1.length = i) : Rws G (ofN G i).1 (ofN G i).2 := by
  obtain ⟨h0, hnd, hl, hr⟩ := ofN_rows G hp i (by omega)
  refine ⟨by omega, h0, hnd, fun j s hs => ?_⟩
  obtain ⟨s2, x, q1, q2, q3⟩ := hr j (by have := (List.getElem?_eq_some_iff.1 hs).1; omega)
  rw [hs] at q1
  simp only [Option.some.injEq] at q1
  subst q1
  exact ⟨x, q2, q3⟩

/-- What rows tell, from a place on. -/
def dRun (R : List Row) : List UInt8 → Nat → Int → Nat × Nat × Bool → Nat × Nat × Bool
  | [], _, _, r => r
  | c :: w, i, at_, r => if 0 ≤ at_ then match R[at_.toNat]? with
    | some x => match x.next[c.toNat]? with
      | some v => dRun R w (i + 1) v (if 0 ≤ v then match R[v.toNat]? with
        | some y => if 0 < y.fin then (y.fin - 1, i + 1, true) else r
        | none => r else r)
      | none => r
    | none => r else r

theorem dLongest_uf {h : Heap} {R : List Row} {l : AV} {s : List UInt8} (sl : Lst h l R) (hR : R.length ≤ 1000) (hfin : ∀ x ∈ R, x.fin ≤ 1000000) (hs : s.length ≤ 1000) :
    UF T F 36 [l, .str s] h fun v' h' => Ext h h' ∧ v' = .tup [.int .i64 ((dRun R s 0 0 (0, 0, false)).1 : Nat), .int .i64 ((dRun R s 0 0 (0, 0, false)).2.1 : Nat), .bool (dRun R s 0 0 (0, 0, false)).2.2] := by
  obtain ⟨la, ln, lc, lz, rfl, hln⟩ := sl.form
  refine UF.gen fun Q hQ => UF.of (F_36) (c := _) rfl ?_
  unfold Try.f36
  simp only [List.length, Nat.reduceSub, Nat.reduceAdd, List.replicate, List.cons_append, List.nil_append]
  simp (disch := omega) only [go_sem, seval]
  refine LoopU_while (fun m st hh => ∃ (i : Nat) (at_ : Int) (r : Nat × Nat × Bool), i ≤ s.length ∧ m = s.length - i ∧ Ext h hh ∧ dRun R s 0 0 (0, 0, false) = dRun R (s.drop i) i at_ r ∧
      Keep st 61 [(0, .slc la ln lc lz), (1, .str s), (4, .int .i64 (r.1 : Nat)), (5, .int .i64 (r.2.1 : Nat)), (6, .bool r.2.2), (7, .int .i64 at_), (8, .int .i64 (i : Nat))]) s.length
    ⟨0, 0, (0, 0, false), by omega, by omega, Ext.refl _, rfl, rfl, by simp [Has]⟩ ?_
  rintro m st hh ⟨i, at_, ⟨kd, nn, ok⟩, hi, rfl, eh, hd, hk⟩
  rw [hk.eq]
  obtain ⟨k0, k1, k4, k5, k6, k7, k8, -⟩ := hk.2
  simp only [slotsFrom, Nat.reduceAdd] at k0 k1 k4 k5 k6 k7 k8 ⊢
  simp only [k0, k1, k4, k5, k6, k7, k8]
  have sl2 := sl.ext eh
  simp (disch := omega) only [go_sem, seval]
  by_cases hlt : (i : Int) < (s.length : Int)
  · have hil : i < s.length := by omega
    have hsi : s[i]? = some s[i] := List.getElem?_eq_getElem hil
    have hdr : s.drop i = s[i] :: s.drop (i + 1) := List.drop_eq_getElem_cons hil
    rw [hdr] at hd
    by_cases c1 : at_ ≥ 0
    · by_cases c2 : at_ < (ln : Int)
      · obtain ⟨j, rfl⟩ : ∃ j : Nat, at_ = j := ⟨at_.toNat, by omega⟩
        have hjl : j < R.length := by omega
        obtain ⟨b1, o1, cs1, l1, rfl, rfl, hb1, hg1, ⟨rfl, hx⟩, hr1, ht1, hc1⟩ := sl2.at_ (i := j) (x := R[j]) (List.getElem?_eq_getElem hjl) (k := 257) rfl
        have hlo := s[i].toNat_lt
        have hlo2 : ((s[i].toNat : Nat) : Int) < 256 := by omega
        have hnl : s[i].toNat < R[j].next.length := by omega
        have cv : cs1[o1 + j * 257 + s[i].toNat * 1]? = some (.int .i64 R[j].next[s[i].toNat]) := by
          rw [Nat.mul_one, hc1 _ (by omega)]
          show (rcs R[j].next R[j].fin)[s[i].toNat]? = _
          rw [rcs_get hnl, List.getElem?_eq_getElem hnl]; rfl
        have hjr : R[(j : Int).toNat]? = some R[j] := List.getElem?_eq_getElem hjl
        have hrun := fun r' => congrArg (fun x => x = r') hd
        rw [dRun, if_pos c1, hjr] at hd
        simp only [List.getElem?_eq_getElem hnl] at hd
        simp (disch := omega) only [go_sem, seval, hlt, c1, c2]
        refine DrawU_quiet (by rfl) ?_
        simp (disch := omega) only [go_sem, seval, hlt, Int.toNat_natCast, hsi, c2, hlo2, hg1, cv]
        generalize R[j].next[s[i].toNat] = v at *
        have eb : Ext h (hh.bump 10) := eh.trans (Ext.bump _ _)
        have sl3 := sl2.ext (Ext.bump hh 10)
        by_cases d1 : v ≥ 0
        · by_cases d2 : v < (ln : Int)
          · obtain ⟨j2, rfl⟩ : ∃ j2 : Nat, v = j2 := ⟨v.toNat, by omega⟩
            have hjl2 : j2 < R.length := by omega
            obtain ⟨b2, o2, cs2, l2, e2, _, hb2, hg2, ⟨rfl, hx2⟩, hr2, ht2, hc2⟩ := sl3.at_ (i := j2) (x := R[j2]) (List.getElem?_eq_getElem hjl2) (k := 257) rfl
            simp only [Option.some.injEq, Prod.mk.injEq] at e2
            obtain ⟨rfl, rfl⟩ := e2
            have cf : cs2[o1 + j2 * 257 + 256]? = some (.int .i64 (R[j2].fin : Nat)) := by
              rw [hc2 256 (by omega)]
              show (rcs R[j2].next R[j2].fin)[256]? = _
              rw [rcs_fin hx2]
            have hfb := hfin _ (List.getElem_mem hjl2)
            have hjr2 : R[(j2 : Int).toNat]? = some R[j2] := List.getElem?_eq_getElem hjl2
            rw [if_pos d1, hjr2] at hd
            simp only at hd
            simp (disch := omega) only [go_sem, seval, d1, d2, hg2, cf, Int.toNat_natCast]
            by_cases d3 : ((R[j2].fin : Nat) : Int) > 0
            · have hf1 : ((R[j2].fin : Nat) : Int) - 1 = ((R[j2].fin - 1 : Nat) : Int) := by omega
              simp (disch := omega) only [go_sem, seval, d3, d2, hg2, cf, hf1, Int.toNat_natCast]
              rw [if_pos (by omega)] at hd
              exact AgainK.mk (s.length - (i + 1)) (by simp only; omega) ⟨i + 1, j2, (R[j2].fin - 1, i + 1, true), by omega, rfl, eb, hd, rfl, by simp [Has]⟩
            · simp (disch := omega) only [go_sem, seval, d3]
              rw [if_neg (by omega)] at hd
              exact AgainK.mk (s.length - (i + 1)) (by simp only; omega) ⟨i + 1, j2, (kd, nn, ok), by omega, rfl, eb, hd, rfl, by simp [Has]⟩
          · simp (disch := omega) only [go_sem, seval, d1, d2]
            have : R[v.toNat]? = none := List.getElem?_eq_none (by omega)
            rw [if_pos d1, this] at hd
            exact AgainK.mk (s.length - (i + 1)) (by simp only; omega) ⟨i + 1, v, (kd, nn, ok), by omega, rfl, eb, hd, rfl, by simp [Has]⟩
        · simp (disch := omega) only [go_sem, seval, d1]
          rw [if_neg d1] at hd
          exact AgainK.mk (s.length - (i + 1)) (by simp only; omega) ⟨i + 1, v, (kd, nn, ok), by omega, rfl, eb, hd, rfl, by simp [Has]⟩
      · simp (disch := omega) only [go_sem, seval, hlt, c1, c2]
        have : R[at_.toNat]? = none := List.getElem?_eq_none (by omega)
        rw [dRun, if_pos c1, this] at hd
        exact hQ _ _ ⟨eh, by rw [hd]⟩
    · simp (disch := omega) only [go_sem, seval, hlt, c1]
      rw [dRun, if_neg c1] at hd
      exact hQ _ _ ⟨eh, by rw [hd]⟩
  · simp (disch := omega) only [go_sem, seval, hlt]
    rw [List.drop_eq_nil_of_le (by omega), dRun] at hd
    exact hQ _ _ ⟨eh, by rw [hd]⟩

theorem finOf_end {G : List St} {w : List UInt8} {s : List Nat} (hs : ∀ q, q ∈ s ↔ Live G w q) : EndL G w (finOf G s) := by
  have hin : ∀ q ∈ s, q < G.length := fun q hq => ((hs q).1 hq).1
  have main : ∀ t : List Nat, (∀ q ∈ t, q < G.length) → (finOf G t = 0 ∧ ∀ q ∈ t, ∀ x, G[q]? = some x → x.fin = 0) ∨ (0 < finOf G t ∧ (∃ q ∈ t, ∃ x, G[q]? = some x ∧ x.fin = finOf G t) ∧ ∀ q ∈ t, ∀ x, G[q]? = some x → 0 < x.fin → finOf G t ≤ x.fin) := by
    intro t0
    rw [← List.reverse_reverse t0]
    generalize t0.reverse = u
    induction u with
    | nil => intro _; exact .inl ⟨rfl, by simp⟩
    | cons q u ih =>
      rw [List.reverse_cons]
      generalize u.reverse = t at ih ⊢
      intro ht
      have hq : q < G.length := ht q (by simp)
      have hG : G[q]? = some G[q] := List.getElem?_eq_getElem hq
      rw [finOf_snoc G t q hG]
      have mem : ∀ p, p ∈ t ++ [q] ↔ p ∈ t ∨ p = q := fun p => by simp
      rcases ih fun p hp => ht p (by simp [hp]) with ⟨h0, h1⟩ | ⟨h0, ⟨p, hp, x, hx, hf⟩, h1⟩
      · by_cases hf : 0 < G[q].fin
        · rw [if_pos ⟨hf, .inl h0⟩]
          refine .inr ⟨hf, ⟨q, by simp, _, hG, rfl⟩, fun p hp x hx h2 => ?_⟩
          rcases (mem p).1 hp with hp | rfl
          · have := h1 p hp x hx; omega
          · rw [hG] at hx; simp only [Option.some.injEq] at hx; subst hx; exact Nat.le_refl _
        · rw [if_neg (by omega)]
          refine .inl ⟨h0, fun p hp x hx => ?_⟩
          rcases (mem p).1 hp with hp | rfl
          · exact h1 p hp x hx
          · rw [hG] at hx; simp only [Option.some.injEq] at hx; subst hx; omega
      · by_cases hf2 : 0 < G[q].fin ∧ G[q].fin < finOf G t
        · rw [if_pos ⟨hf2.1, .inr hf2.2⟩]
          refine .inr ⟨hf2.1, ⟨q, by simp, _, hG, rfl⟩, fun p hp x hx h2 => ?_⟩
          rcases (mem p).1 hp with hp | rfl
          · have := h1 p hp x hx h2; omega
          · rw [hG] at hx; simp only [Option.some.injEq] at hx; subst hx; exact Nat.le_refl _
        · rw [if_neg (by omega)]
          refine .inr ⟨h0, ⟨p, by simp [hp], x, hx, hf⟩, fun p hp x hx h2 => ?_⟩
          rcases (mem p).1 hp with hp | rfl
          · exact h1 p hp x hx h2
          · rw [hG] at hx; simp only [Option.some.injEq] at hx; subst hx; omega
  rcases main s hin with ⟨h0, h1⟩ | ⟨h0, ⟨q, hq, x, hx, hf⟩, h1⟩
  · exact .inl ⟨h0, fun q x hq hx => h1 q ((hs q).2 hq) x hx⟩
  · exact .inr ⟨h0, ⟨q, x, (hs q).1 hq, hx, hf⟩, fun q x hq hx hf => h1 q ((hs q).2 hq) x hx hf⟩
/-- Where a live set goes. -/
theorem goes_live {G : List St} {w : List UInt8} {s : List Nat} (hs : ∀ q, q ∈ s ↔ Live G w q) (c : UInt8) (q : Nat) : q ∈ goes G s c ↔ Live G (w ++ [c]) q := by
  unfold goes
  rw [mem_clo, live_next]
  constructor
  · rintro ⟨a, ha, he⟩
    obtain ⟨p, x, hp, hx, hc, rfl⟩ := mem_tos.1 ha
    exact ⟨p, x, (hs p).1 hp, hx, hc, he⟩
  · rintro ⟨p, x, hp, hx, hc, he⟩
    exact ⟨x.next, mem_tos.2 ⟨p, x, (hs p).2 hp, hx, hc, rfl⟩, he⟩
theorem start_live {G : List St} (q : Nat) : q ∈ clo G [0] ↔ Live G [] q := by
  rw [mem_clo]
  constructor
  · rintro ⟨a, ha, h1, k, n, h2, W⟩
    simp only [List.mem_singleton] at ha
    subst ha
    have : k = 0 := by omega
    subst this
    exact ⟨h1, n, W⟩
  · rintro ⟨h1, n, W⟩; exact ⟨0, by simp, h1, 0, n, rfl, W⟩
theorem Best.next {G : List St} {s : List UInt8} {i k n e : Nat} {ok : Bool} (b : Best G s i k n ok) (he : EndL G (s.take (i + 1)) e) : if 0 < e then Best G s (i + 1) (e - 1) (i + 1) true else Best G s (i + 1) k n ok := by
  split
  · rename_i h
    exact .inr ⟨rfl, by omega, Nat.le_refl _, by rwa [show e - 1 + 1 = e by omega], fun j j1 j2 => by omega⟩
  · rename_i h
    have : e = 0 := by omega
    subst this
    have ex : ∀ p, (∀ j, p < j → j ≤ i → EndL G (s.take j) 0) → ∀ j, p < j → j ≤ i + 1 → EndL G (s.take j) 0 := fun p h j j1 j2 => by
      by_cases hj : j = i + 1
      · subst hj; exact he
      · exact h j j1 (by omega)
    rcases b with ⟨h1, h2, h3, h4⟩ | ⟨h1, h2, h3, h4, h5⟩
    · exact .inl ⟨h1, h2, h3, ex 0 h4⟩
    · exact .inr ⟨h1, h2, by omega, h4, ex n h5⟩
theorem dead_end {G : List St} {s : List UInt8} {i : Nat} (h : ∀ q, ¬ Live G (s.take i) q) (j : Nat) (hj : i ≤ j) : EndL G (s.take j) 0 := by
  refine .inl ⟨rfl, fun q x hq _ => ?_⟩
  have : s.take j = s.take i ++ (s.take j).drop i := by
    rw [show s.take i = (s.take j).take i by rw [List.take_take, Nat.min_eq_left hj], List.take_append_drop]
  rw [this] at hq
  obtain ⟨p, hp⟩ := live_front _ _ rfl hq
  exact absurd hp (h p)
theorem Best.dead {G : List St} {s : List UInt8} {i k n : Nat} {ok : Bool} (b : Best G s i k n ok) (h : ∀ q, ¬ Live G (s.take (i + 1)) q) (hi : i ≤ s.length) : Best G s s.length k n ok := by
  have ex : ∀ p, (∀ j, p < j → j ≤ i → EndL G (s.take j) 0) → ∀ j, p < j → j ≤ s.length → EndL G (s.take j) 0 := fun p h2 j j1 j2 => by
    by_cases hj : j ≤ i
    · exact h2 j j1 hj
    · exact dead_end h j (by omega)
  rcases b with ⟨h1, h2, h3, h4⟩ | ⟨h1, h2, h3, h4, h5⟩
  · exact .inl ⟨h1, h2, h3, ex 0 h4⟩
  · exact .inr ⟨h1, h2, by omega, h4, ex n h5⟩
theorem dRun_neg (R : List Row) : ∀ (w : List UInt8) (i : Nat) (r : Nat × Nat × Bool), dRun R w i (-1) r = r
  | [], _, _ => rfl
  | c :: w, i, r => by rw [dRun, if_neg (by omega)]
theorem dRun_best {G : List St} {S : List (List Nat)} {R : List Row} (H : Rws G S R) {s : List UInt8} : ∀ (w : List UInt8) (i : Nat) (j : Nat) (t : List Nat) (r : Nat × Nat × Bool), w = s.drop i → i ≤ s.length → S[j]? = some t → (∀ q, q ∈ t ↔ Live G (s.take i) q) → Best G s i r.1 r.2.1 r.2.2 →
    Best G s s.length (dRun R w i j r).1 (dRun R w i j r).2.1 (dRun R w i j r).2.2
  | [], i, j, t, r, hw, hi, hj, ht, hb => by
    have : i = s.length := by
      have := congrArg List.length hw
      simp at this; omega
    subst this
    exact hb
  | c :: w, i, j, t, r, hw, hi, hj, ht, hb => by
    have hil : i < s.length := by
      have := congrArg List.length hw
      simp at this; omega
    have hw2 : w = s.drop (i + 1) := by
      have := congrArg List.tail hw
      simpa using this
    have hc : s[i]? = some c := by
      have := congrArg (fun l => l[0]?) hw
      simpa using this.symm
    obtain ⟨x, hx, hf, hl, hn⟩ := H.row j t hj
    obtain ⟨v, hv, hg⟩ := hn c
    have hlive : ∀ q, q ∈ goes G t c ↔ Live G (s.take (i + 1)) q := fun q => by
      rw [List.take_add_one, hc, Option.toList_some]; exact goes_live ht c q
    rw [dRun, if_pos (by omega), Int.toNat_natCast, hx]
    simp only [hv]
    rcases hg with ⟨hg, rfl⟩ | ⟨hg, j2, rfl, hj2⟩
    · rw [dRun_neg, if_neg (by omega)]
      exact hb.dead (fun q hq => by have := (hlive q).2 hq; rw [hg] at this; cases this) hi
    · obtain ⟨y, hy, hfy, _⟩ := H.row j2 _ hj2
      rw [if_pos (by omega), Int.toNat_natCast, hy]
      have hnx := hb.next (finOf_end hlive)
      rw [← hfy] at hnx
      refine dRun_best H w (i + 1) j2 _ _ hw2 (by omega) hj2 hlive ?_
      simp only
      split at hnx
      · rename_i h0; rw [if_pos h0]; exact hnx
      · rename_i h0; rw [if_neg h0]; exact hnx
/-- What rows of patterns tell. -/
theorem Rws.best {G : List St} {S : List (List Nat)} {R : List Row} (H : Rws G S R) (s : List UInt8) : Best G s s.length (dRun R s 0 0 (0, 0, false)).1 (dRun R s 0 0 (0, 0, false)).2.1 (dRun R s 0 0 (0, 0, false)).2.2 :=
  dRun_best H s 0 0 _ (0, 0, false) rfl (by omega) H.start (fun q => by rw [List.take_zero]; exact start_live q) (.inl ⟨rfl, rfl, rfl, fun j h1 h2 => by omega⟩)

end Go.Proofs.Ytenpjkinpecnfaa
