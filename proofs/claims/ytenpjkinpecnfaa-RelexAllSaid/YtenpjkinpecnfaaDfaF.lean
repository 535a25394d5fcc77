/-
  Layer dfa: how many rows there are, and what they tell of patterns.
-/
import Derived.Test.YtenpjkinpecnfaaDfaE
import Derived.KernelRfl
namespace Go.Proofs.Ytenpjkinpecnfaa
open Go Go.Am
set_option maxRecDepth 100000
set_option maxHeartbeats 4000000
set_option linter.unusedSimpArgs false
set_option linter.unusedVariables false

/-- How many classes a pattern has. -/
def ncls : Rx → Nat
  | .cls _ => 1
  | .bin _ a b => ncls a + ncls b
  | .rep _ a => ncls a
theorem free_lo {x : St} {xs : List Nat} (h : x = stF xs) : ¬ x.lo ≤ x.hi := by subst h; show ¬ (1 : UInt8) ≤ 0; decide
theorem end_lo {x : St} {n : Nat} (h : x = stE n) : ¬ x.lo ≤ x.hi := by subst h; show ¬ (1 : UInt8) ≤ 0; decide
theorem some_eq {α : Type} {o : Option α} {x y : α} (h1 : o = some x) (h2 : o = some y) : y = x := by rw [h1] at h2; exact (Option.some.inj h2).symm
/-- Where bytes go, of a pattern's states. -/
theorem Frag.tgts {G : List St} : ∀ {e : Rx} {f t a b : Nat}, Frag G e f t a b → ∃ ts : List Nat, ts.length = ncls e ∧ ∀ (i : Nat) (x : St), a ≤ i → i < b → i ≠ t → G[i]? = some x → x.lo ≤ x.hi → ∃ p ∈ ts, x.next = ((p : Nat) : Int)
  | .cls l, f, t, a, b, h => by
    obtain ⟨rfl, rfl, rfl, g1, g2⟩ := h
    refine ⟨[f + 1], rfl, fun i x h1 h2 h3 hx hlo => ?_⟩
    by_cases hi : i = f
    · subst hi; exact absurd hlo (free_lo (some_eq g1 hx))
    · have hl : i - (f + 2) < l.length := by omega
      have := g2 _ _ (List.getElem?_eq_getElem hl)
      rw [show f + 2 + (i - (f + 2)) = i by omega] at this
      have := some_eq this hx
      subst this
      exact ⟨f + 1, by simp, rfl⟩
  | .bin op y z, f, t, a, b, h => by
    rcases h with ⟨ho, m, t1, f2, k1, k2, k3⟩ | ⟨ho, m, f1, t1, f2, t2, k1, k2, rfl, rfl, k3, k4, k5⟩
    · obtain ⟨ts1, l1, g1⟩ := k1.tgts
      obtain ⟨ts2, l2, g2⟩ := k2.tgts
      refine ⟨ts1 ++ ts2, by simp [ncls, l1, l2], fun i x h1 h2 h3 hx hlo => ?_⟩
      by_cases hm : i < m
      · by_cases ht : i = t1
        · subst ht; exact absurd hlo (free_lo (some_eq k3 hx))
        · obtain ⟨p, hp, e⟩ := g1 i x h1 hm ht hx hlo
          exact ⟨p, by simp [hp], e⟩
      · obtain ⟨p, hp, e⟩ := g2 i x (by omega) h2 h3 hx hlo
        exact ⟨p, by simp [hp], e⟩
    · obtain ⟨ts1, l1, g1⟩ := k1.tgts
      obtain ⟨ts2, l2, g2⟩ := k2.tgts
      refine ⟨ts1 ++ ts2, by simp [ncls, l1, l2], fun i x h1 h2 h3 hx hlo => ?_⟩
      by_cases hm : i < m
      · by_cases ht : i = t1
        · subst ht; exact absurd hlo (free_lo (some_eq k4 hx))
        · obtain ⟨p, hp, e⟩ := g1 i x h1 hm ht hx hlo
          exact ⟨p, by simp [hp], e⟩
      · by_cases hf : i < f
        · by_cases ht : i = t2
          · subst ht; exact absurd hlo (free_lo (some_eq k5 hx))
          · obtain ⟨p, hp, e⟩ := g2 i x (by omega) hf ht hx hlo
            exact ⟨p, by simp [hp], e⟩
        · have : i = f := by omega
          subst this; exact absurd hlo (free_lo (some_eq k3 hx))
  | .rep op y, f, t, a, b, h => by
    obtain ⟨f1, t1, k1, rfl, rfl, k2, k3⟩ := h
    obtain ⟨ts1, l1, g1⟩ := k1.tgts
    refine ⟨ts1, by simp [ncls, l1], fun i x h1 h2 h3 hx hlo => ?_⟩
    by_cases hf : i < f
    · by_cases ht : i = t1
      · subst ht; exact absurd hlo (free_lo (some_eq k3 hx))
      · exact g1 i x h1 hf ht hx hlo
    · have : i = f := by omega
      subst this; exact absurd hlo (free_lo (some_eq k2 hx))
theorem Blocks.tgts {G : List St} : ∀ {es : List Rx} {k : Nat} {fs : List Nat} {a z : Nat}, Blocks G es k fs a z → ∃ ts : List Nat, ts.length = (es.map ncls).sum ∧ ∀ (i : Nat) (x : St), a ≤ i → i < z → G[i]? = some x → x.lo ≤ x.hi → ∃ p ∈ ts, x.next = ((p : Nat) : Int)
  | [], _, _, _, _, h => ⟨[], rfl, fun i x h1 h2 => by have := h.2; omega⟩
  | e :: es, k, fs, a, z, ⟨f, t, b, fs', e1, F, g, h⟩ => by
    obtain ⟨ts1, l1, g1⟩ := F.tgts
    obtain ⟨ts2, l2, g2⟩ := h.tgts
    refine ⟨ts1 ++ ts2, by simp [l1, l2], fun i x h1 h2 hx hlo => ?_⟩
    by_cases hb : i < b
    · by_cases ht : i = t
      · subst ht; exact absurd hlo (end_lo (some_eq g hx))
      · obtain ⟨p, hp, e⟩ := g1 i x h1 hb ht hx hlo
        exact ⟨p, by simp [hp], e⟩
    · obtain ⟨p, hp, e⟩ := g2 i x (by omega) h2 hx hlo
      exact ⟨p, by simp [hp], e⟩
theorem Auto.tgts {G : List St} {es : List Rx} (A : Auto G es) : ∃ ts : List Nat, ts.length = (es.map ncls).sum ∧ ∀ (i : Nat) (x : St), G[i]? = some x → x.lo ≤ x.hi → ∃ p ∈ ts, x.next = ((p : Nat) : Int) := by
  obtain ⟨fs, g0, B⟩ := A
  obtain ⟨ts, l, g⟩ := B.tgts
  refine ⟨ts, l, fun i x hx hlo => ?_⟩
  by_cases h0 : i = 0
  · subst h0; exact absurd hlo (free_lo (some_eq g0 hx))
  · exact g i x (by omega) (List.getElem?_eq_some_iff.1 hx).1 hx hlo

/-- All choices of a list. -/
def subs : List Nat → List (List Nat)
  | [] => [[]]
  | a :: l => subs l ++ (subs l).map (a :: ·)
theorem subs_len : ∀ l : List Nat, (subs l).length = 2 ^ l.length
  | [] => rfl
  | a :: l => by rw [subs, List.length_append, List.length_map, subs_len l, List.length_cons]; omega
theorem subs_filter (p : Nat → Bool) : ∀ l : List Nat, l.filter p ∈ subs l
  | [] => by simp [subs]
  | a :: l => by
    rw [subs, List.filter_cons]
    split
    · exact List.mem_append_right _ (List.mem_map_of_mem (subs_filter p l))
    · exact List.mem_append_left _ (subs_filter p l)
theorem nodup_le {α : Type} [DecidableEq α] : ∀ {l m : List α}, l.Nodup → (∀ x ∈ l, x ∈ m) → l.length ≤ m.length
  | [], m, _, _ => by simp
  | a :: l, m, hn, hs => by
    rw [List.nodup_cons] at hn
    have ha : a ∈ m := hs a (by simp)
    have := nodup_le (m := m.erase a) hn.2 fun x hx => (List.mem_erase_of_ne fun (e : x = a) => hn.1 (by rw [← e]; exact hx)).2 (hs x (by simp [hx]))
    rw [List.length_erase_of_mem ha] at this
    have : 0 < m.length := List.length_pos_of_mem ha
    simp only [List.length_cons]; omega

theorem rowAll_mem {G : List St} {s : List Nat} {S : List (List Nat)} : ∀ n, ∀ x ∈ (rowAll G s n S).1, x ∈ S ∨ (x ≠ [] ∧ ∃ c, x = goes G s c)
  | 0, x, hx => .inl hx
  | n + 1, x, hx => by
    rw [rowAll] at hx
    rcases rowN_mem x hx with h | ⟨h, hne⟩
    · exact rowAll_mem n x h
    · exact .inr ⟨by rw [h]; exact hne, _, h⟩
theorem ofN_mem {G : List St} : ∀ n, ∀ x ∈ (ofN G n).1, x = clo G [0] ∨ (x ≠ [] ∧ ∃ s c, x = goes G s c)
  | 0, x, hx => by
    rcases rowN_mem x hx with h | ⟨h, _⟩
    · cases h
    · exact .inl h
  | n + 1, x, hx => by
    cases hs : (ofN G n).1[n]? with
    | none =>
      have he : ofN G (n + 1) = ofN G n := by rw [ofN, hs]
      rw [he] at hx
      exact ofN_mem n x hx
    | some s =>
      have he : (ofN G (n + 1)).1 = (rowAll G s 256 (ofN G n).1).1 := by rw [ofN, hs]
      rw [he] at hx
      rcases rowAll_mem (G := G) (s := s) (S := (ofN G n).1) 256 x hx with h | ⟨h0, c, h⟩
      · exact ofN_mem n x h
      · exact .inr ⟨h0, s, c, h⟩
theorem goes_subs {G : List St} {ts : List Nat} (ht : ∀ (i : Nat) (x : St), G[i]? = some x → x.lo ≤ x.hi → ∃ p ∈ ts, x.next = ((p : Nat) : Int)) (s : List Nat) (c : UInt8) : ∃ u ∈ subs ts, goes G s c = clo G (u.map fun (p : Nat) => (p : Int)) := by
  refine ⟨ts.filter fun p => decide ((p : Int) ∈ tos G s c), subs_filter _ _, clo_congr fun i => ?_⟩
  constructor
  · rintro ⟨a, ha, he⟩
    obtain ⟨q, x, _, hx, hc, rfl⟩ := mem_tos.1 ha
    obtain ⟨p, hp, e⟩ := ht q x hx (UInt8.le_trans hc.1 hc.2)
    exact ⟨x.next, List.mem_map.2 ⟨p, List.mem_filter.2 ⟨hp, by rw [← e]; simpa using ha⟩, e.symm⟩, he⟩
  · rintro ⟨a, ha, he⟩
    obtain ⟨p, hp, rfl⟩ := List.mem_map.1 ha
    exact ⟨_, by simpa using (List.mem_filter.1 hp).2, he⟩
theorem clo_nil (G : List St) : clo G [] = [] := by
  refine List.eq_nil_iff_forall_not_mem.2 fun i hi => ?_
  obtain ⟨a, ha, _⟩ := mem_clo.1 hi
  cases ha
theorem subs_tail : ∀ l : List Nat, ∃ r, subs l = [] :: r
  | [] => ⟨[], rfl⟩
  | a :: l => by obtain ⟨r, h⟩ := subs_tail l; exact ⟨_, by rw [subs, h, List.cons_append]⟩
/-- There are so many rows at most. -/
theorem ofN_few {G : List St} {es : List Rx} (A : Auto G es) {n : Nat} (hn : n ≤ (ofN G n).1.length) : (ofN G n).1.length ≤ 2 ^ (es.map ncls).sum := by
  obtain ⟨ts, l, ht⟩ := A.tgts
  obtain ⟨_, hnd, _, _⟩ := ofN_rows G A.fin.1 n hn
  obtain ⟨r, hr⟩ := subs_tail ts
  have := nodup_le (m := clo G [0] :: r.map fun u => clo G (u.map fun (p : Nat) => (p : Int))) hnd fun x hx => by
    rcases ofN_mem n x hx with h | ⟨h0, s, c, h⟩
    · rw [h]; simp
    · obtain ⟨u, hu, e⟩ := goes_subs ht s c
      rw [hr] at hu
      rcases List.mem_cons.1 hu with hu | hu
      · subst hu
        rw [h, e, List.map_nil, clo_nil] at h0
        exact absurd rfl h0
      · rw [h, e]; exact List.mem_cons_of_mem _ (List.mem_map_of_mem hu)
  have h2 := subs_len ts
  rw [hr, l, List.length_cons] at h2
  rw [List.length_cons, List.length_map] at this
  omega
theorem finOf_le {G : List St} {N : Nat} (hf : ∀ x ∈ G, x.fin ≤ N) (s : List Nat) : finOf G s ≤ N := by
  unfold finOf
  have : ∀ (t : List Nat) (r : Nat), r ≤ N → t.foldl (fun r q => finS r G[q]?) r ≤ N := by
    intro t
    induction t with
    | nil => exact fun r hr => hr
    | cons q t ih =>
      intro r hr
      refine ih _ ?_
      show finS r G[q]? ≤ N
      unfold finS
      split
      · rename_i x hx
        split
        · exact hf _ (List.mem_of_getElem? hx)
        · exact hr
      · exact hr
  exact this s 0 (by omega)

/-- Rows that patterns make. -/
structure RowFit (G : List St) (S : List (List Nat)) (R : List Row) (es : List Rx) : Prop where
  auto : AutoFit G es
  rws : Rws G S R
  len : 0 < R.length ∧ R.length ≤ 300 ∧ R.length ≤ 2 ^ (es.map ncls).sum
  fin : ∀ x ∈ R, x.fin ≤ es.length
  of_ : (ofN G R.length).1 = S ∧ (ofN G R.length).2 = R
theorem DfaOf_es {h : Heap} {lv : AV} {G : List St} {es : List Rx} (sl : Lst h lv G) (A : AutoFit G es) (hl : es.length ≤ 20) :
    UF T F 34 [lv] h fun v' h' => Ext h h' ∧ ((∃ S R, Lst h' v' R ∧ RowFit G S R es) ∨ (v' = .slc none 0 (some 0) 0 ∧ 8 < (es.map ncls).sum)) := by
  refine (DfaOf_uf sl (by have := A.wt; omega) A.pos).mono ?_
  rintro v' h' ⟨e, ⟨i, hi, hd, L⟩ | ⟨rfl, hd⟩⟩
  · have H := ofN_done A.pos hd
    refine ⟨e, .inl ⟨_, _, L, A, H, ⟨?_, by rw [H.len]; omega, by rw [H.len]; exact ofN_few A.auto (by omega)⟩, fun x hx => ?_, ?_⟩⟩
    · rw [H.len]; exact (List.getElem?_eq_some_iff.1 H.start).1
    · obtain ⟨j, hj, rfl⟩ := List.getElem_of_mem hx
      obtain ⟨y, hy, hfy, _⟩ := H.row j _ (List.getElem?_eq_getElem (by rw [← H.len]; exact hj))
      rw [List.getElem?_eq_getElem hj] at hy
      simp only [Option.some.injEq] at hy
      rw [hy, hfy]
      exact finOf_le A.fin _
    · have : (ofN G i).2.length = i := by rw [H.len, hd]
      rw [this]; exact ⟨rfl, rfl⟩
  · refine ⟨e, .inr ⟨rfl, ?_⟩⟩
    have h1 := ofN_few A.auto (n := 300) (by omega)
    by_cases h8 : 8 < (es.map ncls).sum
    · exact h8
    · have : 2 ^ (es.map ncls).sum ≤ 2 ^ 8 := Nat.pow_le_pow_right (by omega) (by omega)
      omega
theorem dBest_uf {h : Heap} {G : List St} {S : List (List Nat)} {R : List Row} {l : AV} {es : List Rx} {s : List UInt8} (sl : Lst h l R) (H : RowFit G S R es) (hs : s.length ≤ 1000) :
    UF T F 36 [l, .str s] h fun v' h' => Ext h h' ∧ ∃ k n ok, v' = .tup [.int .i64 (k : Nat), .int .i64 (n : Nat), .bool ok] ∧ BestR es s k n ok := by
  refine (dLongest_uf sl (by have := H.len; omega) (fun x hx => by have := H.fin x hx; have := H.auto.few; omega) hs).mono ?_
  rintro v' h' ⟨e, rfl⟩
  exact ⟨e, _, _, _, rfl, (H.rws.best s).patterns H.auto.auto⟩

end Go.Proofs.Ytenpjkinpecnfaa
