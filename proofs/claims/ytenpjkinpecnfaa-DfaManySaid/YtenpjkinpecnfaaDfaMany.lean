/- There are so many rows at most: any letters, an a, and so many more have a row for each set of places of an a, and where these are too many there are no rows. For how many bytes are kept in mind. -/
import Derived.Test.YtenpjkinpecnfaaDfaG
import Derived.KernelRfl
namespace Go.Proofs.Ytenpjkinpecnfaa
open Go Go.Am
set_option maxRecDepth 100000
set_option maxHeartbeats 4000000
set_option linter.unusedSimpArgs false
set_option linter.unusedVariables false

/-- Any letters, an a, and so many bytes. -/
def eK : Nat → Rx
  | 0 => .bin 2 (.rep 4 (.cls [⟨97, 97⟩, ⟨98, 98⟩])) (.cls [⟨97, 97⟩])
  | k + 1 => .bin 2 (eK k) (.cls [⟨32, 126⟩])
def strK (k : Nat) : List UInt8 := [91, 97, 98, 93, 42, 97] ++ List.replicate k 46
theorem parse_K0 : parse (strK 0) = some (eK 0).items := by kernel_rfl
theorem parse_K1 : parse (strK 1) = some (eK 1).items := by kernel_rfl
theorem parse_K2 : parse (strK 2) = some (eK 2).items := by kernel_rfl
theorem parse_K3 : parse (strK 3) = some (eK 3).items := by kernel_rfl
theorem parse_K4 : parse (strK 4) = some (eK 4).items := by kernel_rfl
theorem parse_K5 : parse (strK 5) = some (eK 5).items := by kernel_rfl
theorem parse_K6 : parse (strK 6) = some (eK 6).items := by kernel_rfl
theorem parse_K7 : parse (strK 7) = some (eK 7).items := by kernel_rfl
theorem parse_K8 : parse (strK 8) = some (eK 8).items := by kernel_rfl
theorem parse_K9 : parse (strK 9) = some (eK 9).items := by kernel_rfl
theorem parse_K10 : parse (strK 10) = some (eK 10).items := by kernel_rfl
theorem parse_K11 : parse (strK 11) = some (eK 11).items := by kernel_rfl
theorem parse_K : ∀ k, k < 12 → parse (strK k) = some (eK k).items
  | 0, _ => parse_K0
  | 1, _ => parse_K1
  | 2, _ => parse_K2
  | 3, _ => parse_K3
  | 4, _ => parse_K4
  | 5, _ => parse_K5
  | 6, _ => parse_K6
  | 7, _ => parse_K7
  | 8, _ => parse_K8
  | 9, _ => parse_K9
  | 10, _ => parse_K10
  | 11, _ => parse_K11
  | k + 12, h => absurd h (by omega)
theorem eK_ok : ∀ k, (eK k).ok
  | 0 => ⟨.inl rfl, ⟨.inl rfl, by simp, by
      intro x hx
      simp only [List.mem_cons, List.not_mem_nil, or_false] at hx
      rcases hx with rfl | rfl <;> exact ⟨by decide, by decide, by decide⟩⟩, by simp, by
      intro x hx; simp only [List.mem_singleton] at hx; subst hx; exact ⟨by decide, by decide, by decide⟩⟩
  | k + 1 => ⟨.inl rfl, eK_ok k, by simp, by intro x hx; simp only [List.mem_singleton] at hx; subst hx; exact ⟨by decide, by decide, by decide⟩⟩
theorem eK_ncls : ∀ k, ncls (eK k) = k + 2
  | 0 => rfl
  | k + 1 => by rw [eK, ncls, eK_ncls k]; rfl
theorem fit_parse {s : List UInt8} {e : Rx} (h : parse s = some e.items) (ho : e.ok) : Fit e := by
  have := parse_few h
  exact ⟨ho, by omega, fun x hx => (this.2.1 x hx).1⟩

def ab (c : UInt8) : Prop := c = 97 ∨ c = 98
theorem cls_one {a : UInt8} {w : List UInt8} : Lang (.cls [⟨a, a⟩]) w ↔ w = [a] := by
  constructor
  · rintro ⟨c, rfl, r, hr, h1, h2⟩
    simp only [List.mem_singleton] at hr; subst hr
    rw [UInt8.le_antisymm h2 h1]
  · rintro rfl; exact ⟨a, rfl, ⟨a, a⟩, by simp, UInt8.le_refl a, UInt8.le_refl a⟩
theorem cls_ab {w : List UInt8} : Lang (.cls [⟨97, 97⟩, ⟨98, 98⟩]) w ↔ ∃ c, w = [c] ∧ ab c := by
  constructor
  · rintro ⟨c, rfl, r, hr, h1, h2⟩
    simp only [List.mem_cons, List.not_mem_nil, or_false] at hr
    rcases hr with rfl | rfl
    · exact ⟨c, rfl, .inl (UInt8.le_antisymm h2 h1)⟩
    · exact ⟨c, rfl, .inr (UInt8.le_antisymm h2 h1)⟩
  · rintro ⟨c, rfl, rfl | rfl⟩
    · exact ⟨97, rfl, ⟨97, 97⟩, by simp, UInt8.le_refl _, UInt8.le_refl _⟩
    · exact ⟨98, rfl, ⟨98, 98⟩, by simp, UInt8.le_refl _, UInt8.le_refl _⟩
theorem star_ab {w : List UInt8} : Lang (.rep 4 (.cls [⟨97, 97⟩, ⟨98, 98⟩])) w ↔ ∀ c ∈ w, ab c := by
  constructor
  · rintro (⟨rfl, _⟩ | ⟨h, _⟩ | ⟨_, h⟩)
    · simp
    · omega
    · induction h with
      | one h => obtain ⟨c, rfl, hc⟩ := cls_ab.1 h; intro d hd; simp only [List.mem_singleton] at hd; subst hd; exact hc
      | more h _ ih =>
        obtain ⟨c, rfl, hc⟩ := cls_ab.1 h
        intro d hd
        rcases List.mem_append.1 hd with hd | hd
        · simp only [List.mem_singleton] at hd; subst hd; exact hc
        · exact ih d hd
  · intro h
    cases w with
    | nil => exact .inl ⟨rfl, by omega⟩
    | cons c w =>
      refine .inr (.inr ⟨by omega, ?_⟩)
      induction w generalizing c with
      | nil => exact .one (cls_ab.2 ⟨c, rfl, h c (by simp)⟩)
      | cons d w ih => exact .more (u := [c]) (cls_ab.2 ⟨c, rfl, h c (by simp)⟩) (ih d fun x hx => h x (by simp [hx]))
theorem lang_K : ∀ (k : Nat) {w : List UInt8}, Lang (eK k) w ↔ ∃ x y, w = x ++ 97 :: y ∧ (∀ c ∈ x, ab c) ∧ y.length = k ∧ ∀ c ∈ y, (32 : UInt8) ≤ c ∧ c ≤ 126
  | 0, w => by
    have h0 : Lang (eK 0) w ↔ ∃ u v, w = u ++ v ∧ Lang (.rep 4 (.cls [⟨97, 97⟩, ⟨98, 98⟩])) u ∧ Lang (.cls [⟨97, 97⟩]) v := by
      conv => lhs; rw [eK, Lang]
      simp
    rw [h0]
    constructor
    · rintro ⟨u, v, rfl, h1, h2⟩
      rw [cls_one.1 h2]
      exact ⟨u, [], rfl, star_ab.1 h1, rfl, by simp⟩
    · rintro ⟨x, y, rfl, h1, h2, _⟩
      rw [List.eq_nil_of_length_eq_zero h2]
      exact ⟨x, [97], rfl, star_ab.2 h1, cls_one.2 rfl⟩
  | k + 1, w => by
    have h0 : Lang (eK (k + 1)) w ↔ ∃ u v, w = u ++ v ∧ Lang (eK k) u ∧ Lang (.cls [⟨32, 126⟩]) v := by
      conv => lhs; rw [eK, Lang]
      simp
    rw [h0]
    constructor
    · rintro ⟨u, v, rfl, h1, c, rfl, r, hr, h2, h3⟩
      simp only [List.mem_singleton] at hr; subst hr
      obtain ⟨x, y, rfl, h4, h5, h6⟩ := (lang_K k).1 h1
      refine ⟨x, y ++ [c], by simp, h4, by simp [h5], fun d hd => ?_⟩
      rcases List.mem_append.1 hd with hd | hd
      · exact h6 d hd
      · simp only [List.mem_singleton] at hd; subst hd; exact ⟨h2, h3⟩
    · rintro ⟨x, y, rfl, h4, h5, h6⟩
      have hne : y ≠ [] := by intro e; subst e; simp at h5
      refine ⟨x ++ 97 :: y.dropLast, [y.getLast hne], ?_, (lang_K k).2 ⟨x, y.dropLast, rfl, h4, by simp [h5], fun c hc => h6 c (List.dropLast_subset _ hc)⟩, y.getLast hne, rfl, ⟨32, 126⟩, by simp, (h6 _ (List.getLast_mem hne)).1, (h6 _ (List.getLast_mem hne)).2⟩
      rw [List.append_assoc, List.cons_append, List.dropLast_concat_getLast]
/-- Of letters a and b alone. -/
theorem lang_ab {k : Nat} {w : List UInt8} (hw : ∀ c ∈ w, ab c) {p : Nat} (hp : p + k + 1 = w.length) : Lang (eK k) w ↔ w[p]? = some 97 := by
  rw [lang_K]
  constructor
  · rintro ⟨x, y, rfl, h1, h2, h3⟩
    have : p = x.length := by simp at hp; omega
    subst this
    rw [List.getElem?_append_right (by omega)]; simp
  · intro h
    have hpl := (List.getElem?_eq_some_iff.1 h).1
    have he : w = w.take p ++ 97 :: w.drop (p + 1) := by
      have h1 : w[p] = 97 := (List.getElem?_eq_some_iff.1 h).2
      rw [← h1, ← List.drop_eq_getElem_cons hpl, List.take_append_drop]
    refine ⟨w.take p, w.drop (p + 1), he, fun c hc => hw c (List.mem_of_mem_take hc), by simp; omega, fun c hc => ?_⟩
    rcases hw c (List.mem_of_mem_drop hc) with rfl | rfl <;> exact ⟨by decide, by decide⟩

theorem same_live {G : List St} {u u' : List UInt8} (h : ∀ q, Live G u q ↔ Live G u' q) : ∀ (n : Nat) (v : List UInt8), v.length = n → ∀ q, Live G (u ++ v) q ↔ Live G (u' ++ v) q
  | 0, v, hv, q => by
    rw [List.eq_nil_of_length_eq_zero hv, List.append_nil, List.append_nil]; exact h q
  | n + 1, v, hv, q => by
    have hne : v ≠ [] := by intro e; subst e; simp at hv
    rw [← List.dropLast_concat_getLast hne, ← List.append_assoc, ← List.append_assoc, live_next, live_next]
    have ih := same_live h n v.dropLast (by simp [hv])
    constructor
    · rintro ⟨p, x, h1, h2⟩; exact ⟨p, x, (ih p).1 h1, h2⟩
    · rintro ⟨p, x, h1, h2⟩; exact ⟨p, x, (ih p).2 h1, h2⟩
theorem same_has {G : List St} {es : List Rx} (A : Auto G es) {u u' : List UInt8} (h : ∀ q, Live G u q ↔ Live G u' q) {m : Nat} (hu : HasR es u m) : HasR es u' m := by
  obtain ⟨n, q, x, W, hx, hf⟩ := A.acc.2 hu
  obtain ⟨_, n2, W2⟩ := (h q).1 ⟨(List.getElem?_eq_some_iff.1 hx).1, n, W⟩
  exact A.acc.1 ⟨n2, q, x, W2, hx, hf⟩
/-- Each word of letters comes to a row. -/
theorem word_row {G : List St} {S : List (List Nat)} {R : List Row} {k : Nat} (H : RowFit G S R [eK k]) : ∀ (n : Nat) (w : List UInt8), w.length = n → (∀ c ∈ w, ab c) → ∃ (j : Nat) (t : List Nat), S[j]? = some t ∧ ∀ q, q ∈ t ↔ Live G w q
  | 0, w, hw, _ => ⟨0, _, H.rws.start, fun q => by rw [List.eq_nil_of_length_eq_zero hw]; exact start_live q⟩
  | n + 1, w, hw, hab => by
    have hne : w ≠ [] := by intro e; subst e; simp at hw
    obtain ⟨j, t, hj, ht⟩ := word_row H n w.dropLast (by simp [hw]) fun c hc => hab c (List.dropLast_subset _ hc)
    obtain ⟨x, _, _, _, hn⟩ := H.rws.row j t hj
    obtain ⟨v, _, hg⟩ := hn (w.getLast hne)
    have hl := goes_live ht (w.getLast hne)
    rw [List.dropLast_concat_getLast] at hl
    rcases hg with ⟨hg, _⟩ | ⟨_, j2, _, hj2⟩
    · have hacc : HasR [eK k] (w ++ 97 :: List.replicate k 97) 0 := ⟨_, rfl, (lang_K k).2 ⟨w, List.replicate k 97, rfl, hab, by simp, fun c hc => by rw [(List.mem_replicate.1 hc).2]; exact ⟨by decide, by decide⟩⟩⟩
      obtain ⟨n2, q, x2, W, hx2, _⟩ := H.auto.auto.acc.2 hacc
      obtain ⟨p, hp⟩ := live_front _ _ rfl (⟨(List.getElem?_eq_some_iff.1 hx2).1, n2, W⟩ : Live G (w ++ 97 :: List.replicate k 97) q)
      have := (hl p).2 hp
      rw [hg] at this; cases this
    · exact ⟨j2, _, hj2, hl⟩
def words : Nat → List (List UInt8)
  | 0 => [[]]
  | n + 1 => (words n).map (97 :: ·) ++ (words n).map (98 :: ·)
theorem words_len : ∀ n, (words n).length = 2 ^ n
  | 0 => rfl
  | n + 1 => by rw [words, List.length_append, List.length_map, List.length_map, words_len n]; omega
theorem words_mem : ∀ n, ∀ w ∈ words n, w.length = n ∧ ∀ c ∈ w, ab c
  | 0, w, h => by simp [words] at h; subst h; simp
  | n + 1, w, h => by
    rw [words, List.mem_append, List.mem_map, List.mem_map] at h
    rcases h with ⟨u, hu, rfl⟩ | ⟨u, hu, rfl⟩
    · have := words_mem n u hu
      exact ⟨by simp [this.1], fun c hc => by rcases List.mem_cons.1 hc with rfl | hc; exact .inl rfl; exact this.2 c hc⟩
    · have := words_mem n u hu
      exact ⟨by simp [this.1], fun c hc => by rcases List.mem_cons.1 hc with rfl | hc; exact .inr rfl; exact this.2 c hc⟩
theorem words_nodup : ∀ n, (words n).Nodup
  | 0 => by simp [words]
  | n + 1 => by
    have ih := words_nodup n
    rw [words, List.nodup_append]
    refine ⟨?_, ?_, fun a ha b hb e => ?_⟩
    · exact List.pairwise_map.2 (ih.imp fun h e => h (by simpa using e))
    · exact List.pairwise_map.2 (ih.imp fun h e => h (by simpa using e))
    · obtain ⟨u, _, rfl⟩ := List.mem_map.1 ha
      obtain ⟨v, _, rfl⟩ := List.mem_map.1 hb
      simp at e
theorem many_rows {G : List St} {S : List (List Nat)} {R : List Row} {k : Nat} (H : RowFit G S R [eK k]) (hk : 9 ≤ k) : False := by
  have hrow := fun w (hw : w ∈ words 9) => word_row H 9 w (words_mem 9 w hw).1 (words_mem 9 w hw).2
  let f : List UInt8 → Nat := fun w => @dite Nat (w ∈ words 9) (Classical.propDecidable _) (fun h => Classical.choose (hrow w h)) fun _ => 0
  have hf : ∀ w (h : w ∈ words 9), ∃ t, S[f w]? = some t ∧ ∀ q, q ∈ t ↔ Live G w q := fun w h => by
    have : f w = Classical.choose (hrow w h) := by simp only [f]; rw [dif_pos h]
    rw [this]; exact Classical.choose_spec (hrow w h)
  have inj : ∀ u ∈ words 9, ∀ v ∈ words 9, f u = f v → u = v := fun u hu v hv e => by
    obtain ⟨t, h1, h2⟩ := hf u hu
    obtain ⟨t2, h3, h4⟩ := hf v hv
    rw [e, h3] at h1
    simp only [Option.some.injEq] at h1
    subst h1
    have hlive : ∀ q, Live G u q ↔ Live G v q := fun q => (h2 q).symm.trans (h4 q)
    obtain ⟨lu, au⟩ := words_mem 9 u hu
    obtain ⟨lv, av⟩ := words_mem 9 v hv
    have at97 : ∀ {u v : List UInt8}, u.length = 9 → v.length = 9 → (∀ c ∈ u, ab c) → (∀ c ∈ v, ab c) → (∀ q, Live G u q ↔ Live G v q) → ∀ p, p < 9 → u[p]? = some 97 → v[p]? = some 97 := fun {u v} lu lv au av hl p hp hu97 => by
      have abr : ∀ {w : List UInt8}, (∀ c ∈ w, ab c) → ∀ c ∈ w ++ List.replicate (p + k - 8) 97, ab c := fun {w} hw c hc => by
        rcases List.mem_append.1 hc with hc | hc
        · exact hw c hc
        · exact .inl (List.mem_replicate.1 hc).2
      have g1 : HasR [eK k] (u ++ List.replicate (p + k - 8) 97) 0 := ⟨_, rfl, (lang_ab (abr au) (p := p) (by simp; omega)).2 (by rw [List.getElem?_append_left (by omega)]; exact hu97)⟩
      obtain ⟨e, he, g2⟩ := same_has H.auto.auto (same_live hl _ _ rfl) g1
      simp only [List.getElem?_cons_zero, Option.some.injEq] at he
      subst he
      have := (lang_ab (abr av) (p := p) (by simp; omega)).1 g2
      rwa [List.getElem?_append_left (by omega)] at this
    refine List.ext_getElem? fun p => ?_
    by_cases hp : p < 9
    · have hup : u[p]? = some u[p] := List.getElem?_eq_getElem (by omega)
      have hvp : v[p]? = some v[p] := List.getElem?_eq_getElem (by omega)
      rcases au u[p] (List.getElem_mem (by omega)) with h5 | h5
      · rw [at97 lu lv au av hlive p hp (by rw [hup, h5]), hup, h5]
      · rcases av v[p] (List.getElem_mem (by omega)) with h6 | h6
        · have := at97 lv lu av au (fun q => (hlive q).symm) p hp (by rw [hvp, h6])
          rw [hup, h5] at this; simp at this
        · rw [hup, hvp, h5, h6]
    · rw [List.getElem?_eq_none (by omega), List.getElem?_eq_none (by omega)]
  have hnd : ((words 9).map f).Nodup := List.pairwise_map.2 (List.Pairwise.imp_of_mem (fun {a b} ha hb h e => h (inj a ha b hb e)) (words_nodup 9))
  have := nodup_le (m := List.range S.length) hnd fun x hx => by
    obtain ⟨w, hw, rfl⟩ := List.mem_map.1 hx
    obtain ⟨t, ht, _⟩ := hf w hw
    exact List.mem_range.2 (List.getElem?_eq_some_iff.1 ht).1
  rw [List.length_map, words_len, List.length_range, ← H.rws.len] at this
  have h2 := H.len.2.1
  have : (2 : Nat) ^ 9 = 512 := rfl
  omega

theorem HasR.one {e : Rx} {w : List UInt8} {m : Nat} : HasR [e] w m ↔ m = 0 ∧ Lang e w := by
  constructor
  · rintro ⟨x, h1, h2⟩
    cases m with
    | zero => simp only [List.getElem?_cons_zero, Option.some.injEq] at h1; subst h1; exact ⟨rfl, h2⟩
    | succ m => simp at h1
  · rintro ⟨rfl, h⟩; exact ⟨e, rfl, h⟩
theorem best_K {k : Nat} (hk : k ≤ 8) : BestR [eK k] (List.replicate 12 97) 0 12 true := by
  refine .inr ⟨rfl, by omega, by simp, HasR.one.2 ⟨rfl, ?_⟩, fun m hm => by omega, fun j j1 j2 => by simp at j2; omega⟩
  rw [List.take_of_length_le (by simp)]
  refine (lang_ab (p := 12 - k - 1) (fun c hc => .inl (List.mem_replicate.1 hc).2) (by simp; omega)).2 ?_
  rw [List.getElem?_replicate, if_pos (by omega)]
theorem more_rows {G : List St} {S : List (List Nat)} {R : List Row} {k : Nat} (H : RowFit G S R [eK k]) : 1 < R.length := by
  obtain ⟨j, t, hj, ht⟩ := word_row H (k + 1) (List.replicate (k + 1) 97) (by simp) fun c hc => .inl (List.mem_replicate.1 hc).2
  have hjl := (List.getElem?_eq_some_iff.1 hj).1
  by_cases h1 : 1 < R.length
  · exact h1
  · have hl := H.rws.len
    have hj0 : j = 0 := by omega
    subst hj0
    have h0 := H.rws.start
    rw [hj] at h0
    simp only [Option.some.injEq] at h0
    subst h0
    have hlive : ∀ q, Live G (List.replicate (k + 1) 97) q ↔ Live G [] q := fun q => (ht q).symm.trans (start_live q)
    have hin : HasR [eK k] (List.replicate (k + 1) 97) 0 := HasR.one.2 ⟨rfl, (lang_ab (p := 0) (fun c hc => .inl (List.mem_replicate.1 hc).2) (by simp)).2 (by rw [List.getElem?_replicate, if_pos (by omega)])⟩
    obtain ⟨_, h3⟩ := HasR.one.1 (same_has H.auto.auto hlive hin)
    obtain ⟨x, y, h4, _⟩ := (lang_K k).1 h3
    have := congrArg List.length h4
    simp at this

theorem DfaMany_uf {h : Heap} {b : UInt8} : UF T F 13 [.int .u8 b.toNat] h fun v' _ => v' = .bool true := by
  refine UF.gen fun Q hQ => UF.of (F_13) (c := _) rfl ?_
  unfold Try.f13
  simp only [List.length, Nat.reduceSub, Nat.reduceAdd, List.replicate, List.cons_append, List.nil_append]
  simp (disch := first | ((try simp only [heapN]) <;> omega) | fail) only [go_sem, seval]
  refine callV_ofU F_33 rfl ((begun5_uf).mono ?_)
  rintro v1 h1 ⟨e1, rfl⟩
  simp (disch := first | ((try simp only [heapN]) <;> omega) | fail) only [go_sem, seval]
  have hm12 : (b.toNat : Int).tmod 12 = ((b.toNat % 12 : Nat) : Int) := by rw [Int.ofNat_tmod]; rfl
  obtain ⟨k, hk, hk12⟩ : ∃ k : Nat, b.toNat % 12 = k ∧ k < 12 := ⟨_, rfl, Nat.mod_lt _ (by decide)⟩
  rw [hk] at hm12
  simp (disch := first | ((try simp only [heapN]) <;> omega) | fail) only [go_sem, seval, hm12]
  refine LoopU_while (fun m st hh => ∃ (i : Nat), i ≤ k ∧ m = k - i ∧ Ext h1 hh ∧
      Keep st 64 [(3, .int .i64 (k : Nat)), (4, .str (strK i)), (5, .int .i64 (i : Nat))]) k
    ⟨0, by omega, by omega, Ext.refl _, rfl, by simp [Has, strK]⟩ ?_
  rintro m st hh ⟨i, hi, rfl, eh, hk'⟩
  have hkp := hk'
  rw [hkp.eq]
  obtain ⟨k3, k4, k5, -⟩ := hkp.2
  simp only [slotsFrom, Nat.reduceAdd] at k3 k4 k5 ⊢
  simp only [k3, k4, k5]
  simp (disch := first | ((try simp only [heapN]) <;> omega) | fail) only [go_sem, seval]
  by_cases hlt : (i : Int) < (k : Int)
  · have hs1 : strOp .add (strK i) [46] = some (.str (strK i ++ [46])) := strOp_add (by simp [strK]; omega)
    have hn : strK i ++ [46] = strK (i + 1) := by unfold strK; rw [List.append_assoc, ← List.replicate_succ']
    simp (disch := first | ((try simp only [heapN]) <;> omega) | fail) only [go_sem, seval, hlt, hs1, hn]
    exact AgainK.mk (k - (i + 1)) (by simp only; omega) ⟨i + 1, by omega, rfl, eh, rfl, by simp [Has]⟩
  · simp (disch := first | ((try simp only [heapN]) <;> omega) | fail) only [go_sem, seval, hlt]
    have hik : i = k := by omega
    subst hik
    refine callV_ofU F_25 rfl ((refParse_frz (s := strK i)).mono ?_)
    rintro v3 h3 ⟨e3, m3⟩
    simp (disch := first | ((try simp only [heapN]) <;> omega) | fail) only [go_sem, seval]
    rw [parse_K i hk12] at m3
    obtain ⟨v4, rfl, L4⟩ := m3
    obtain ⟨a4, n4, c4, z4, rfl, hn4⟩ := L4.form
    simp (disch := first | ((try simp only [heapN]) <;> omega) | fail) only [go_sem, seval]
    have hF : ∀ e ∈ [eK i], Fit e := fun e he => by simp only [List.mem_singleton] at he; subst he; exact fit_parse (parse_K i hk12) (eK_ok i)
    have lit : Lst ((h3.add (.cells [.slc a4 n4 c4 z4] true)).frzV (.slc (some (h3.nxt, 0)) 1 (some 1) 1)) (.slc (some (h3.nxt, 0)) 1 (some 1) 1) ([eK i].map Rx.items) :=
      (LSlc.lit (wr := true) (b := h3.nxt) (ls := [[.slc a4 n4 c4 z4]]) (by simp) get_add_self rfl (Reps.one (x := (eK i).items) ⟨_, rfl, L4.ext (Ext.add _ _)⟩) rfl rfl).frz
    refine callV_ofU F_29 rfl ((UF.less (frzV_le _ _) (NfaOf_uf lit hF (by simp))).mono ?_)
    rintro v5 h5 ⟨e5, G, L5, A⟩
    simp (disch := first | ((try simp only [heapN]) <;> omega) | fail) only [go_sem, seval]
    refine callV_ofU F_34 rfl ((DfaOf_es L5 A (by simp)).mono ?_)
    rintro v6 h6 ⟨e6, m6⟩
    simp (disch := first | ((try simp only [heapN]) <;> omega) | fail) only [go_sem, seval]
    have hnc : ([eK i].map ncls).sum = i + 2 := by simp [eK_ncls]
    by_cases h8 : (i : Int) > 8
    · rcases m6 with ⟨S, R, L6, W⟩ | ⟨rfl, _⟩
      · exact (many_rows W (by omega)).elim
      · simp (disch := first | ((try simp only [heapN]) <;> omega) | fail) only [go_sem, seval, h8]
        exact hQ _ _ rfl
    · rcases m6 with ⟨S, R, L6, W⟩ | ⟨rfl, hc⟩
      · obtain ⟨ra, rn, rc, rz, rfl, hrn⟩ := L6.form
        simp (disch := first | ((try simp only [heapN]) <;> omega) | fail) only [go_sem, seval, h8]
        refine callV_ofU F_36 rfl ((dBest_uf (s := List.replicate 12 97) L6 W (by simp)).mono ?_)
        rintro v7 h7 ⟨e7, k7, n7, ok, rfl, b7⟩
        simp (disch := first | ((try simp only [heapN]) <;> omega) | fail) only [go_sem, seval]
        obtain ⟨rfl, rfl, rfl⟩ := b7.unique (best_K (by omega))
        have hr1 : (rn : Int) > 1 := by have := more_rows W; omega
        by_cases h4 : (i : Int) > 4
        · simp (disch := first | ((try simp only [heapN]) <;> omega) | fail) only [go_sem, seval, h4]
          exact hQ _ _ rfl
        · simp (disch := first | ((try simp only [heapN]) <;> omega) | fail) only [go_sem, seval, h4, hr1]
          exact hQ _ _ rfl
      · have h4 : (i : Int) > 4 := by omega
        simp (disch := first | ((try simp only [heapN]) <;> omega) | fail) only [go_sem, seval, h8]
        refine callV_ofU F_36 rfl ((dLongest_uf (R := []) (l := .slc none 0 (some 0) 0) (s := List.replicate 12 97) Lst.nil (by simp) (by simp) (by simp)).mono ?_)
        rintro v7 h7 ⟨e7, rfl⟩
        simp (disch := first | ((try simp only [heapN]) <;> omega) | fail) only [go_sem, seval]
        simp (disch := first | ((try simp only [heapN]) <;> omega) | fail) only [go_sem, seval, h4]
        exact hQ _ _ rfl

theorem DfaMany_law {h : Heap} {a : Int} (w : (Lit.int .u8 a).wf = true) : WF T F 13 [.int .u8 a] h fun v' h' => v' = .bool true := by
  obtain ⟨a, rfl⟩ := u8_lit w
  exact UF.toW DfaMany_uf

end Go.Proofs.Ytenpjkinpecnfaa
