/-
  Layer nfa, as it is told of patterns: many ways, and the longest front.
-/
import Derived.Test.YtenpjkinpecnfaaMade
import Derived.Test.YtenpjkinpecnfaaAmAu
import Derived.KernelRfl
namespace Go.Proofs.Ytenpjkinpecnfaa
open Go Go.Am
set_option maxRecDepth 100000
set_option maxHeartbeats 4000000
set_option linter.unusedSimpArgs false
set_option linter.unusedVariables false

theorem OfR.wt {ls : List (List Item)} {n : Nat} {ss ss2 : List St} (h : OfR ls n ss ss2) : wt ss2 ≤ Go.Proofs.Ytenpjkinpecnfaa.wt ss + pcost ls := by
  induction h with
  | nil => omega
  | @cons l ls n ss ss1 ss2 r run hr h0 t ih =>
    have h1 := run.wt
    have h2 := wt_free ss1 0 [r.from_]
    rw [endS_wt] at ih
    simp only [pcost, List.map_cons, List.sum_cons, List.length_singleton] at ih h2 ⊢
    omega
theorem Blocks.fin {G : List St} : ∀ {es : List Rx} {k : Nat} {fs : List Nat} {a z : Nat}, Blocks G es k fs a z → ∀ i, a ≤ i → i < z → ∃ x, G[i]? = some x ∧ x.fin ≤ k + es.length
  | [], k, fs, a, z, h, i, h1, h2 => by have := h.2; omega
  | e :: es, k, fs, a, z, ⟨f, t, b, fs', e1, F, g, h⟩, i, h1, h2 => by
    by_cases hb : i < b
    · by_cases ht : i = t
      · subst ht; exact ⟨_, g, by simp [stE]⟩
      · obtain ⟨x, h3, h4⟩ := F.fin0 i h1 hb ht
        exact ⟨x, h3, by omega⟩
    · obtain ⟨x, h3, h4⟩ := h.fin i (by omega) h2
      exact ⟨x, h3, by simp only [List.length_cons]; omega⟩
theorem Auto.fin {G : List St} {es : List Rx} (A : Auto G es) : 0 < G.length ∧ ∀ x ∈ G, x.fin ≤ es.length := by
  obtain ⟨fs, g0, B⟩ := A
  refine ⟨(List.getElem?_eq_some_iff.1 g0).1, fun x hx => ?_⟩
  obtain ⟨i, hi, rfl⟩ := List.getElem_of_mem hx
  by_cases h0 : i = 0
  · subst h0
    have := List.getElem?_eq_getElem hi
    rw [g0] at this
    simp only [Option.some.injEq] at this
    rw [← this]; simp [stF]
  · obtain ⟨x, h3, h4⟩ := B.fin i (by omega) hi
    have := List.getElem?_eq_getElem hi
    rw [h3] at this
    simp only [Option.some.injEq] at this
    rw [← this]; omega
theorem cost_le : ∀ {l : List Item}, (∀ x ∈ l, x.l.length ≤ 24) → cost l ≤ 58 * l.length
  | [], _ => by simp [cost]
  | x :: l, h => by
    have := cost_le fun y hy => h y (List.mem_cons_of_mem _ hy)
    have := h x (by simp)
    rw [cost_cons, List.length_cons]; omega
theorem pcost_le : ∀ {es : List Rx}, (∀ e ∈ es, Fit e) → pcost (es.map Rx.items) ≤ 2785 * es.length
  | [], _ => by simp [pcost]
  | e :: es, h => by
    have h1 := pcost_le fun y hy => h y (List.mem_cons_of_mem _ hy)
    have F := h e (by simp)
    have := cost_le F.rng
    have := F.few
    simp only [pcost, List.map_cons, List.sum_cons, List.length_cons] at h1 ⊢
    omega
/-- States that patterns make. -/
structure AutoFit (G : List St) (es : List Rx) : Prop where
  auto : Auto G es
  pos : 0 < G.length
  wt : wt G ≤ 1 + 2785 * es.length
  fin : ∀ x ∈ G, x.fin ≤ es.length
  few : es.length ≤ 100
theorem NfaOf_uf {h : Heap} {v : AV} {es : List Rx} (sv : Lst h v (es.map Rx.items)) (hf : ∀ e ∈ es, Fit e) (hl : es.length ≤ 100) :
    UF T F 29 [v] h fun v' h' => Ext h h' ∧ ∃ G, Lst h' v' G ∧ AutoFit G es := by
  obtain ⟨G, R, A⟩ := auto_of es fun e he => (hf e he).ok
  have hp := pcost_le hf
  refine (Of_uf sv R (by simp; omega) (fun l hl => ?_) (by omega)).mono ?_
  · obtain ⟨e, he, rfl⟩ := List.mem_map.1 hl
    have := (hf e he).few; omega
  · rintro v' h' ⟨e1, L⟩
    have hw := R.wt
    have h1 : wt [st0] = 1 := rfl
    exact ⟨e1, G, L, A, A.fin.1, by omega, A.fin.2, hl⟩
theorem nBest_uf {h : Heap} {G : List St} {l : AV} {es : List Rx} {s : List UInt8} (sl : Lst h l G) (A : AutoFit G es) (hs : s.length ≤ 1000) :
    UF T F 31 [l, .str s] h fun v' h' => Ext h h' ∧ ∃ k n ok, v' = .tup [.int .i64 (k : Nat), .int .i64 (n : Nat), .bool ok] ∧ BestR es s k n ok := by
  refine (nLongest_uf sl A.pos (by have := A.wt; have := A.few; omega) (by omega) fun x hx => by have := A.fin x hx; have := A.few; omega).mono ?_
  rintro v' h' ⟨e1, k, n, ok, rfl, b⟩
  exact ⟨e1, k, n, ok, rfl, b.patterns A.auto⟩
/-- The least of texts: a byte. -/
theorem fit_byte (a b : UInt8) (h : RngOk ⟨a, b⟩) : Fit (.cls [⟨a, b⟩]) := ⟨⟨by simp, by simpa using h⟩, by simp [Rx.items], by simp [Rx.items]⟩

/-- A pattern of one byte that is written out. -/
theorem lit_byte {h : Heap} (a : UInt8) : ∃ H', Le H' (((h.add (.cells [.int .u8 a.toNat, .int .u8 a.toNat] true)).add (.cells [.int .i64 1, .slc (some (h.nxt, 0)) 1 (some 1) 2] true)).add (.cells [.slc (some (h.nxt + 1, 0)) 1 (some 1) 2] true)) ∧
    Ext h H' ∧ Lst H' (.slc (some (h.nxt + 1 + 1, 0)) 1 (some 1) 1) ([Rx.cls [⟨a, a⟩]].map Rx.items) := by
  have gH0 : (((h.add (.cells [.int .u8 a.toNat, .int .u8 a.toNat] true)).add (.cells [.int .i64 1, .slc (some (h.nxt, 0)) 1 (some 1) 2] true)).add (.cells [.slc (some (h.nxt + 1, 0)) 1 (some 1) 2] true)).get h.nxt = some (.cells [.int .u8 a.toNat, .int .u8 a.toNat] true) := by
    rw [get_add_lt (by simp; omega), get_add_lt (by simp), get_add_self]
  have gH1 : (((h.add (.cells [.int .u8 a.toNat, .int .u8 a.toNat] true)).add (.cells [.int .i64 1, .slc (some (h.nxt, 0)) 1 (some 1) 2] true)).add (.cells [.slc (some (h.nxt + 1, 0)) 1 (some 1) 2] true)).get (h.nxt + 1) = some (.cells [.int .i64 1, .slc (some (h.nxt, 0)) 1 (some 1) 2] true) := by
    rw [get_add_lt (by simp), ← Heap.add_nxt h (.cells [.int .u8 a.toNat, .int .u8 a.toNat] true), get_add_self]
  have gH2 : (((h.add (.cells [.int .u8 a.toNat, .int .u8 a.toNat] true)).add (.cells [.int .i64 1, .slc (some (h.nxt, 0)) 1 (some 1) 2] true)).add (.cells [.slc (some (h.nxt + 1, 0)) 1 (some 1) 2] true)).get (h.nxt + 1 + 1) = some (.cells [.slc (some (h.nxt + 1, 0)) 1 (some 1) 2] true) := by
    have : ((h.add (.cells [.int .u8 a.toNat, .int .u8 a.toNat] true)).add (.cells [.int .i64 1, .slc (some (h.nxt, 0)) 1 (some 1) 2] true)).nxt = h.nxt + 1 + 1 := by simp
    rw [← this, get_add_self]
  have eH : Ext h (((h.add (.cells [.int .u8 a.toNat, .int .u8 a.toNat] true)).add (.cells [.int .i64 1, .slc (some (h.nxt, 0)) 1 (some 1) 2] true)).add (.cells [.slc (some (h.nxt + 1, 0)) 1 (some 1) 2] true)) := ((Ext.add _ _).trans (Ext.add _ _)).trans (Ext.add _ _)
  have nH : (((h.add (.cells [.int .u8 a.toNat, .int .u8 a.toNat] true)).add (.cells [.int .i64 1, .slc (some (h.nxt, 0)) 1 (some 1) 2] true)).add (.cells [.slc (some (h.nxt + 1, 0)) 1 (some 1) 2] true)).nxt = h.nxt + 3 := by simp
  generalize (((h.add (.cells [.int .u8 a.toNat, .int .u8 a.toNat] true)).add (.cells [.int .i64 1, .slc (some (h.nxt, 0)) 1 (some 1) 2] true)).add (.cells [.slc (some (h.nxt + 1, 0)) 1 (some 1) 2] true)) = H at *
  have L1 : Lst (H.frz h.nxt) (.slc (some (h.nxt, 0)) 1 (some 1) 2) [(⟨a, a⟩ : Rng)] := (LSlc.lit (h := H) (ls := [[.int .u8 a.toNat, .int .u8 a.toNat]]) (by omega) gH0 rfl (Reps.one rfl) rfl rfl).frz
  have g1 : (H.frz h.nxt).get (h.nxt + 1) = _ := (frz_ne (by omega)).trans gH1
  have L2 : Lst ((H.frz h.nxt).frz (h.nxt + 1)) (.slc (some (h.nxt + 1, 0)) 1 (some 1) 2) [(⟨1, [⟨a, a⟩]⟩ : Item)] := (LSlc.lit (h := H.frz h.nxt) (ls := [[.int .i64 1, .slc (some (h.nxt, 0)) 1 (some 1) 2]]) (by simp; omega) g1 rfl (Reps.one (x := (⟨1, [⟨a, a⟩]⟩ : Item)) ⟨_, rfl, L1⟩) rfl rfl).frz
  have g2 : ((H.frz h.nxt).frz (h.nxt + 1)).get (h.nxt + 1 + 1) = _ := (frz_ne (by omega)).trans ((frz_ne (by omega)).trans gH2)
  have L3 : Lst (((H.frz h.nxt).frz (h.nxt + 1)).frz (h.nxt + 1 + 1)) (.slc (some (h.nxt + 1 + 1, 0)) 1 (some 1) 1) [[(⟨1, [⟨a, a⟩]⟩ : Item)]] := (LSlc.lit (h := (H.frz h.nxt).frz (h.nxt + 1)) (ls := [[.slc (some (h.nxt + 1, 0)) 1 (some 1) 2]]) (by simp; omega) g2 rfl (Reps.one (x := [(⟨1, [⟨a, a⟩]⟩ : Item)]) ⟨_, rfl, L2⟩) rfl rfl).frz
  refine ⟨_, (frz_le _ _).trans ((frz_le _ _).trans (frz_le _ _)), ?_, L3⟩
  exact ((eH.upd (h.nxt ≤ ·)).trans ((frz_upd (b := h.nxt) (Nat.le_refl _)).trans' ((frz_upd (S := (h.nxt ≤ ·)) (b := h.nxt + 1) (by omega)).trans' (frz_upd (S := (h.nxt ≤ ·)) (b := h.nxt + 1 + 1) (by omega)) fun b h1 _ => h1) fun b h1 _ => h1)).ext fun b hb => by omega

theorem HasR.cls {a : UInt8} {w : List UInt8} {m : Nat} : HasR [.cls [⟨a, a⟩]] w m ↔ m = 0 ∧ w = [a] := by
  constructor
  · rintro ⟨e, h1, h2⟩
    cases m with
    | zero =>
      simp only [List.getElem?_cons_zero, Option.some.injEq] at h1
      subst h1
      obtain ⟨c, rfl, r, hr, h3, h4⟩ := h2
      simp only [List.mem_singleton] at hr
      subst hr
      have h3 : a ≤ c := h3
      have h4 : c ≤ a := h4
      exact ⟨rfl, by rw [UInt8.le_antisymm h4 h3]⟩
    | succ m => simp at h1
  · rintro ⟨rfl, rfl⟩
    exact ⟨_, rfl, a, rfl, ⟨a, a⟩, by simp, UInt8.le_refl a, UInt8.le_refl a⟩

theorem begun4_uf {h : Heap} : UF T F 27 [] h fun v h' => Ext h h' ∧ v = .bool true := by
  refine UF.gen fun Q hQ => UF.of (F_27) (c := _) rfl ?_
  unfold Try.f27
  simp only [List.length, Nat.reduceSub, Nat.reduceAdd, List.replicate, List.cons_append, List.nil_append]
  simp (disch := omega) only [go_sem, seval]
  obtain ⟨H, l0, e0, L0⟩ := lit_byte (h := h) 97
  have hf : ∀ e ∈ [Rx.cls [⟨97, 97⟩]], Fit e := fun e he => by
    simp only [List.mem_singleton] at he; subst he; exact fit_byte 97 97 ⟨by decide, by decide, by decide⟩
  refine callV_ofU F_29 rfl ((UF.less l0 (NfaOf_uf L0 hf (by simp))).mono ?_)
  rintro v1 h1 ⟨e1, G, L1, A⟩
  simp (disch := omega) only [go_sem, seval]
  refine callV_ofU F_31 rfl ((nBest_uf (s := [97, 98]) L1 A (by simp)).mono ?_)
  rintro v2 h2 ⟨e2, k, n, ok, rfl, b2⟩
  simp (disch := omega) only [go_sem, seval]
  refine callV_ofU F_31 rfl ((nBest_uf (s := [98]) (L1.ext e2) A (by simp)).mono ?_)
  rintro v3 h3 ⟨e3, k3, n3, ok3, rfl, b3⟩
  simp (disch := omega) only [go_sem, seval]
  obtain ⟨ga, gn, gc, gz, rfl, hgn⟩ := L1.form
  have hg := A.pos
  have hg0 : (gn : Int) > 0 := by omega
  have r2 : k = 0 ∧ n = 1 ∧ ok = true := b2.unique (.inr ⟨rfl, by decide, by decide, HasR.cls.2 ⟨rfl, rfl⟩, fun m hm => by omega, fun j j1 j2 m hm => by
    have := congrArg List.length (HasR.cls.1 hm).2
    simp only [List.length_take, List.length_cons, List.length_nil] at this j2; omega⟩)
  have r3 : k3 = 0 ∧ n3 = 0 ∧ ok3 = false := b3.unique (.inl ⟨rfl, rfl, rfl, fun j j1 j2 m hm => by
    simp only [List.length_cons, List.length_nil] at j2
    have : j = 1 := by omega
    subst this
    have := (HasR.cls.1 hm).2
    simp at this⟩)
  obtain ⟨rfl, rfl, rfl⟩ := r2
  obtain ⟨rfl, rfl, rfl⟩ := r3
  simp (disch := omega) only [go_sem, seval, hg0]
  exact hQ _ _ ⟨((e0.trans e1).trans e2).trans e3, rfl⟩

/-- A part of a text. -/
theorem str_hi {K : KH} {h : Heap} {s : List UInt8} {kd : IntKind} {i : Nat} (hi : i ≤ s.length) (k : K.k (.str (s.take i)) h) : @OBk (match sliceA T 9 (.str s) none (some (.int kd (i : Int))) none with | some r => some (r, h) | none => none) K := by
  have : sliceA T 9 (.str s) none (some (.int kd (i : Int))) none = some (.str (s.take i)) := by
    simp only [sliceA, T_9]
    rw [sbounds_hi (by omega) (by omega)]
    simp
  rw [this]; exact k
theorem str_lo {K : KH} {h : Heap} {s : List UInt8} {kd : IntKind} {i : Nat} (hi : i ≤ s.length) (k : K.k (.str (s.drop i)) h) : @OBk (match sliceA T 9 (.str s) (some (.int kd (i : Int))) none none with | some r => some (r, h) | none => none) K := by
  have : sliceA T 9 (.str s) (some (.int kd (i : Int))) none none = some (.str (s.drop i)) := by
    simp only [sliceA, T_9]
    rw [sbounds_lo (by omega) (by omega)]
    simp only [Int.toNat_natCast]
    rw [List.take_of_length_le (by simp)]
  rw [this]; exact k
theorem str_both {K : KH} {h : Heap} {s : List UInt8} {kd kd' : IntKind} {i j : Nat} (hi : i ≤ j) (hj : j ≤ s.length) (k : K.k (.str ((s.drop i).take (j - i))) h) : @OBk (match sliceA T 9 (.str s) (some (.int kd (i : Int))) (some (.int kd' (j : Int))) none with | some r => some (r, h) | none => none) K := by
  have : sliceA T 9 (.str s) (some (.int kd (i : Int))) (some (.int kd' (j : Int))) none = some (.str ((s.drop i).take (j - i))) := by
    simp only [sliceA, T_9]
    rw [sbounds_both (by omega) (by omega) (by omega)]
    simp
  rw [this]; exact k
/-- Two lists of bytes that are handed over. -/
theorem slc_frzV {h : Heap} {v w : AV} {sz : Nat} {ls : List (List AV)} (a : Slc h w sz ls) : Slc (h.frzV v) w sz ls := by
  rcases a with a | ⟨b', o, cap, cs, wr, rfl, hb', hc'⟩
  · exact .inl a
  · by_cases he : v.base = some b'
    · have hg : ∃ wr', (h.frzV v).get b' = some (.cells cs wr') := by
        unfold Heap.frzV
        split
        · rename_i b2 _ _ _ _
          simp only [AV.base, Option.some.injEq] at he
          subst he
          exact ⟨false, frz_eq hb'.get⟩
        · exact ⟨wr, hb'.get⟩
      obtain ⟨wr', hg⟩ := hg
      exact .inr ⟨b', o, cap, cs, wr', rfl, ⟨by simpa using hb'.lt, hg, hb'.len, hb'.room, hb'.win⟩, hc'⟩
    · exact .inr ⟨b', o, cap, cs, wr, rfl, ⟨by simpa using hb'.lt, by rw [frzV_ne he]; exact hb'.get, hb'.len, hb'.room, hb'.win⟩, hc'⟩
theorem bytes_two {h : Heap} {v w : AV} {zs ys : List Int} (hv : Slc h v 1 (zs.map fun z => [.int .u8 z])) (hb : ∀ z ∈ zs, IntKind.u8.min ≤ z ∧ z ≤ IntKind.u8.max) (hw : Slc h w 1 (ys.map fun z => [.int .u8 z])) (hc : ∀ z ∈ ys, IntKind.u8.min ≤ z ∧ z ≤ IntKind.u8.max) :
    ∃ H l m, Le H h ∧ Lst H v (l : List UInt8) ∧ Lst H w (m : List UInt8) := by
  obtain ⟨l, _, L⟩ := bytes_lst hv hb
  obtain ⟨m, _, M⟩ := bytes_lst (slc_frzV hw) hc
  exact ⟨_, l, m, (frzV_le _ _).trans (frzV_le _ _), L.pst (frzV_pst _ _), M⟩

end Go.Proofs.Ytenpjkinpecnfaa
