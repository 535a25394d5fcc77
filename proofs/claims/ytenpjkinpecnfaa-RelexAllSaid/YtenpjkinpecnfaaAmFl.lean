/-
  The abstract machine: slices of flat things that a law is given.
-/
import Derived.Test.YtenpjkinpecnfaaAmArg
import Derived.ChangeArms
namespace Go.Am
open Go.RowKit
variable {P : Program} {T : TT} {F : Nat → Option Func}

theorem listed {X : Type} {p : Nat → X → Prop} : ∀ (n : Nat), (∀ i, i < n → ∃ x, p i x) → ∃ xs : List X, xs.length = n ∧ ∀ i x, xs[i]? = some x → p i x
  | 0, _ => ⟨[], rfl, fun i x h => by simp at h⟩
  | n + 1, h => by
    obtain ⟨xs, h1, h2⟩ := listed n fun i hi => h i (by omega)
    obtain ⟨x, hx⟩ := h n (by omega)
    refine ⟨xs ++ [x], by simp [h1], fun i y hy => ?_⟩
    by_cases hi : i < n
    · rw [List.getElem?_append_left (by omega)] at hy; exact h2 i y hy
    · have hl := (List.getElem?_eq_some_iff.1 hy).1
      simp at hl
      have : i = n := by omega
      subst this
      rw [List.getElem?_append_right (by omega), h1] at hy
      simp at hy; subst hy; exact hx

theorem addr_flat {x : Addr} (hs : x.spot = none) (i : Nat) : x.add i = ⟨x.block, x.off + i, none⟩ := by
  cases x; simp only at hs; subst hs
  unfold Addr.add
  split
  · simp_all
  · rfl

/-- What is given, element by element. -/
def IsFlat {X : Type} (Good : X → Prop) (enc : X → List Value) (sz : Nat) (w : World) (base : Nat) (a : Option Addr) (len cap : Nat) (xs : List X) : Prop :=
  (a = none ∧ len = 0 ∧ cap = 0 ∧ xs = []) ∨
  ∃ x, a = some x ∧ len ≤ cap ∧ cap ≤ maxLen ∧ xs.length = cap ∧ ∀ i y, xs[i]? = some y → Good y ∧ w.cells? base (x.add (i * sz)) sz = some (enc y)

theorem open_flat {H X : Type} {enc : TypeId × Value → H} {w : World} {base : Nat} {spare : Nat → Bool} {held : Bool} {Good : X → Prop} {ev : X → List Value} {sz : Nat} {t e : TypeId} {fuel : Nat} {a : Option Addr} {len cap : Nat} {x : DataW H × List MemPlace}
    (ht : P.underlying t = some (.slice e)) (hc : P.cellsOf e = sz) (hs : ∀ b, spare b = true) (hE : ∀ n cs y, DataW.trod enc P w base spare held n e cs = some y → ∃ z, Good z ∧ cs = ev z)
    (h : DataW.trod enc P w base spare held fuel t [.slice a len cap] = some x) : ∃ xs, IsFlat Good ev sz w base a len cap xs := by
  rcases DataW.trod_slice ht h with ⟨h0, _⟩ | ⟨a', len', cap', elems, rest, n, _, h1, _, hb, hl, hm, hlen, hel, hsp, _⟩
  · simp only [List.cons.injEq, Value.slice.injEq, and_true] at h0
    obtain ⟨rfl, rfl, rfl⟩ := h0
    exact ⟨[], .inl ⟨rfl, rfl, rfl, rfl⟩⟩
  · simp only [List.cons.injEq, Value.slice.injEq, and_true] at h1
    obtain ⟨rfl, rfl, rfl⟩ := h1
    obtain ⟨hr, hre⟩ := hsp (hs _)
    have each : ∀ i, i < cap → ∃ z, Good z ∧ w.cells? base (a'.add (i * sz)) sz = some (ev z) := by
      intro i hi
      have hy : ∃ y, (w.cells? base (a'.add (i * P.cellsOf e)) (P.cellsOf e)).bind (DataW.trod enc P w base spare held n e) = some y := by
        by_cases hil : i < len
        · rw [hel i hil]; exact ⟨_, List.getElem?_eq_getElem (by omega)⟩
        · have := hre (i - len) (by omega)
          rw [show len + (i - len) = i by omega] at this
          rw [this]; exact ⟨_, List.getElem?_eq_getElem (by omega)⟩
      obtain ⟨y, hy⟩ := hy
      rw [Option.bind_eq_some_iff, hc] at hy
      obtain ⟨cs, h2, h3⟩ := hy
      obtain ⟨z, g, rfl⟩ := hE n cs y h3
      exact ⟨z, g, h2⟩
    obtain ⟨xs, h2, h3⟩ := listed cap each
    exact ⟨xs, .inr ⟨a', rfl, hl, hm, h2, h3⟩⟩

theorem flat_get {α : Type} {sz : Nat} : ∀ {ls : List (List α)} (i j : Nat), (∀ l ∈ ls, l.length = sz) → j < sz → ls.flatten[i * sz + j]? = (ls[i]?).bind (·[j]?)
  | [], i, j, _, _ => by simp
  | l :: ls, 0, j, h, hj => by
    have := h l (by simp)
    simp only [List.flatten_cons, Nat.zero_mul, Nat.zero_add]
    rw [List.getElem?_append_left (by omega)]; rfl
  | l :: ls, i + 1, j, h, hj => by
    have h1 := h l (by simp)
    have e : (i + 1) * sz + j = sz + (i * sz + j) := by rw [Nat.add_mul]; omega
    simp only [List.flatten_cons]
    rw [e, List.getElem?_append_right (by omega), h1, Nat.add_sub_cancel_left, flat_get i j (fun l hl => h l (by simp [hl])) hj]
    rfl

/-- A slice of flat things that is given. -/
theorem arg_flat {X : Type} {Good : X → Prop} {ev : X → List Value} {av : X → List AV} {sz : Nat} {w : World} {μ : Mu} {h : Heap} {base base' : Nat} {t e : TypeId} {a : Option Addr} {len cap : Nat} {xs : List X} (S : Sim (.all w) μ h w) (ht : P.underlying t = some (.slice e)) (hpos : 0 < sz)
    (hva : ∀ x, Good x → (av x).length = sz ∧ ∀ (j : Nat) (y : AV), (av x)[j]? = some y → ∃ v, (ev x)[j]? = some v ∧ ∀ ν, VR ν y v)
    (hok : Value.okWide P w .any base t (.slice a len cap)) (hr : IsFlat Good ev sz w base' a len cap xs) :
    ∃ v' μ' h', μ.le μ' ∧ Ext h h' ∧ Sim (.all w) μ' h' w ∧ VR μ' v' (.slice a len cap) ∧ Slc h' v' sz ((xs.take len).map av) ∧ (xs.take len).length = len ∧ ∀ z ∈ xs.take len, Good z := by
  rcases hr with ⟨rfl, rfl, rfl, rfl⟩ | ⟨x, rfl, hl, hm, hz, hcell⟩
  · refine ⟨.slc none 0 (some 0) 0, μ, h, Mu.le_refl _, Ext.refl _, S, ?_, Slc.nil, rfl, by simp⟩
    simp only [VR]; exact ⟨0, rfl, Nat.le_refl _, rfl⟩
  · obtain ⟨_, hh⟩ := slice_has ht hok
    obtain ⟨c, ty, fz, hg, hs, ho⟩ := has_off hh
    have good : ∀ y ∈ xs, Good y := fun y hy => by
      obtain ⟨i, hi⟩ := List.getElem?_of_mem hy
      exact (hcell i y hi).1
    have hav : ∀ l ∈ xs.map av, l.length = sz := fun l hl => by
      obtain ⟨y, hy, rfl⟩ := List.mem_map.1 hl
      exact (hva y (good y hy)).1
    have hat : ∀ i y j, xs[i]? = some y → j < sz → c[x.off + (i * sz + j)]? = (ev y)[j]? ∧ ∃ v, c[x.off + (i * sz + j)]? = some v := by
      intro i y j hy hj
      obtain ⟨hgd, hcs⟩ := hcell i y hy
      obtain ⟨_, hln, hc⟩ := World.cells?_some hcs
      have := hc j hj
      have e1 : w.cell? ((x.add (i * sz)).add j) = c[x.off + (i * sz + j)]? := by
        unfold World.cell?
        rw [addr_flat hs, addr_flat rfl]
        simp only [hg, Nat.add_assoc]
        simp
      rw [e1] at this
      refine ⟨this, ?_⟩
      rw [this]
      exact ⟨_, List.getElem?_eq_getElem (by omega)⟩
    have hroom : x.off + cap * sz ≤ c.size := by
      rcases Nat.eq_zero_or_pos cap with h0 | h0
      · subst h0; omega
      · obtain ⟨v, hv⟩ := (hat (cap - 1) xs[cap - 1] (sz - 1) (List.getElem?_eq_getElem (by omega)) (by omega)).2
        have h1 := (Array.getElem?_eq_some_iff.1 hv).1
        have h2 : (cap - 1) * sz + sz = cap * sz := by rw [← Nat.succ_mul]; congr 1; omega
        omega
    have hfl : (xs.map av).flatten.length = cap * sz := by rw [flat_len hav]; simp [hz]
    have hblk : ∀ ν, μ.le ν → BlkAt ν (Frz.all w).old w ⟨x.block, x.off, c.size⟩ (.cells (xs.map av).flatten false) := by
      intro ν _
      refine ⟨c, ty, fz, hg, rfl, by simp only [hfl]; exact hroom, fun i y hy => ?_, by simp⟩
      have hil := (List.getElem?_eq_some_iff.1 hy).1
      rw [hfl] at hil
      have hd : i / sz < cap := Nat.div_lt_of_lt_mul (by rw [Nat.mul_comm]; exact hil)
      have hmd : i % sz < sz := Nat.mod_lt _ hpos
      have he : i = i / sz * sz + i % sz := by rw [Nat.mul_comm]; exact (Nat.div_add_mod i sz).symm
      rw [he, flat_get _ _ hav hmd, List.getElem?_map, List.getElem?_eq_getElem (by omega)] at hy
      simp only [Option.map_some, Option.bind_some] at hy
      have hx : xs[i / sz]? = some xs[i / sz] := List.getElem?_eq_getElem (by omega)
      obtain ⟨v, hv1, hv2⟩ := (hva _ (good _ (List.mem_of_getElem? hx))).2 _ _ hy
      refine ⟨v, ?_, hv2 ν⟩
      have := (hat _ _ (i % sz) hx hmd).1
      rw [← he] at this
      show c[x.off + i]? = _
      rw [this, hv1]
    obtain ⟨h1, h2⟩ := S.frozen hblk
    have hlen : (xs.take len).length = len := by simp; omega
    refine ⟨.slc (some (h.nxt, 0)) len (some cap) sz, _, _, h1, Ext.add _ _, h2, ?_, ?_, hlen, fun z hz' => good z (List.mem_of_mem_take hz')⟩
    · simp only [VR]
      refine ⟨⟨x.block, x.off, c.size⟩, x.off, cap, Mu.upd_same _ _ _, ?_, hl, hroom, Nat.le_refl _, by simp, .inr rfl⟩
      cases x; simp at hs; subst hs; rfl
    · have hlm : ((xs.take len).map av).length = len := by simp; omega
      have e1 := (flat_take (ls := xs.map av) len hav).1
      refine .inr ⟨h.nxt, 0, some cap, (xs.map av).flatten, false, by rw [hlm], ⟨by simp, by rw [Heap.get_add, if_pos rfl], fun l hl => hav l (by rw [List.map_take] at hl; exact List.mem_of_mem_take hl), ?_, ?_⟩, fun c hc => by simp at hc; subst hc; rw [hlm]; exact hl⟩
      · rw [hlm, hfl, Nat.zero_add]; exact Nat.mul_le_mul_right _ hl
      · rw [hlm, List.drop_zero, e1, List.map_take]

section
variable {H : Type} {enc : TypeId × Value → H} {w : World} {base : Nat} {spare : Nat → Bool} {held : Bool}

/-! Texts. -/
/-! Arrays of numbers. -/
/-! Two numbers and a text. -/
theorem each_spl {e i9 s9 : TypeId} {fs : Array Field} {k : IntKind} {f0 f1 f2 : Field} (he : P.underlying e = some (.struct fs)) (h0 : fs[0]? = some f0) (h1 : fs[1]? = some f1) (h2 : fs[2]? = some f2) (o0 : f0.offset = 0 ∧ f0.type = i9) (o1 : f1.offset = 1 ∧ f1.type = i9) (o2 : f2.offset = 2 ∧ f2.type = s9)
    (hi : P.underlying i9 = some (.int k)) (hci : P.cellsOf i9 = 1) (hs : P.underlying s9 = some .string) (hcs : P.cellsOf s9 = 1) (hn : P.cellsOf e = 3) :
    ∀ n cs (y : DataW H × List MemPlace), DataW.trod enc P w base spare held n e cs = some y → ∃ z : Int × Int × ByteArray, ((Lit.int k z.1).wf = true ∧ (Lit.int k z.2.1).wf = true ∧ z.2.2.size ≤ maxLen) ∧ cs = [.int k z.1, .int k z.2.1, .string z.2.2] := by
  intro n cs y h
  obtain ⟨xs, m', _, _, hl, hx, hf⟩ := DataW.trod_struct he h
  rw [hn] at hl
  have hsz : 3 ≤ fs.size := (Array.getElem?_eq_some_iff.1 h2).1
  match cs, hl with
  | [c0, c1, c2], _ =>
    have a0 := hf 0 f0 h0
    have a1 := hf 1 f1 h1
    have a2 := hf 2 f2 h2
    rw [o0.1, o0.2, hci, List.getElem?_eq_getElem (show 0 < xs.length by omega)] at a0
    rw [o1.1, o1.2, hci, List.getElem?_eq_getElem (show 1 < xs.length by omega)] at a1
    rw [o2.1, o2.2, hcs, List.getElem?_eq_getElem (show 2 < xs.length by omega)] at a2
    obtain ⟨x0, e0, _, w0⟩ := DataW.trod_int hi a0
    obtain ⟨x1, e1, _, w1⟩ := DataW.trod_int hi a1
    obtain ⟨x2, e2, _, w2⟩ := DataW.trod_string hs a2
    simp only [List.drop_zero, List.drop_succ_cons, List.take_succ_cons, List.take_zero, List.cons.injEq, and_true] at e0 e1 e2
    subst e0 e1 e2
    exact ⟨⟨x0, x1, x2⟩, ⟨w0, w1, w2⟩, rfl⟩
theorem vr_spl {k : IntKind} : ∀ z : Int × Int × ByteArray, ((Lit.int k z.1).wf = true ∧ (Lit.int k z.2.1).wf = true ∧ z.2.2.size ≤ maxLen) → [AV.int k z.1, .int k z.2.1, .str z.2.2.data.toList].length = 3 ∧
    ∀ (j : Nat) (y : AV), [AV.int k z.1, .int k z.2.1, .str z.2.2.data.toList][j]? = some y → ∃ v, [Value.int k z.1, .int k z.2.1, .string z.2.2][j]? = some v ∧ ∀ ν, VR ν y v := by
  rintro ⟨a, b, ⟨s⟩⟩ _
  refine ⟨rfl, fun j y hy => ?_⟩
  match j with
  | 0 => simp only [List.getElem?_cons_zero, Option.some.injEq] at hy; subst hy; exact ⟨_, rfl, fun ν => by simp [VR]⟩
  | 1 => simp only [List.getElem?_cons_zero, List.getElem?_cons_succ, Option.some.injEq] at hy; subst hy; exact ⟨_, rfl, fun ν => by simp [VR]⟩
  | 2 => simp only [List.getElem?_cons_zero, List.getElem?_cons_succ, Option.some.injEq] at hy; subst hy; exact ⟨_, rfl, fun ν => by simp [VR]⟩
  | j + 3 => simp at hy
end

end Go.Am
