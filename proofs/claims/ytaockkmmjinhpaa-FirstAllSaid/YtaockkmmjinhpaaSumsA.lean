/-
  Grammars of sums: what their blocks stand for.
-/
import Derived.Test.YtaockkmmjinhpaaGMayU
namespace Go.Proofs.Ytaockkmmjinhpaa
open Go Go.Am
set_option maxRecDepth 100000
set_option maxHeartbeats 8000000
set_option linter.unusedSimpArgs false
set_option linter.unusedVariables false

theorem tok_uf {h : Heap} {k : Int} : UF T F 64 [.int .i64 k] h fun v' h' => Ext h h' ∧ v' = .agg [.bool true, .int .i64 k] := by
  refine UF.gen fun Q hQ => UF.of (F_64) (c := _) rfl ?_
  unfold Try.f64
  simp only [List.length, Nat.reduceSub, Nat.reduceAdd, List.replicate, List.cons_append, List.nil_append]
  simp (disch := omega) only [go_sem, seval]
  exact hQ _ _ ⟨(Ext.add _ _).put (Nat.le_refl _), rfl⟩

theorem get_add_eq {h : Heap} {x : Blk} {b : Nat} (hb : b = h.nxt) : (h.add x).get b = some x := by rw [hb]; exact get_add_self
theorem get_put_eq {h : Heap} {x : Blk} {b c : Nat} (hb : b = c) : (h.put b x).get c = some x := by rw [hb]; exact get_put_self

/-- Blocks are frozen. -/
def frzL : List Nat → Heap → Heap
  | [], h => h
  | b :: l, h => frzL l (h.frz b)
theorem frzL_nxt : ∀ (l : List Nat) (h : Heap), (frzL l h).nxt = h.nxt
  | [], _ => rfl
  | b :: l, h => by rw [frzL, frzL_nxt l, frz_nxt]
theorem frzL_le : ∀ (l : List Nat) (h : Heap), Le (frzL l h) h
  | [], h => Le.refl _
  | b :: l, h => (frzL_le l _).trans (frz_le h b)
theorem frzL_out : ∀ (l : List Nat) (h : Heap) {b : Nat}, b ∉ l → (frzL l h).get b = h.get b
  | [], _, _, _ => rfl
  | c :: l, h, b, hb => by
    rw [frzL, frzL_out l _ fun x => hb (List.mem_cons_of_mem _ x), frz_ne fun e => hb (by rw [e]; exact List.mem_cons_self)]
theorem frzL_frz : ∀ (l : List Nat) (h : Heap) {b : Nat} {cs : List AV}, h.get b = some (.cells cs false) → (frzL l h).get b = some (.cells cs false)
  | [], _, _, _, e => e
  | c :: l, h, b, cs, e => by
    refine frzL_frz l _ ?_
    by_cases hc : b = c
    · subst hc; exact frz_eq e
    · rw [frz_ne hc]; exact e
theorem frzL_get : ∀ (l : List Nat) (h : Heap) {b : Nat} {cs : List AV} {w : Bool}, b ∈ l → h.get b = some (.cells cs w) → (frzL l h).get b = some (.cells cs false)
  | c :: l, h, b, cs, w, hb, e => by
    rw [frzL]
    by_cases hc : b = c
    · subst hc; exact frzL_frz l _ (frz_eq e)
    · exact frzL_get l _ ((List.mem_cons.1 hb).resolve_left hc) (by rw [frz_ne hc]; exact e)
/-- What was made from a number on is frozen. -/
def frzF (lo : Nat) (h : Heap) : Heap := frzL ((List.range (h.nxt - lo)).map (lo + ·)) h
theorem frzF_nxt (lo : Nat) (h : Heap) : (frzF lo h).nxt = h.nxt := frzL_nxt _ _
theorem frzF_le (lo : Nat) (h : Heap) : Le (frzF lo h) h := frzL_le _ _
theorem frzF_get {lo b : Nat} {h : Heap} {cs : List AV} {w : Bool} (h1 : lo ≤ b) (h2 : b < h.nxt) (e : h.get b = some (.cells cs w)) : (frzF lo h).get b = some (.cells cs false) :=
  frzL_get _ _ (List.mem_map.2 ⟨b - lo, List.mem_range.2 (by omega), by omega⟩) e
theorem frzF_ext {lo : Nat} {h0 h : Heap} (e : Ext h0 h) (hl : h0.nxt ≤ lo) : Ext h0 (frzF lo h) := ⟨by rw [frzF_nxt]; exact e.nxt, fun b hb => by
  refine (frzL_out _ _ fun x => ?_).trans (e.get b hb)
  obtain ⟨i, _, rfl⟩ := List.mem_map.1 x
  omega⟩
theorem lst_lit {α : Type} [Rep α] {h : Heap} {b n z : Nat} {xs : List α} {ls : List (List AV)} {cs : List AV} (hb : b < h.nxt) (hg : h.get b = some (.cells cs false)) (hc : cs = ls.flatten) (hr : Reps h xs ls) (hn : n = ls.length) (hz : z = Rep.sz α) : Lst h (.slc (some (b, 0)) n (some n) z) xs := by
  subst hn; subst hz; subst hc
  refine ⟨ls, ?_, hr⟩
  rcases Slc.lit' hb hg hr.lens with s | ⟨b', o, cap, cs', wr, e, hB, hc⟩
  · exact .inl s
  · simp only [AV.slc.injEq, Option.some.injEq, Prod.mk.injEq] at e
    obtain ⟨⟨rfl, rfl⟩, _, rfl, _⟩ := e
    have := hB.get
    rw [hg] at this
    simp only [Option.some.injEq, Blk.cells.injEq] at this
    obtain ⟨rfl, rfl⟩ := this
    exact .inr ⟨_, _, _, _, rfl, hB, hc⟩
theorem opq_lst {h : Heap} {b n : Nat} {cs : List AV} (hb : b < h.nxt) (hg : h.get b = some (.cells cs false)) (hl : cs.length = n * 10) (hv : cs.all AV.leaf = true) : ∃ os : List (Opq 10), Lst h (.slc (some (b, 0)) n (some n) 10) os := by
  have hf := chunks_flat 10 n cs (by omega)
  rw [List.take_of_length_le (by omega)] at hf
  refine ⟨(List.range n).map fun j => ⟨(cs.drop (j * 10)).take 10⟩, lst_lit (ls := (List.range n).map fun j => (cs.drop (j * 10)).take 10) hb hg hf.symm ?_ (by simp) rfl⟩
  have : ∀ js : List Nat, (∀ j ∈ js, j < n) → Reps h (js.map fun j => (⟨(cs.drop (j * 10)).take 10⟩ : Opq 10)) (js.map fun j => (cs.drop (j * 10)).take 10) := by
    intro js
    induction js with
    | nil => exact fun _ => .nil
    | cons j js ih =>
      intro hj
      refine .cons (α := Opq 10) ⟨rfl, ?_, ?_⟩ (ih fun x hx => hj x (by simp [hx]))
      · have := hj j (by simp)
        simp only [List.length_take, List.length_drop]; omega
      · exact List.all_eq_true.2 fun x hx => List.all_eq_true.1 hv x (List.mem_of_mem_drop (List.mem_of_mem_take hx))
  exact this _ fun j hj => List.mem_range.1 hj

def sumsT : List GTok := [⟨[110, 117, 109], [91, 48, 45, 57, 93, 43], false⟩, ⟨[105, 100], [91, 97, 45, 122, 93, 43], false⟩, ⟨[112, 108, 117, 115], [92, 43], false⟩, ⟨[115, 116, 97, 114], [92, 42], false⟩, ⟨[111, 112, 101, 110], [92, 40], false⟩, ⟨[99, 108, 111, 115, 101], [92, 41], false⟩, ⟨[98, 108, 97, 110, 107], [32, 43], true⟩, ⟨[108, 101, 116], [61], false⟩]
def sumsN : List GNt := [⟨[115], [], [[118, 97, 108], [98, 97, 100]]⟩, ⟨[101], [[101, 110, 118]], [[118, 97, 108]]⟩, ⟨[109, 111, 114, 101], [[101, 110, 118], [108, 101, 102, 116]], [[118, 97, 108]]⟩, ⟨[102], [[101, 110, 118]], [[118, 97, 108], [115, 105, 122, 101]]⟩]
def sumsP (r0 r1 r2 r3 r4 r5 r6 : List (Opq 10)) : List GProd := [⟨0, [⟨false, 1⟩], r0⟩, ⟨1, [⟨false, 3⟩, ⟨false, 2⟩], r1⟩, ⟨2, [⟨true, 2⟩, ⟨false, 3⟩, ⟨false, 2⟩], r2⟩, ⟨2, [], r3⟩, ⟨3, [⟨true, 0⟩], r4⟩, ⟨3, [⟨true, 1⟩], r5⟩, ⟨3, [⟨true, 4⟩, ⟨false, 1⟩, ⟨true, 5⟩], r6⟩]
theorem sums_may {ps : List GProd} (hl : 1 ≤ ps.length ∧ ps.length ≤ 16) (hp : ∀ p ∈ ps, PrK sumsT 4 p) : MayG ⟨sumsT, sumsN, ps⟩ :=
  ⟨(by decide : 1 ≤ sumsT.length ∧ sumsT.length ≤ 8), (by decide : 1 ≤ sumsN.length ∧ sumsN.length ≤ 8), hl, (by decide : (([[110, 117, 109], [105, 100], [112, 108, 117, 115], [115, 116, 97, 114], [111, 112, 101, 110], [99, 108, 111, 115, 101], [98, 108, 97, 110, 107], [108, 101, 116], [115], [101], [109, 111, 114, 101], [102]] : List (List UInt8)).Nodup ∧ ∀ s ∈ ([[110, 117, 109], [105, 100], [112, 108, 117, 115], [115, 116, 97, 114], [111, 112, 101, 110], [99, 108, 111, 115, 101], [98, 108, 97, 110, 107], [108, 101, 116], [115], [101], [109, 111, 114, 101], [102]] : List (List UInt8)), NameOk s)), fun x hx => (by
    simp only [sumsN, List.mem_cons, List.not_mem_nil, or_false] at hx
    rcases hx with rfl | rfl | rfl | rfl
    · exact (by decide : (([[118, 97, 108], [98, 97, 100]] : List (List UInt8)).Nodup ∧ (∀ s ∈ ([[118, 97, 108], [98, 97, 100]] : List (List UInt8)), NameOk s) ∧ ([[118, 97, 108], [98, 97, 100]] : List (List UInt8)).length ≤ 4))
    · exact (by decide : (([[101, 110, 118], [118, 97, 108]] : List (List UInt8)).Nodup ∧ (∀ s ∈ ([[101, 110, 118], [118, 97, 108]] : List (List UInt8)), NameOk s) ∧ ([[101, 110, 118], [118, 97, 108]] : List (List UInt8)).length ≤ 4))
    · exact (by decide : (([[101, 110, 118], [108, 101, 102, 116], [118, 97, 108]] : List (List UInt8)).Nodup ∧ (∀ s ∈ ([[101, 110, 118], [108, 101, 102, 116], [118, 97, 108]] : List (List UInt8)), NameOk s) ∧ ([[101, 110, 118], [108, 101, 102, 116], [118, 97, 108]] : List (List UInt8)).length ≤ 4))
    · exact (by decide : (([[101, 110, 118], [118, 97, 108], [115, 105, 122, 101]] : List (List UInt8)).Nodup ∧ (∀ s ∈ ([[101, 110, 118], [118, 97, 108], [115, 105, 122, 101]] : List (List UInt8)), NameOk s) ∧ ([[101, 110, 118], [118, 97, 108], [115, 105, 122, 101]] : List (List UInt8)).length ≤ 4))), hp⟩
theorem symK_n {k : Int} (h : 0 ≤ k ∧ k < 4) : SymK sumsT 4 ⟨false, k⟩ := ⟨h.1, fun e => (by cases e), fun _ => h.2⟩
theorem symK_t {k : Nat} (t : GTok) (h : sumsT[k]? = some t) (hs : t.skip = false) : SymK sumsT 4 ⟨true, (k : Nat)⟩ := ⟨by simp, fun _ => ⟨t, by simpa using h, hs⟩, fun e => by cases e⟩
theorem prk0 {r : List (Opq 10)} : PrK sumsT 4 ⟨0, [⟨false, 1⟩], r⟩ := ⟨by simp only; omega, by simp, fun s hs => by
    simp only [List.mem_singleton] at hs
    subst hs
    exact symK_n (by decide)⟩
theorem prk1 {r : List (Opq 10)} : PrK sumsT 4 ⟨1, [⟨false, 3⟩, ⟨false, 2⟩], r⟩ := ⟨by simp only; omega, by simp, fun s hs => by
    simp only [List.mem_cons, List.not_mem_nil, or_false] at hs
    rcases hs with rfl | rfl
    · exact symK_n (by decide)
    · exact symK_n (by decide)⟩
theorem prk2 {r : List (Opq 10)} : PrK sumsT 4 ⟨2, [⟨true, 2⟩, ⟨false, 3⟩, ⟨false, 2⟩], r⟩ := ⟨by simp only; omega, by simp, fun s hs => by
    simp only [List.mem_cons, List.not_mem_nil, or_false] at hs
    rcases hs with rfl | rfl | rfl
    · exact symK_t (k := 2) _ rfl rfl
    · exact symK_n (by decide)
    · exact symK_n (by decide)⟩
theorem prk3 {r : List (Opq 10)} : PrK sumsT 4 ⟨2, [], r⟩ := ⟨by simp only; omega, by simp, fun s hs => by cases hs⟩
theorem prk4 {r : List (Opq 10)} : PrK sumsT 4 ⟨3, [⟨true, 0⟩], r⟩ := ⟨by simp only; omega, by simp, fun s hs => by
    simp only [List.mem_singleton] at hs
    subst hs
    exact symK_t (k := 0) _ rfl rfl⟩
theorem prk5 {r : List (Opq 10)} : PrK sumsT 4 ⟨3, [⟨true, 1⟩], r⟩ := ⟨by simp only; omega, by simp, fun s hs => by
    simp only [List.mem_singleton] at hs
    subst hs
    exact symK_t (k := 1) _ rfl rfl⟩
theorem prk6 {r : List (Opq 10)} : PrK sumsT 4 ⟨3, [⟨true, 4⟩, ⟨false, 1⟩, ⟨true, 5⟩], r⟩ := ⟨by simp only; omega, by simp, fun s hs => by
    simp only [List.mem_cons, List.not_mem_nil, or_false] at hs
    rcases hs with rfl | rfl | rfl
    · exact symK_t (k := 4) _ rfl rfl
    · exact symK_n (by decide)
    · exact symK_t (k := 5) _ rfl rfl⟩
theorem sums_fin {lo : Nat} {HF : Heap} {bT bA bB bC bD bE bF bG bN b0 b1 b2 b4 b5 b6 u0 u1 u2 u3 u4 u5 u6 : Nat} {c0 c1 c2 c3 c4 c5 c6 : List AV} (L : ∀ b ∈ [bT, bA, bB, bC, bD, bE, bF, bG, bN, b0, b1, b2, b4, b5, b6, u0, u1, u2, u3, u4, u5, u6], lo ≤ b ∧ b < HF.nxt)
    (gT : HF.get bT = some (.cells [.str [110, 117, 109], .str [91, 48, 45, 57, 93, 43], .bool false, .str [105, 100], .str [91, 97, 45, 122, 93, 43], .bool false, .str [112, 108, 117, 115], .str [92, 43], .bool false, .str [115, 116, 97, 114], .str [92, 42], .bool false, .str [111, 112, 101, 110], .str [92, 40], .bool false, .str [99, 108, 111, 115, 101], .str [92, 41], .bool false, .str [98, 108, 97, 110, 107], .str [32, 43], .bool true, .str [108, 101, 116], .str [61], .bool false] true)) (gA : HF.get bA = some (.cells [.str [118, 97, 108], .str [98, 97, 100]] true)) (gB : HF.get bB = some (.cells [.str [101, 110, 118]] true)) (gC : HF.get bC = some (.cells [.str [118, 97, 108]] true)) (gD : HF.get bD = some (.cells [.str [101, 110, 118], .str [108, 101, 102, 116]] true)) (gE : HF.get bE = some (.cells [.str [118, 97, 108]] true)) (gF : HF.get bF = some (.cells [.str [101, 110, 118]] true)) (gG : HF.get bG = some (.cells [.str [118, 97, 108], .str [115, 105, 122, 101]] true)) (gN : HF.get bN = some (.cells [.str [115], .slc none 0 (some 0) 0, .slc (some (bA, 0)) 2 (some 2) 1, .str [101], .slc (some (bB, 0)) 1 (some 1) 1, .slc (some (bC, 0)) 1 (some 1) 1, .str [109, 111, 114, 101], .slc (some (bD, 0)) 2 (some 2) 1, .slc (some (bE, 0)) 1 (some 1) 1, .str [102], .slc (some (bF, 0)) 1 (some 1) 1, .slc (some (bG, 0)) 2 (some 2) 1] true)) (g0 : HF.get b0 = some (.cells [.bool false, .int .i64 1] true)) (g1 : HF.get b1 = some (.cells [.bool false, .int .i64 3, .bool false, .int .i64 2] true)) (g2 : HF.get b2 = some (.cells [.bool true, .int .i64 2, .bool false, .int .i64 3, .bool false, .int .i64 2] true)) (g4 : HF.get b4 = some (.cells [.bool true, .int .i64 0] true)) (g5 : HF.get b5 = some (.cells [.bool true, .int .i64 1] true)) (g6 : HF.get b6 = some (.cells [.bool true, .int .i64 4, .bool false, .int .i64 1, .bool true, .int .i64 5] true)) (k0 : HF.get u0 = some (.cells c0 true)) (m0 : c0.length = 3 * 10 ∧ c0.all AV.leaf = true) (k1 : HF.get u1 = some (.cells c1 true)) (m1 : c1.length = 4 * 10 ∧ c1.all AV.leaf = true) (k2 : HF.get u2 = some (.cells c2 true)) (m2 : c2.length = 4 * 10 ∧ c2.all AV.leaf = true) (k3 : HF.get u3 = some (.cells c3 true)) (m3 : c3.length = 1 * 10 ∧ c3.all AV.leaf = true) (k4 : HF.get u4 = some (.cells c4 true)) (m4 : c4.length = 2 * 10 ∧ c4.all AV.leaf = true) (k5 : HF.get u5 = some (.cells c5 true)) (m5 : c5.length = 2 * 10 ∧ c5.all AV.leaf = true) (k6 : HF.get u6 = some (.cells c6 true)) (m6 : c6.length = 3 * 10 ∧ c6.all AV.leaf = true) :
    Lst (frzF lo HF) (.slc (some (bT, 0)) 8 (some 8) 3) sumsT ∧ Lst (frzF lo HF) (.slc (some (bN, 0)) 4 (some 4) 3) sumsN ∧ ∃ r0 r1 r2 r3 r4 r5 r6, Reps (frzF lo HF) (sumsP r0 r1 r2 r3 r4 r5 r6) [[.int .i64 0, .slc (some (b0, 0)) 1 (some 1) 2, .slc (some (u0, 0)) 3 (some 3) 10], [.int .i64 1, .slc (some (b1, 0)) 2 (some 2) 2, .slc (some (u1, 0)) 4 (some 4) 10], [.int .i64 2, .slc (some (b2, 0)) 3 (some 3) 2, .slc (some (u2, 0)) 4 (some 4) 10], [.int .i64 2, .slc none 0 (some 0) 0, .slc (some (u3, 0)) 1 (some 1) 10], [.int .i64 3, .slc (some (b4, 0)) 1 (some 1) 2, .slc (some (u4, 0)) 2 (some 2) 10], [.int .i64 3, .slc (some (b5, 0)) 1 (some 1) 2, .slc (some (u5, 0)) 2 (some 2) 10], [.int .i64 3, .slc (some (b6, 0)) 3 (some 3) 2, .slc (some (u6, 0)) 3 (some 3) 10]] := by
  have nF := frzF_nxt lo HF
  have fz : ∀ (b : Nat) (cs : List AV), b ∈ [bT, bA, bB, bC, bD, bE, bF, bG, bN, b0, b1, b2, b4, b5, b6, u0, u1, u2, u3, u4, u5, u6] → HF.get b = some (.cells cs true) → (frzF lo HF).get b = some (.cells cs false) ∧ b < (frzF lo HF).nxt := fun b cs hb e => ⟨frzF_get (L b hb).1 (L b hb).2 e, by rw [nF]; exact (L b hb).2⟩
  have mem : ∀ b, b = bT ∨ b = bA ∨ b = bB ∨ b = bC ∨ b = bD ∨ b = bE ∨ b = bF ∨ b = bG ∨ b = bN ∨ b = b0 ∨ b = b1 ∨ b = b2 ∨ b = b4 ∨ b = b5 ∨ b = b6 ∨ b = u0 ∨ b = u1 ∨ b = u2 ∨ b = u3 ∨ b = u4 ∨ b = u5 ∨ b = u6 → b ∈ [bT, bA, bB, bC, bD, bE, bF, bG, bN, b0, b1, b2, b4, b5, b6, u0, u1, u2, u3, u4, u5, u6] := fun b hb => by simpa using hb
  obtain ⟨gT, lbT⟩ := fz _ _ (mem bT (by simp)) gT
  obtain ⟨gA, lbA⟩ := fz _ _ (mem bA (by simp)) gA
  obtain ⟨gB, lbB⟩ := fz _ _ (mem bB (by simp)) gB
  obtain ⟨gC, lbC⟩ := fz _ _ (mem bC (by simp)) gC
  obtain ⟨gD, lbD⟩ := fz _ _ (mem bD (by simp)) gD
  obtain ⟨gE, lbE⟩ := fz _ _ (mem bE (by simp)) gE
  obtain ⟨gF, lbF⟩ := fz _ _ (mem bF (by simp)) gF
  obtain ⟨gG, lbG⟩ := fz _ _ (mem bG (by simp)) gG
  obtain ⟨gN, lbN⟩ := fz _ _ (mem bN (by simp)) gN
  obtain ⟨g0, lb0⟩ := fz _ _ (mem b0 (by simp)) g0
  obtain ⟨g1, lb1⟩ := fz _ _ (mem b1 (by simp)) g1
  obtain ⟨g2, lb2⟩ := fz _ _ (mem b2 (by simp)) g2
  obtain ⟨g4, lb4⟩ := fz _ _ (mem b4 (by simp)) g4
  obtain ⟨g5, lb5⟩ := fz _ _ (mem b5 (by simp)) g5
  obtain ⟨g6, lb6⟩ := fz _ _ (mem b6 (by simp)) g6
  obtain ⟨k0, lu0⟩ := fz _ _ (mem u0 (by simp)) k0
  obtain ⟨k1, lu1⟩ := fz _ _ (mem u1 (by simp)) k1
  obtain ⟨k2, lu2⟩ := fz _ _ (mem u2 (by simp)) k2
  obtain ⟨k3, lu3⟩ := fz _ _ (mem u3 (by simp)) k3
  obtain ⟨k4, lu4⟩ := fz _ _ (mem u4 (by simp)) k4
  obtain ⟨k5, lu5⟩ := fz _ _ (mem u5 (by simp)) k5
  obtain ⟨k6, lu6⟩ := fz _ _ (mem u6 (by simp)) k6
  have SA : Lst (frzF lo HF) (.slc (some (bA, 0)) 2 (some 2) 1) ([[118, 97, 108], [98, 97, 100]] : List Str) := lst_lit (ls := [[.str [118, 97, 108]], [.str [98, 97, 100]]]) lbA gA rfl (.cons rfl (.cons rfl (.nil))) rfl rfl
  have SB : Lst (frzF lo HF) (.slc (some (bB, 0)) 1 (some 1) 1) ([[101, 110, 118]] : List Str) := lst_lit (ls := [[.str [101, 110, 118]]]) lbB gB rfl (.cons rfl (.nil)) rfl rfl
  have SC : Lst (frzF lo HF) (.slc (some (bC, 0)) 1 (some 1) 1) ([[118, 97, 108]] : List Str) := lst_lit (ls := [[.str [118, 97, 108]]]) lbC gC rfl (.cons rfl (.nil)) rfl rfl
  have SD : Lst (frzF lo HF) (.slc (some (bD, 0)) 2 (some 2) 1) ([[101, 110, 118], [108, 101, 102, 116]] : List Str) := lst_lit (ls := [[.str [101, 110, 118]], [.str [108, 101, 102, 116]]]) lbD gD rfl (.cons rfl (.cons rfl (.nil))) rfl rfl
  have SE : Lst (frzF lo HF) (.slc (some (bE, 0)) 1 (some 1) 1) ([[118, 97, 108]] : List Str) := lst_lit (ls := [[.str [118, 97, 108]]]) lbE gE rfl (.cons rfl (.nil)) rfl rfl
  have SF : Lst (frzF lo HF) (.slc (some (bF, 0)) 1 (some 1) 1) ([[101, 110, 118]] : List Str) := lst_lit (ls := [[.str [101, 110, 118]]]) lbF gF rfl (.cons rfl (.nil)) rfl rfl
  have SG : Lst (frzF lo HF) (.slc (some (bG, 0)) 2 (some 2) 1) ([[118, 97, 108], [115, 105, 122, 101]] : List Str) := lst_lit (ls := [[.str [118, 97, 108]], [.str [115, 105, 122, 101]]]) lbG gG rfl (.cons rfl (.cons rfl (.nil))) rfl rfl
  have T0 : Lst (frzF lo HF) (.slc (some (b0, 0)) 1 (some 1) 2) ([⟨false, 1⟩] : List GSym) := lst_lit (ls := [[.bool false, .int .i64 1]]) lb0 g0 rfl (.cons rfl (.nil)) rfl rfl
  have T1 : Lst (frzF lo HF) (.slc (some (b1, 0)) 2 (some 2) 2) ([⟨false, 3⟩, ⟨false, 2⟩] : List GSym) := lst_lit (ls := [[.bool false, .int .i64 3], [.bool false, .int .i64 2]]) lb1 g1 rfl (.cons rfl (.cons rfl (.nil))) rfl rfl
  have T2 : Lst (frzF lo HF) (.slc (some (b2, 0)) 3 (some 3) 2) ([⟨true, 2⟩, ⟨false, 3⟩, ⟨false, 2⟩] : List GSym) := lst_lit (ls := [[.bool true, .int .i64 2], [.bool false, .int .i64 3], [.bool false, .int .i64 2]]) lb2 g2 rfl (.cons rfl (.cons rfl (.cons rfl (.nil)))) rfl rfl
  have T4 : Lst (frzF lo HF) (.slc (some (b4, 0)) 1 (some 1) 2) ([⟨true, 0⟩] : List GSym) := lst_lit (ls := [[.bool true, .int .i64 0]]) lb4 g4 rfl (.cons rfl (.nil)) rfl rfl
  have T5 : Lst (frzF lo HF) (.slc (some (b5, 0)) 1 (some 1) 2) ([⟨true, 1⟩] : List GSym) := lst_lit (ls := [[.bool true, .int .i64 1]]) lb5 g5 rfl (.cons rfl (.nil)) rfl rfl
  have T6 : Lst (frzF lo HF) (.slc (some (b6, 0)) 3 (some 3) 2) ([⟨true, 4⟩, ⟨false, 1⟩, ⟨true, 5⟩] : List GSym) := lst_lit (ls := [[.bool true, .int .i64 4], [.bool false, .int .i64 1], [.bool true, .int .i64 5]]) lb6 g6 rfl (.cons rfl (.cons rfl (.cons rfl (.nil)))) rfl rfl
  obtain ⟨r0, U0⟩ := opq_lst (n := 3) lu0 k0 m0.1 m0.2
  obtain ⟨r1, U1⟩ := opq_lst (n := 4) lu1 k1 m1.1 m1.2
  obtain ⟨r2, U2⟩ := opq_lst (n := 4) lu2 k2 m2.1 m2.2
  obtain ⟨r3, U3⟩ := opq_lst (n := 1) lu3 k3 m3.1 m3.2
  obtain ⟨r4, U4⟩ := opq_lst (n := 2) lu4 k4 m4.1 m4.2
  obtain ⟨r5, U5⟩ := opq_lst (n := 2) lu5 k5 m5.1 m5.2
  obtain ⟨r6, U6⟩ := opq_lst (n := 3) lu6 k6 m6.1 m6.2
  refine ⟨lst_lit (ls := [[.str [110, 117, 109], .str [91, 48, 45, 57, 93, 43], .bool false], [.str [105, 100], .str [91, 97, 45, 122, 93, 43], .bool false], [.str [112, 108, 117, 115], .str [92, 43], .bool false], [.str [115, 116, 97, 114], .str [92, 42], .bool false], [.str [111, 112, 101, 110], .str [92, 40], .bool false], [.str [99, 108, 111, 115, 101], .str [92, 41], .bool false], [.str [98, 108, 97, 110, 107], .str [32, 43], .bool true], [.str [108, 101, 116], .str [61], .bool false]]) lbT gT rfl (.cons rfl (.cons rfl (.cons rfl (.cons rfl (.cons rfl (.cons rfl (.cons rfl (.cons rfl (.nil))))))))) rfl rfl, lst_lit (ls := [[.str [115], .slc none 0 (some 0) 0, .slc (some (bA, 0)) 2 (some 2) 1], [.str [101], .slc (some (bB, 0)) 1 (some 1) 1, .slc (some (bC, 0)) 1 (some 1) 1], [.str [109, 111, 114, 101], .slc (some (bD, 0)) 2 (some 2) 1, .slc (some (bE, 0)) 1 (some 1) 1], [.str [102], .slc (some (bF, 0)) 1 (some 1) 1, .slc (some (bG, 0)) 2 (some 2) 1]]) lbN gN rfl (.cons ⟨_, _, rfl, Lst.nil, SA⟩ (.cons ⟨_, _, rfl, SB, SC⟩ (.cons ⟨_, _, rfl, SD, SE⟩ (.cons ⟨_, _, rfl, SF, SG⟩ (.nil))))) rfl rfl, r0, r1, r2, r3, r4, r5, r6, ?_⟩
  exact .cons ⟨_, _, rfl, T0, U0⟩ (.cons ⟨_, _, rfl, T1, U1⟩ (.cons ⟨_, _, rfl, T2, U2⟩ (.cons ⟨_, _, rfl, Lst.nil, U3⟩ (.cons ⟨_, _, rfl, T4, U4⟩ (.cons ⟨_, _, rfl, T5, U5⟩ (.cons ⟨_, _, rfl, T6, U6⟩ (.nil)))))))

end Go.Proofs.Ytaockkmmjinhpaa
