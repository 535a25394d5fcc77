/-
  Grammars that are made: what they are.
-/
import Derived.Test.YtaockkmmjinhpaaGRules
namespace Go.Proofs.Ytaockkmmjinhpaa
open Go Go.Am
set_option maxRecDepth 100000
set_option maxHeartbeats 4000000
set_option linter.unusedSimpArgs false
set_option linter.unusedVariables false

section
variable {α : Type} [Rep α]
theorem lst_hi {T : TT} {K : KH} {h : Heap} {v : AV} {t e i : Nat} {ti te : TI} {kd : IntKind} {xs : List α} (ht : T t = some ti) (hk : ti.kind = .slc e) (he : T e = some te) (hsz : te.size = Rep.sz α)
    (s : Lst h v xs) (hi : i ≤ xs.length) (k : ∀ v', Lst h v' (xs.take i) → K.k v' h) :
    @OBk (match sliceA T t v none (some (.int kd i)) none with | some r => some (r, h) | none => none) K := by
  obtain ⟨ls, s1, s2⟩ := s
  have hl := s2.length
  obtain ⟨v', e1, e2⟩ := s1.sub (l := 0) (hh := i) (lo := none) (hi := some (.int kd i)) ht hk he hsz (fun n hn _ => by have := sbounds_hi (n := n) (i := (i : Int)) (k := kd) (by omega) (by omega); simpa using this) (by omega) (by omega)
  rw [e1]
  exact k v' ⟨_, by simpa using e2, s2.take i⟩
end

theorem bytesOf_map : ∀ l : List UInt8, bytesOf (l.map fun b => .int .u8 b.toNat) = some l
  | [] => rfl
  | a :: l => by
    simp only [List.map_cons, bytesOf, bytesOf_map l, Int.toNat_natCast]
    simp
theorem conv_bs {h : Heap} {b n : Nat} {c : Option Nat} {l : List UInt8} {w : Bool} (hg : h.get b = some (.cells (l.map fun b => .int .u8 b.toNat) w)) (hn : n = l.length) : convA T 51 9 (.slc (some (b, 0)) n c 1) h = some (.str l, h) := by
  subst hn
  simp only [convA, T_9, T_51, T_5, if_true]
  by_cases h0 : l.length = 0
  · have : l = [] := by simpa using h0
    subst this; simp
  · simp only [h0, if_false, Am.loadCells, hg]
    have : (0 + l.length ≤ (l.map fun b => AV.int .u8 b.toNat).length) := by simp
    rw [if_pos this]
    have ht : ((l.map fun b => AV.int .u8 b.toNat).drop 0).take l.length = l.map fun b => AV.int .u8 b.toNat := by
      rw [List.drop_zero, List.take_of_length_le (by simp)]
    rw [ht]
    simp only [bytesOf_map]

@[go_sem] theorem strOp_add {x y : List UInt8} (h : ¬ ((x.length + y.length : Nat) : Int) > 9223372036854775807) : strOp .add x y = some (.str (x ++ y)) := by simp only [strOp, if_neg h]
@[go_sem] theorem binOpA_str {T : TT} {op t x y} : binOpA T op t (.str x) (.str y) = strOp op x y := rfl
theorem wrap_u8 (c : UInt8) : IntKind.u8.wrap (c.toNat : Int) = (c.toNat : Nat) := by
  have := c.toNat_lt
  unfold IntKind.wrap
  simp [IntKind.bits, IntKind.signed]
  omega
/-- A letter, by its number. -/
def ltr (n : Nat) : UInt8 := UInt8.ofNat (97 + n)
theorem ltr_nat {n : Nat} (h : n ≤ 100) : (ltr n).toNat = 97 + n := by
  unfold ltr
  rw [UInt8.toNat_ofNat']; omega
def tokOf (i : Nat) : GTok := ⟨[116, ltr i], [ltr i], false⟩
def ntOf (i p q : Nat) : GNt := ⟨[110, ltr i], ([[105], [106]] : List Str).take p, ([[115], [117]] : List Str).take q⟩
/-- A grammar. -/
structure Gm where
  toks : List GTok
  nts : List GNt
  prods : List GProd
def LGm (h : Heap) (v : AV) (g : Gm) : Prop := ∃ a b c, v = .agg [a, b, c] ∧ Lst h a g.toks ∧ Lst h b g.nts ∧ Lst h c g.prods
def NtsOk (ns : List GNt) : Prop := ∀ i x, ns[i]? = some x → ∃ p q, p ≤ 2 ∧ q ≤ 2 ∧ (i = 0 → p = 0) ∧ x = ntOf i p q
def PrOk (n t : Nat) (p : GProd) : Prop := (0 ≤ p.left ∧ p.left < n) ∧ p.right.length ≤ 5 ∧ ∀ s ∈ p.right, 0 ≤ s.at_ ∧ (s.tok = true → s.at_ < t) ∧ (s.tok = false → s.at_ < n)
/-- A grammar as they are made. -/
structure MadeG (g : Gm) : Prop where
  toks : g.toks = (List.range g.toks.length).map tokOf
  tl : 1 ≤ g.toks.length ∧ g.toks.length ≤ 3
  nts : NtsOk g.nts
  nl : 1 ≤ g.nts.length ∧ g.nts.length ≤ 4
  prods : ∀ p ∈ g.prods, PrOk g.nts.length g.toks.length p
  pl : 1 ≤ g.prods.length ∧ g.prods.length ≤ 7
theorem NtsOk.few {ns : List GNt} (h : NtsOk ns) : FewA ns := fun x hx => by
  obtain ⟨i, hi, rfl⟩ := List.getElem_of_mem hx
  obtain ⟨p, q, _, _, _, e⟩ := h i _ (List.getElem?_eq_getElem hi)
  rw [e]
  simp [ntOf]; omega

theorem nts_snoc {ns : List GNt} {n p q : Nat} (h : NtsOk ns) (hn : n = ns.length) (hp : p ≤ 2) (hq : q ≤ 2) (h0 : n = 0 → p = 0) : NtsOk (ns ++ [ntOf n p q]) := by
  intro i x hx
  rcases Nat.lt_or_ge i ns.length with hi | hi
  · rw [List.getElem?_append_left hi] at hx; exact h i x hx
  · rw [List.getElem?_append_right hi] at hx
    have : i - ns.length = 0 := by
      have := (List.getElem?_eq_some_iff.1 hx).1
      simp at this; omega
    rw [this] at hx
    simp only [List.getElem?_cons_zero, Option.some.injEq] at hx
    have hin : i = n := by omega
    subst hin
    exact ⟨p, q, hp, hq, h0, hx.symm⟩
theorem ext_litfrz {h : Heap} {cs : List AV} {n : Nat} {c : Option Nat} {z : Nat} : Ext h ((h.add (.cells cs true)).frzV (.slc (some (h.nxt, 0)) n c z)) :=
  (((Ext.add h _).upd (h.nxt ≤ ·)).trans' (frzV_upd (S := (· = h.nxt)) fun b e => by simp [AV.base] at e; exact e.symm) fun b e _ => by omega).ext fun b hb => by omega

theorem Grammar_uf {h : Heap} {k : Nat} {pk : AV} {l : List UInt8} (P : Pk h k pk l) (hl : l.length ≤ 1000) : UF T F 26 [.ptr (some (k, 0))] h fun v' h' => Upd (· = k) h h' ∧ ∃ g, LGm h' v' g ∧ MadeG g := by
  refine UF.genq fun Q hQ => UF.of (F_26) (c := _) rfl ?_
  unfold Try.f26
  simp only [List.length, Nat.reduceSub, Nat.reduceAdd, List.replicate, List.cons_append, List.nil_append]
  simp (disch := omega) only [go_sem, seval]
  have g0 : ((h.add (.cells [.slc none 0 (some 0) 0, .slc none 0 (some 0) 0, .slc none 0 (some 0) 0] true)).add (.cells [.slc none 0 (some 0) 0, .slc none 0 (some 0) 0, .slc none 0 (some 0) 0] true)).get (h.nxt + 1) = some (.cells [.slc none 0 (some 0) 0, .slc none 0 (some 0) 0, .slc none 0 (some 0) 0] true) := get_add_self
  simp (disch := omega) only [go_sem, seval, g0]
  have e1 : Ext h (((h.add (.cells [.slc none 0 (some 0) 0, .slc none 0 (some 0) 0, .slc none 0 (some 0) 0] true)).add (.cells [.slc none 0 (some 0) 0, .slc none 0 (some 0) 0, .slc none 0 (some 0) 0] true)).put (h.nxt + 1) (.cells [.slc none 0 (some 0) 0, .slc none 0 (some 0) 0, .slc none 0 (some 0) 0] true)) := ((Ext.add _ _).trans (Ext.add _ _)).put (by omega)
  have g3 : (((h.add (.cells [.slc none 0 (some 0) 0, .slc none 0 (some 0) 0, .slc none 0 (some 0) 0] true)).add (.cells [.slc none 0 (some 0) 0, .slc none 0 (some 0) 0, .slc none 0 (some 0) 0] true)).put (h.nxt + 1) (.cells [.slc none 0 (some 0) 0, .slc none 0 (some 0) 0, .slc none 0 (some 0) 0] true)).get (h.nxt + 1) = some (.cells [.slc none 0 (some 0) 0, .slc none 0 (some 0) 0, .slc none 0 (some 0) 0] true) := get_put_self
  have g2 : (((h.add (.cells [.slc none 0 (some 0) 0, .slc none 0 (some 0) 0, .slc none 0 (some 0) 0] true)).add (.cells [.slc none 0 (some 0) 0, .slc none 0 (some 0) 0, .slc none 0 (some 0) 0] true)).put (h.nxt + 1) (.cells [.slc none 0 (some 0) 0, .slc none 0 (some 0) 0, .slc none 0 (some 0) 0] true)).get h.nxt = some (.cells [.slc none 0 (some 0) 0, .slc none 0 (some 0) 0, .slc none 0 (some 0) 0] true) := by rw [get_put_ne (by omega), get_add_lt (by simp), get_add_self]
  have n1 : (((h.add (.cells [.slc none 0 (some 0) 0, .slc none 0 (some 0) 0, .slc none 0 (some 0) 0] true)).add (.cells [.slc none 0 (some 0) 0, .slc none 0 (some 0) 0, .slc none 0 (some 0) 0] true)).put (h.nxt + 1) (.cells [.slc none 0 (some 0) 0, .slc none 0 (some 0) 0, .slc none 0 (some 0) 0] true)).nxt = h.nxt + 2 := by simp
  generalize (((h.add (.cells [.slc none 0 (some 0) 0, .slc none 0 (some 0) 0, .slc none 0 (some 0) 0] true)).add (.cells [.slc none 0 (some 0) 0, .slc none 0 (some 0) 0, .slc none 0 (some 0) 0] true)).put (h.nxt + 1) (.cells [.slc none 0 (some 0) 0, .slc none 0 (some 0) 0, .slc none 0 (some 0) 0] true)) = h1 at *
  have hkn := P.lt
  refine callV_ofU F_47 rfl ((Num_uf (m := 3) (P.ext e1) hl (by omega)).mono ?_)
  rintro v2 h2 ⟨u2, P2, x, hx, rfl⟩
  simp (disch := omega) only [go_sem, seval]
  have u12 : Upd (· = k) h h2 := (e1.upd _).trans u2
  have hn2 := u2.nxt
  have g22 := (u2.get _ (by omega) (by omega : h.nxt ≠ k)).trans g2
  have g23 := (u2.get _ (by omega) (by omega : h.nxt + 1 ≠ k)).trans g3
  have nil0 : LFresh (α := GTok) (h.nxt + 2) h2 (.slc none 0 (some 0) 0) [] := LFresh.nil
  refine LoopU_while (fun m st hh => ∃ (j : Nat) (tv : AV) (ts : List GTok), j = m ∧ ts.length + j = x + 1 ∧ ts = (List.range ts.length).map tokOf ∧ Upd (· = k) h hh ∧ Pk hh k pk l ∧ LFresh (h.nxt + 2) hh tv ts ∧
      hh.get h.nxt = some (.cells [.slc none 0 (some 0) 0, .slc none 0 (some 0) 0, .slc none 0 (some 0) 0] true) ∧ hh.get (h.nxt + 1) = some (.cells [tv, .slc none 0 (some 0) 0, .slc none 0 (some 0) 0] true) ∧ h.nxt + 2 ≤ hh.nxt ∧
      Keep st 127 [(0, .ptr (some (k, 0))), (2, .ptr (some (h.nxt, 0))), (3, .ptr (some (h.nxt + 1, 0))), (4, .int .i64 (j : Nat))]) (x + 1)
    ⟨x + 1, _, [], rfl, by simp, rfl, u12, P2, LFresh.nil, g22, g23, by omega, rfl, by simp [Has]⟩ ?_
  rintro m st hh ⟨j, tv, ts, rfl, hjl, hts, u, Pt, Tt, gA, gB, hnh, hk⟩
  obtain ⟨ta, tn, tc, tz, rfl, htn⟩ := Tt.form
  rw [hk.eq]
  obtain ⟨k0, k2, k3, k4, -⟩ := hk.2
  simp only [slotsFrom, Nat.reduceAdd] at k0 k2 k3 k4 ⊢
  simp only [k0, k2, k3, k4]
  simp (disch := omega) only [go_sem, seval]
  by_cases hj0 : (j : Int) > 0
  · have hlt := ltr_nat (n := tn) (by omega)
    have hcv : (97 : Int) + (tn : Nat) = ((ltr tn).toNat : Nat) := by omega
    have cb := fun {b : Nat} {w : Bool} {hx : Heap} hg => conv_bs (h := hx) (b := b) (n := 1) (c := some 1) (l := [ltr tn]) (w := w) hg rfl
    have hwr : IntKind.u8.wrap ((ltr tn).toNat : Int) = ((ltr tn).toNat : Nat) := wrap_u8 _
    have hg1 : (hh.add (.cells [.int .u8 ((ltr tn).toNat : Nat)] true)).get hh.nxt = some (.cells (([ltr tn] : List UInt8).map fun b => .int .u8 b.toNat) true) := get_add_self
    have hs1 : strOp .add [116] [ltr tn] = some (.str [116, ltr tn]) := strOp_add (by simp)
    simp (disch := omega) only [go_sem, seval, hj0, gB, hcv, hwr, cb hg1, hs1]
    refine fappend (m := h.nxt + 2) (xs := ts) (y := tokOf tn) T_46 rfl T_57 rfl (by decide) (by decide) (Tt.ext ((Ext.add _ _).trans (Ext.add _ _))) (LSlc.lit (b := hh.nxt + 1) (ls := [[.str [116, ltr tn], .str [ltr tn], .bool false]]) (by simp) (by rw [← Heap.add_nxt hh (.cells [.int .u8 ((ltr tn).toNat : Nat)] true)]; exact get_add_self) rfl (Reps.one (x := tokOf tn) rfl) rfl rfl) (by simp; omega) (by simp [roomA]; omega) ?_
    intro v5 h5 T5 u5 b5
    obtain ⟨va, vn, vc, vz, rfl, hvn⟩ := T5.form
    have hn5 := u5.nxt
    simp only [Heap.add_nxt] at hn5
    have k5 : ∀ b, b < h.nxt + 2 → h5.get b = hh.get b := fun b hb => by
      rw [u5.get b (by simp; omega) (fun e => by have := Tt.blk e; omega), get_add_lt (by simp; omega), get_add_lt (by omega)]
    have gB5 := (k5 (h.nxt + 1) (by omega)).trans gB
    have gA5 := (k5 h.nxt (by omega)).trans gA
    simp (disch := omega) only [go_sem, seval, gB5]
    have hjm : (j : Int) - 1 = ((j - 1 : Nat) : Int) := by omega
    rw [hjm]
    have u6 : Upd (· = h.nxt + 1) h5 (h5.put (h.nxt + 1) (.cells [.slc va vn vc vz, .slc none 0 (some 0) 0, .slc none 0 (some 0) 0] true)) := Upd.put _ rfl fun cs e => by rw [gB5] at e; simp at e
    have uF : Upd (· = k) h (h5.put (h.nxt + 1) (.cells [.slc va vn vc vz, .slc none 0 (some 0) 0, .slc none 0 (some 0) 0] true)) := (((u.trans (((Ext.add _ _).trans (Ext.add _ _)).upd _)).trans' u5 fun b e hb => by have := Tt.blk e; omega)).trans' u6 fun b e hb => by omega
    refine AgainK.mk (j - 1) (by simp only; omega) ⟨j - 1, _, ts ++ [tokOf tn], rfl, by simp; omega, ?_, uF, ((Pt.ext ((Ext.add _ _).trans (Ext.add _ _))).upd u5 fun e => by have := Tt.blk e; omega).upd u6 (by omega), T5.upd u6 fun b hb _ e => by omega, (get_put_ne (by omega)).trans gA5, get_put_self, by simp; omega, rfl, by simp [Has]⟩
    rw [List.length_append, List.length_singleton, List.range_succ, List.map_append, ← hts, htn]; rfl
  · have hj : j = 0 := by omega
    subst hj
    simp (disch := omega) only [go_sem, seval, hj0]
    have hx1 : ts.length = x + 1 := by omega
    obtain ⟨hf, lf, nf, Tf, uf⟩ := Tt.frz
    have gAf := (uf.get h.nxt (by omega) (fun e => by have := e.1; omega)).trans gA
    have gBf := (uf.get (h.nxt + 1) (by omega) (fun e => by have := e.1; omega)).trans gB
    have Pf := Pt.upd uf fun e => by have := e.1; omega
    have uhf : Upd (· = k) h hf := u.trans' uf fun b e hb => by have := e.1; omega
    clear hk k0 k2 k3 k4
    refine callV_ofU F_47 rfl ((UF.less lf (Num_uf (m := 4) Pf hl (by omega))).mono ?_)
    rintro v12 h12 ⟨u12', P12, y, hy, rfl⟩
    simp (disch := omega) only [go_sem, seval]
    have hn12 := u12'.nxt
    refine LoopU_while (fun m st hh => ∃ (j : Nat) (nv : AV) (ns : List GNt), j = m ∧ ns.length + j = y + 1 ∧ NtsOk ns ∧ Upd (· = k) h hh ∧ Pk hh k pk l ∧ Lst hh (.slc ta tn tc tz) ts ∧ LFresh (h.nxt + 2) hh nv ns ∧
        hh.get h.nxt = some (.cells [.slc none 0 (some 0) 0, .slc none 0 (some 0) 0, .slc none 0 (some 0) 0] true) ∧ hh.get (h.nxt + 1) = some (.cells [.slc ta tn tc tz, nv, .slc none 0 (some 0) 0] true) ∧ h.nxt + 2 ≤ hh.nxt ∧
        Keep st 127 [(0, .ptr (some (k, 0))), (2, .ptr (some (h.nxt, 0))), (3, .ptr (some (h.nxt + 1, 0))), (6, .int .i64 (j : Nat))]) (y + 1)
      ⟨y + 1, _, [], rfl, by simp, fun i x hx => by simp at hx, uhf.trans u12', P12, Tf.pst u12'.pst, LFresh.nil, (u12'.get _ (by omega) (by omega)).trans gAf, (u12'.get _ (by omega) (by omega)).trans gBf, by omega, rfl, by simp [Has]⟩ ?_
    rintro m st hh ⟨j, nv, ns, rfl, hjl, hns, u, Pt, Tt, Nt, gA, gB, hnh, hk⟩
    obtain ⟨na, nn, nc, nz, rfl, hnn⟩ := Nt.form
    rw [hk.eq]
    obtain ⟨k0, k2, k3, k6, -⟩ := hk.2
    simp only [slotsFrom, Nat.reduceAdd] at k0 k2 k3 k6 ⊢
    simp only [k0, k2, k3, k6]
    simp (disch := omega) only [go_sem, seval]
    by_cases hj0 : (j : Int) > 0
    · have hlt := ltr_nat (n := nn) (by omega)
      have hcv : (97 : Int) + (nn : Nat) = ((ltr nn).toNat : Nat) := by omega
      have cb := fun {b : Nat} {w : Bool} {hx : Heap} hg => conv_bs (h := hx) (b := b) (n := 1) (c := some 1) (l := [ltr nn]) (w := w) hg rfl
      have hwr : IntKind.u8.wrap ((ltr nn).toNat : Int) = ((ltr nn).toNat : Nat) := wrap_u8 _
      have hg1 : (hh.add (.cells [.int .u8 ((ltr nn).toNat : Nat)] true)).get hh.nxt = some (.cells (([ltr nn] : List UInt8).map fun b => .int .u8 b.toNat) true) := get_add_self
      have hs1 : strOp .add [110] [ltr nn] = some (.str [110, ltr nn]) := strOp_add (by simp)
      have gz : ((hh.add (.cells [.int .u8 ((ltr nn).toNat : Nat)] true)).add (.cells [.str [], .slc none 0 (some 0) 0, .slc none 0 (some 0) 0] true)).get (hh.nxt + 1) = some (.cells [.str [], .slc none 0 (some 0) 0, .slc none 0 (some 0) 0] true) := by
        rw [← Heap.add_nxt hh (.cells [.int .u8 ((ltr nn).toNat : Nat)] true)]; exact get_add_self
      have gBz : ((hh.add (.cells [.int .u8 ((ltr nn).toNat : Nat)] true)).add (.cells [.str [], .slc none 0 (some 0) 0, .slc none 0 (some 0) 0] true)).get (h.nxt + 1) = some (.cells [.slc ta tn tc tz, .slc na nn nc nz, .slc none 0 (some 0) 0] true) := by
        rw [get_add_lt (by simp; omega), get_add_lt (by omega)]; exact gB
      have gBc : (((hh.add (.cells [.int .u8 ((ltr nn).toNat : Nat)] true)).add (.cells [.str [], .slc none 0 (some 0) 0, .slc none 0 (some 0) 0] true)).put (hh.nxt + 1) (.cells [.str [110, ltr nn], .slc none 0 (some 0) 0, .slc none 0 (some 0) 0] true)).get (h.nxt + 1) = some (.cells [.slc ta tn tc tz, .slc na nn nc nz, .slc none 0 (some 0) 0] true) := (get_put_ne (by omega)).trans gBz
      have gAc : (((hh.add (.cells [.int .u8 ((ltr nn).toNat : Nat)] true)).add (.cells [.str [], .slc none 0 (some 0) 0, .slc none 0 (some 0) 0] true)).put (hh.nxt + 1) (.cells [.str [110, ltr nn], .slc none 0 (some 0) 0, .slc none 0 (some 0) 0] true)).get h.nxt = some (.cells [.slc none 0 (some 0) 0, .slc none 0 (some 0) 0, .slc none 0 (some 0) 0] true) := by
        rw [get_put_ne (by omega), get_add_lt (by simp; omega), get_add_lt (by omega)]; exact gA
      have gn : (((hh.add (.cells [.int .u8 ((ltr nn).toNat : Nat)] true)).add (.cells [.str [], .slc none 0 (some 0) 0, .slc none 0 (some 0) 0] true)).put (hh.nxt + 1) (.cells [.str [110, ltr nn], .slc none 0 (some 0) 0, .slc none 0 (some 0) 0] true)).get (hh.nxt + 1) = some (.cells [.str [110, ltr nn], .slc none 0 (some 0) 0, .slc none 0 (some 0) 0] true) := get_put_self
      have ec : Ext hh (((hh.add (.cells [.int .u8 ((ltr nn).toNat : Nat)] true)).add (.cells [.str [], .slc none 0 (some 0) 0, .slc none 0 (some 0) 0] true)).put (hh.nxt + 1) (.cells [.str [110, ltr nn], .slc none 0 (some 0) 0, .slc none 0 (some 0) 0] true)) := ((Ext.add _ _).trans (Ext.add _ _)).put (by omega)
      have hbc : (((hh.add (.cells [.int .u8 ((ltr nn).toNat : Nat)] true)).add (.cells [.str [], .slc none 0 (some 0) 0, .slc none 0 (some 0) 0] true)).put (hh.nxt + 1) (.cells [.str [110, ltr nn], .slc none 0 (some 0) 0, .slc none 0 (some 0) 0] true)).nxt = hh.nxt + 2 := by simp
      simp (disch := omega) only [go_sem, seval, hj0, gB, hcv, hwr, cb hg1, hs1, gz, gBc]
      generalize ((hh.add (.cells [.int .u8 ((ltr nn).toNat : Nat)] true)).add (.cells [.str [], .slc none 0 (some 0) 0, .slc none 0 (some 0) 0] true)).put (hh.nxt + 1) (.cells [.str [110, ltr nn], .slc none 0 (some 0) 0, .slc none 0 (some 0) 0] true) = hc at *
      have Pc := Pt.ext ec
      have Tc := Tt.ext ec
      have Nc := Nt.ext ec
      have uc := u.trans (ec.upd _)
      have hnb : ∀ b, (AV.slc na nn nc nz).blk = some b → b ≠ hh.nxt + 1 := fun b e => by have := Nt.lt e; omega
      obtain ⟨bn, hbn⟩ : ∃ bn, bn = hh.nxt + 1 := ⟨_, rfl⟩
      rw [← hbn] at gn hnb ⊢
      by_cases hnz : (nn : Int) > 0
      · simp (disch := omega) only [go_sem, seval, hnz]
        refine callV_ofU F_47 rfl ((UF.less (frzV_le _ (.slc (some (hc.nxt, 0)) 2 (some 2) 1)) (Num_uf (m := 3) (Pc.ext ext_litfrz) hl (by omega))).mono ?_)
        rintro v14 h14 ⟨u14, P14, p, hp3, rfl⟩
        simp (disch := omega) only [go_sem, seval]
        have L14 : Lst h14 (.slc (some (hc.nxt, 0)) 2 (some 2) 1) ([[105], [106]] : List Str) := (LSlc.lit (wr := true) (b := hc.nxt) (ls := [[.str [105]], [.str [106]]]) (by simp) get_add_self rfl (.cons rfl (.cons rfl .nil)) rfl rfl).frz.pst u14.pst
        refine lst_hi (i := p) T_41 rfl T_9 rfl L14 (show p ≤ 2 by omega) ?_
        intro iv S14
        obtain ⟨ia, iln, ic, iz, rfl, hin⟩ := S14.form
        have uc14 : Upd (· = k) hc h14 := (ext_litfrz.upd _).trans u14
        have hn14 := uc14.nxt
        have gn14 := (uc14.get bn (by omega) (by omega)).trans gn
        have gB14 := (uc14.get (h.nxt + 1) (by omega) (by omega)).trans gBc
        have gA14 := (uc14.get h.nxt (by omega) (by omega)).trans gAc
        have u15 : Upd (· = bn) h14 (h14.put bn (.cells [.str [110, ltr nn], .slc ia iln ic iz, .slc none 0 (some 0) 0] true)) := Upd.put _ rfl fun cs e => by rw [gn14] at e; simp at e
        have gn15 : (h14.put bn (.cells [.str [110, ltr nn], .slc ia iln ic iz, .slc none 0 (some 0) 0] true)).get bn = some (.cells [.str [110, ltr nn], .slc ia iln ic iz, .slc none 0 (some 0) 0] true) := get_put_self
        have gB15 := (u15.get (h.nxt + 1) (by omega) (by omega)).trans gB14
        have gA15 := (u15.get h.nxt (by omega) (by omega)).trans gA14
        have P15 := P14.upd u15 (by omega)
        have T15 := (Tc.pst uc14.pst).pst u15.pst
        have N15 : LFresh (h.nxt + 2) (h14.put bn (.cells [.str [110, ltr nn], .slc ia iln ic iz, .slc none 0 (some 0) 0] true)) (.slc na nn nc nz) ns := (Nc.upd uc14 fun b hb _ e => by omega).upd u15 fun b hb e1 e2 => hnb b e1 e2
        have uc15 : Upd (· = k) h (h14.put bn (.cells [.str [110, ltr nn], .slc ia iln ic iz, .slc none 0 (some 0) 0] true)) := (uc.trans uc14).trans' u15 fun b e hb => by omega
        have Li := S14.pst u15.pst
        have n15 := u15.nxt
        simp (disch := omega) only [go_sem, seval, gn14]
        generalize hH15 : h14.put bn (.cells [.str [110, ltr nn], .slc ia iln ic iz, .slc none 0 (some 0) 0] true) = h15 at *
        have n15e : h15.nxt = h14.nxt := by rw [← hH15]; simp
        rw [← n15e]
        clear gn gBc gAc Pc Tc Nc uc
        have gn := gn15
        have gBc := gB15
        have gAc := gA15
        have Pc := P15
        have Tc := T15
        have Nc := N15
        have uc := uc15
        have hp : p ≤ 2 := by omega
        have hp0 : nn = 0 → p = 0 := fun e => by omega
        refine callV_ofU F_47 rfl ((UF.less (frzV_le _ (.slc (some (h15.nxt, 0)) 2 (some 2) 1)) (Num_uf (m := 3) (Pc.ext ext_litfrz) hl (by omega))).mono ?_)
        rintro v8 h8 ⟨u8, P8, q, hq, rfl⟩
        simp (disch := omega) only [go_sem, seval]
        have L8 : Lst h8 (.slc (some (h15.nxt, 0)) 2 (some 2) 1) ([[115], [117]] : List Str) := (LSlc.lit (wr := true) (b := h15.nxt) (ls := [[.str [115]], [.str [117]]]) (by simp) get_add_self rfl (.cons rfl (.cons rfl .nil)) rfl rfl).frz.pst u8.pst
        refine lst_hi (i := q) T_41 rfl T_9 rfl L8 (show q ≤ 2 by omega) ?_
        intro sv S8
        obtain ⟨sa, sn, sc, sz, rfl, hsn⟩ := S8.form
        have uc8 : Upd (· = k) h15 h8 := (ext_litfrz.upd _).trans u8
        have hn8 := uc8.nxt
        have gn8 := (uc8.get bn (by omega) (by omega)).trans gn
        have gB8 := (uc8.get (h.nxt + 1) (by omega) (by omega)).trans gBc
        have gA8 := (uc8.get h.nxt (by omega) (by omega)).trans gAc
        have u9 : Upd (· = bn) h8 (h8.put bn (.cells [.str [110, ltr nn], .slc ia iln ic iz, .slc sa sn sc sz] true)) := Upd.put _ rfl fun cs e => by rw [gn8] at e; simp at e
        have gB9 := (u9.get (h.nxt + 1) (by omega) (by omega)).trans gB8
        have gA9 := (u9.get h.nxt (by omega) (by omega)).trans gA8
        have N9 : LFresh (h.nxt + 2) (h8.put bn (.cells [.str [110, ltr nn], .slc ia iln ic iz, .slc sa sn sc sz] true)) (.slc na nn nc nz) ns := (Nc.upd uc8 fun b hb _ e => by omega).upd u9 fun b hb e1 e2 => hnb b e1 e2
        have T9 := (Tc.pst uc8.pst).pst u9.pst
        have Li9 := (Li.pst uc8.pst).pst u9.pst
        have S9 := S8.pst u9.pst
        have P9 := P8.upd u9 (by omega)
        simp (disch := omega) only [go_sem, seval, gn8, get_put_self, gB9]
        generalize hH9 : h8.put bn (.cells [.str [110, ltr nn], .slc ia iln ic iz, .slc sa sn sc sz] true) = h9 at *
        have hn9 := u9.nxt
        have n9e : h9.nxt = h8.nxt := by rw [← hH9]; simp
        rw [← n9e]
        refine fappend (m := h.nxt + 2) (xs := ns) (y := ntOf nn p q) T_47 rfl T_59 rfl (by decide) (by decide) (N9.ext (Ext.add _ _)) (LSlc.lit (b := h9.nxt) (ls := [[.str [110, ltr nn], .slc ia iln ic iz, .slc sa sn sc sz]]) (by simp) get_add_self rfl (Reps.one (x := ntOf nn p q) ⟨_, _, rfl, Li9.ext (Ext.add _ _), S9.ext (Ext.add _ _)⟩) rfl rfl) (by simp; omega) (by simp [roomA]; omega) ?_
        intro v10 h10 N10 u10 b10
        obtain ⟨wa, wn, wc, wz, rfl, hwn⟩ := N10.form
        have hn10 := u10.nxt
        simp only [Heap.add_nxt] at hn10
        have k10 : ∀ b, b < h.nxt + 2 → h10.get b = h9.get b := fun b hb => by
          rw [u10.get b (by simp; omega) (fun e => by have := N9.blk e; omega), get_add_lt (by omega)]
        have gB10 := (k10 (h.nxt + 1) (by omega)).trans gB9
        have gA10 := (k10 h.nxt (by omega)).trans gA9
        simp (disch := omega) only [go_sem, seval, gB10]
        have hjm : (j : Int) - 1 = ((j - 1 : Nat) : Int) := by omega
        rw [hjm]
        have u11 : Upd (· = h.nxt + 1) h10 (h10.put (h.nxt + 1) (.cells [.slc ta tn tc tz, .slc wa wn wc wz, .slc none 0 (some 0) 0] true)) := Upd.put _ rfl fun cs e => by rw [gB10] at e; simp at e
        have uF : Upd (· = k) h (h10.put (h.nxt + 1) (.cells [.slc ta tn tc tz, .slc wa wn wc wz, .slc none 0 (some 0) 0] true)) := (((((uc.trans uc8).trans' u9 fun b e hb => by omega).trans ((Ext.add _ _).upd _)).trans' u10 fun b e hb => by have := N9.blk e; omega)).trans' u11 fun b e hb => by omega
        refine AgainK.mk (j - 1) (by simp only; omega) ⟨j - 1, _, ns ++ [ntOf nn p q], rfl, by simp; omega, ?_, uF, ((P9.ext (Ext.add _ _)).upd u10 fun e => by have := N9.blk e; omega).upd u11 (by omega), ((T9.ext (Ext.add _ _)).pst u10.pst).pst u11.pst, N10.upd u11 fun b hb _ e => by omega, (get_put_ne (by omega)).trans gA10, get_put_self, by simp; omega, rfl, by simp [Has]⟩
        exact nts_snoc hns hnn hp (by omega) hp0
      · have Li : Lst hc (.slc none 0 (some 0) 0) (([[105], [106]] : List Str).take 0) := Lst.nil
        have hp : 0 ≤ 2 := by omega
        have hp0 : nn = 0 → 0 = 0 := fun _ => rfl
        simp (disch := omega) only [go_sem, seval, hnz]
        refine callV_ofU F_47 rfl ((UF.less (frzV_le _ (.slc (some (hc.nxt, 0)) 2 (some 2) 1)) (Num_uf (m := 3) (Pc.ext ext_litfrz) hl (by omega))).mono ?_)
        rintro v8 h8 ⟨u8, P8, q, hq, rfl⟩
        simp (disch := omega) only [go_sem, seval]
        have L8 : Lst h8 (.slc (some (hc.nxt, 0)) 2 (some 2) 1) ([[115], [117]] : List Str) := (LSlc.lit (wr := true) (b := hc.nxt) (ls := [[.str [115]], [.str [117]]]) (by simp) get_add_self rfl (.cons rfl (.cons rfl .nil)) rfl rfl).frz.pst u8.pst
        refine lst_hi (i := q) T_41 rfl T_9 rfl L8 (show q ≤ 2 by omega) ?_
        intro sv S8
        obtain ⟨sa, sn, sc, sz, rfl, hsn⟩ := S8.form
        have uc8 : Upd (· = k) hc h8 := (ext_litfrz.upd _).trans u8
        have hn8 := uc8.nxt
        have gn8 := (uc8.get bn (by omega) (by omega)).trans gn
        have gB8 := (uc8.get (h.nxt + 1) (by omega) (by omega)).trans gBc
        have gA8 := (uc8.get h.nxt (by omega) (by omega)).trans gAc
        have u9 : Upd (· = bn) h8 (h8.put bn (.cells [.str [110, ltr nn], .slc none 0 (some 0) 0, .slc sa sn sc sz] true)) := Upd.put _ rfl fun cs e => by rw [gn8] at e; simp at e
        have gB9 := (u9.get (h.nxt + 1) (by omega) (by omega)).trans gB8
        have gA9 := (u9.get h.nxt (by omega) (by omega)).trans gA8
        have N9 : LFresh (h.nxt + 2) (h8.put bn (.cells [.str [110, ltr nn], .slc none 0 (some 0) 0, .slc sa sn sc sz] true)) (.slc na nn nc nz) ns := (Nc.upd uc8 fun b hb _ e => by omega).upd u9 fun b hb e1 e2 => hnb b e1 e2
        have T9 := (Tc.pst uc8.pst).pst u9.pst
        have Li9 := (Li.pst uc8.pst).pst u9.pst
        have S9 := S8.pst u9.pst
        have P9 := P8.upd u9 (by omega)
        simp (disch := omega) only [go_sem, seval, gn8, get_put_self, gB9]
        generalize hH9 : h8.put bn (.cells [.str [110, ltr nn], .slc none 0 (some 0) 0, .slc sa sn sc sz] true) = h9 at *
        have hn9 := u9.nxt
        have n9e : h9.nxt = h8.nxt := by rw [← hH9]; simp
        rw [← n9e]
        refine fappend (m := h.nxt + 2) (xs := ns) (y := ntOf nn 0 q) T_47 rfl T_59 rfl (by decide) (by decide) (N9.ext (Ext.add _ _)) (LSlc.lit (b := h9.nxt) (ls := [[.str [110, ltr nn], .slc none 0 (some 0) 0, .slc sa sn sc sz]]) (by simp) get_add_self rfl (Reps.one (x := ntOf nn 0 q) ⟨_, _, rfl, Li9.ext (Ext.add _ _), S9.ext (Ext.add _ _)⟩) rfl rfl) (by simp; omega) (by simp [roomA]; omega) ?_
        intro v10 h10 N10 u10 b10
        obtain ⟨wa, wn, wc, wz, rfl, hwn⟩ := N10.form
        have hn10 := u10.nxt
        simp only [Heap.add_nxt] at hn10
        have k10 : ∀ b, b < h.nxt + 2 → h10.get b = h9.get b := fun b hb => by
          rw [u10.get b (by simp; omega) (fun e => by have := N9.blk e; omega), get_add_lt (by omega)]
        have gB10 := (k10 (h.nxt + 1) (by omega)).trans gB9
        have gA10 := (k10 h.nxt (by omega)).trans gA9
        simp (disch := omega) only [go_sem, seval, gB10]
        have hjm : (j : Int) - 1 = ((j - 1 : Nat) : Int) := by omega
        rw [hjm]
        have u11 : Upd (· = h.nxt + 1) h10 (h10.put (h.nxt + 1) (.cells [.slc ta tn tc tz, .slc wa wn wc wz, .slc none 0 (some 0) 0] true)) := Upd.put _ rfl fun cs e => by rw [gB10] at e; simp at e
        have uF : Upd (· = k) h (h10.put (h.nxt + 1) (.cells [.slc ta tn tc tz, .slc wa wn wc wz, .slc none 0 (some 0) 0] true)) := (((((uc.trans uc8).trans' u9 fun b e hb => by omega).trans ((Ext.add _ _).upd _)).trans' u10 fun b e hb => by have := N9.blk e; omega)).trans' u11 fun b e hb => by omega
        refine AgainK.mk (j - 1) (by simp only; omega) ⟨j - 1, _, ns ++ [ntOf nn 0 q], rfl, by simp; omega, ?_, uF, ((P9.ext (Ext.add _ _)).upd u10 fun e => by have := N9.blk e; omega).upd u11 (by omega), ((T9.ext (Ext.add _ _)).pst u10.pst).pst u11.pst, N10.upd u11 fun b hb _ e => by omega, (get_put_ne (by omega)).trans gA10, get_put_self, by simp; omega, rfl, by simp [Has]⟩
        exact nts_snoc hns hnn hp (by omega) hp0
    · have hj : j = 0 := by omega
      subst hj
      simp (disch := omega) only [go_sem, seval, hj0]
      have hy1 : ns.length = y + 1 := by omega
      obtain ⟨hf2, lf2, nf2, Nf, uf2⟩ := Nt.frz
      have gAf := (uf2.get h.nxt (by omega) (fun e => by have := e.1; omega)).trans gA
      have gBf := (uf2.get (h.nxt + 1) (by omega) (fun e => by have := e.1; omega)).trans gB
      have Pf := Pt.upd uf2 fun e => by have := e.1; omega
      have uhf := u.trans' uf2 fun b e hb => by have := e.1; omega
      have Tf := Tt.pst uf2.pst
      clear hk k0 k2 k3 k6
      refine callV_ofU F_47 rfl ((UF.less lf2 (Num_uf (m := 7) Pf hl (by omega))).mono ?_)
      rintro v20 h20 ⟨u20, P20, z, hz, rfl⟩
      simp (disch := omega) only [go_sem, seval]
      have hn20 := u20.nxt
      refine LoopU_while (fun m st hh => ∃ (j : Nat) (pv : AV) (ps : List GProd), j = m ∧ ps.length + j = z + 1 ∧ (∀ p ∈ ps, PrOk nn tn p) ∧ Upd (· = k) h hh ∧ Pk hh k pk l ∧ Lst hh (.slc ta tn tc tz) ts ∧ Lst hh (.slc na nn nc nz) ns ∧ LFresh (h.nxt + 2) hh pv ps ∧
          hh.get h.nxt = some (.cells [.slc none 0 (some 0) 0, .slc none 0 (some 0) 0, .slc none 0 (some 0) 0] true) ∧ hh.get (h.nxt + 1) = some (.cells [.slc ta tn tc tz, .slc na nn nc nz, pv] true) ∧ h.nxt + 2 ≤ hh.nxt ∧
          Keep st 127 [(0, .ptr (some (k, 0))), (2, .ptr (some (h.nxt, 0))), (3, .ptr (some (h.nxt + 1, 0))), (8, .int .i64 (j : Nat))]) (z + 1)
        ⟨z + 1, _, [], rfl, by simp, by simp, uhf.trans u20, P20, Tf.pst u20.pst, Nf.pst u20.pst, LFresh.nil, (u20.get _ (by omega) (by omega)).trans gAf, (u20.get _ (by omega) (by omega)).trans gBf, by omega, rfl, by simp [Has]⟩ ?_
      rintro m st hh ⟨j, pv, ps, rfl, hjl, hps, u, Pt, Tt, Nt, Rt, gA, gB, hnh, hk⟩
      obtain ⟨pa, pn, pc, pz, rfl, hpn⟩ := Rt.form
      rw [hk.eq]
      obtain ⟨k0, k2, k3, k8, -⟩ := hk.2
      simp only [slotsFrom, Nat.reduceAdd] at k0 k2 k3 k8 ⊢
      simp only [k0, k2, k3, k8]
      simp (disch := omega) only [go_sem, seval]
      by_cases hj0 : (j : Int) > 0
      · simp (disch := omega) only [go_sem, seval, hj0, gB]
        refine callV_ofU F_47 rfl ((Num_uf (m := nn) Pt hl (by omega)).mono ?_)
        rintro v21 h21 ⟨u21, P21, left, hleft, rfl⟩
        simp (disch := omega) only [go_sem, seval]
        have hn21 := u21.nxt
        have e22 : Ext h21 ((h21.add (.cells [.int .i64 0, .slc none 0 (some 0) 0, .slc none 0 (some 0) 0] true)).put h21.nxt (.cells [.int .i64 (left : Nat), .slc none 0 (some 0) 0, .slc none 0 (some 0) 0] true)) := (Ext.add _ _).put (Nat.le_refl _)
        have g22 : ((h21.add (.cells [.int .i64 0, .slc none 0 (some 0) 0, .slc none 0 (some 0) 0] true)).put h21.nxt (.cells [.int .i64 (left : Nat), .slc none 0 (some 0) 0, .slc none 0 (some 0) 0] true)).get h21.nxt = some (.cells [.int .i64 (left : Nat), .slc none 0 (some 0) 0, .slc none 0 (some 0) 0] true) := get_put_self
        have n22 : ((h21.add (.cells [.int .i64 0, .slc none 0 (some 0) 0, .slc none 0 (some 0) 0] true)).put h21.nxt (.cells [.int .i64 (left : Nat), .slc none 0 (some 0) 0, .slc none 0 (some 0) 0] true)).nxt = h21.nxt + 1 := by simp
        generalize ((h21.add (.cells [.int .i64 0, .slc none 0 (some 0) 0, .slc none 0 (some 0) 0] true)).put h21.nxt (.cells [.int .i64 (left : Nat), .slc none 0 (some 0) 0, .slc none 0 (some 0) 0] true)) = h22 at *
        refine callV_ofU F_47 rfl ((Num_uf (m := 4) (P21.ext e22) hl (by omega)).mono ?_)
        rintro v23 h23 ⟨u23, P23, w, hw, rfl⟩
        simp (disch := omega) only [go_sem, seval]
        have hn23 := u23.nxt
        obtain ⟨bd, hbd⟩ : ∃ bd, bd = h21.nxt := ⟨_, rfl⟩
        rw [← hbd] at g22 n22 ⊢
        have g23 := (u23.get bd (by omega) (by omega)).trans g22
        have uh23 : Upd (· = k) hh h23 := (u21.trans (e22.upd _)).trans u23
        have gB23 := (uh23.get (h.nxt + 1) (by omega) (by omega)).trans gB
        have gA23 := (uh23.get h.nxt (by omega) (by omega)).trans gA
        refine LoopU_while (fun m st hx => ∃ (i : Nat) (rv : AV) (rs : List GSym), i = m ∧ rs.length + i = w ∧ (∀ s ∈ rs, 0 ≤ s.at_ ∧ (s.tok = true → s.at_ < (tn : Int)) ∧ (s.tok = false → s.at_ < (nn : Int))) ∧ Upd (fun b => b = k ∨ b = bd) h23 hx ∧ Pk hx k pk l ∧ LFresh h23.nxt hx rv rs ∧
            hx.get bd = some (.cells [.int .i64 (left : Nat), rv, .slc none 0 (some 0) 0] true) ∧
            Keep st 127 [(0, .ptr (some (k, 0))), (2, .ptr (some (h.nxt, 0))), (3, .ptr (some (h.nxt + 1, 0))), (8, .int .i64 (j : Nat)), (9, .ptr (some (bd, 0))), (10, .int .i64 (i : Nat))]) w
          ⟨w, _, [], rfl, by simp, by simp, Upd.refl _ _, P23, LFresh.nil, g23, rfl, by simp [Has]⟩ ?_
        clear hk k0 k2 k3 k8
        rintro m st hx ⟨i, rv, rs, rfl, hil, hrs, ux, Px, Rx, gx, hk⟩
        obtain ⟨ra, rn, rc, rz, rfl, hrn⟩ := Rx.form
        rw [hk.eq]
        obtain ⟨k0, k2, k3, k8, k9, k10, -⟩ := hk.2
        simp only [slotsFrom, Nat.reduceAdd] at k0 k2 k3 k8 k9 k10 ⊢
        simp only [k0, k2, k3, k8, k9, k10]
        have hnx := ux.nxt
        have gBx := (ux.get (h.nxt + 1) (by omega) (by omega)).trans gB23
        have gAx := (ux.get h.nxt (by omega) (by omega)).trans gA23
        simp (disch := omega) only [go_sem, seval]
        by_cases hi0 : (i : Int) > 0
        · simp (disch := omega) only [go_sem, seval, hi0]
          refine callV_ofU F_47 rfl ((Num_uf (m := 5) Px hl (by omega)).mono ?_)
          rintro v24 h24 ⟨u24, P24, c, hc, rfl⟩
          simp (disch := omega) only [go_sem, seval]
          have hn24 := u24.nxt
          by_cases htk : (c : Int) < 3
          · skip
            rw [show decide ((c : Int) < 3) = true from by simp; omega]
            have e25 : Ext h24 ((h24.add (.cells [.bool false, .int .i64 0] true)).put h24.nxt (.cells [.bool true, .int .i64 0] true)) := (Ext.add _ _).put (Nat.le_refl _)
            have g25 : ((h24.add (.cells [.bool false, .int .i64 0] true)).put h24.nxt (.cells [.bool true, .int .i64 0] true)).get h24.nxt = some (.cells [.bool true, .int .i64 0] true) := get_put_self
            have n25 : ((h24.add (.cells [.bool false, .int .i64 0] true)).put h24.nxt (.cells [.bool true, .int .i64 0] true)).nxt = h24.nxt + 1 := by simp
            generalize ((h24.add (.cells [.bool false, .int .i64 0] true)).put h24.nxt (.cells [.bool true, .int .i64 0] true)) = h25 at *
            have u25 : Upd (· = k) hx h25 := u24.trans (e25.upd _)
            have gB25 := (u25.get (h.nxt + 1) (by omega) (by omega)).trans gBx
            simp (disch := omega) only [go_sem, seval, gB25]
            refine callV_ofU F_47 rfl ((Num_uf (m := nn) (P24.ext e25) hl (by omega)).mono ?_)
            rintro v26 h26 ⟨u26, P26, at_, hat, rfl⟩
            simp (disch := omega) only [go_sem, seval]
            have hn26 := u26.nxt
            have g26 := (u26.get h24.nxt (by omega) (by omega)).trans g25
            have gB26 := (u26.get (h.nxt + 1) (by omega) (by omega)).trans gB25
            have gx26 := ((u25.trans u26).get bd (by omega) (by omega)).trans gx
            have u27 : Upd (· = h24.nxt) h26 (h26.put h24.nxt (.cells [.bool true, .int .i64 (at_ : Nat)] true)) := Upd.put _ rfl fun cs e => by rw [g26] at e; simp at e
            have uz : Upd (· = k) hx (h26.put h24.nxt (.cells [.bool true, .int .i64 (at_ : Nat)] true)) := (u25.trans u26).trans' u27 fun b e hb => by omega
            have Pz := P26.upd u27 (by omega)
            have gz : (h26.put h24.nxt (.cells [.bool true, .int .i64 (at_ : Nat)] true)).get h24.nxt = some (.cells [.bool true, .int .i64 (at_ : Nat)] true) := get_put_self
            have nz1 : (h26.put h24.nxt (.cells [.bool true, .int .i64 (at_ : Nat)] true)).nxt = h26.nxt := by simp
            simp (disch := omega) only [go_sem, seval, g26]
            generalize h26.put h24.nxt (.cells [.bool true, .int .i64 (at_ : Nat)] true) = hz1 at *
            have gB1 := (uz.get (h.nxt + 1) (by omega) (by omega)).trans gBx
            simp (disch := omega) only [go_sem, seval, gz, gB1, gB26]
            refine callV_ofU F_47 rfl ((Num_uf (m := tn) Pz hl (by omega)).mono ?_)
            rintro v28 h28 ⟨u28, P28, at2, hat2, rfl⟩
            simp (disch := omega) only [go_sem, seval]
            have hz1n := uz.nxt
            have gx28 := ((uz.trans u28).get bd (by omega) (by omega)).trans gx
            have gz28 := (u28.get h24.nxt (by omega) (by omega)).trans gz
            have u29 : Upd (· = h24.nxt) h28 (h28.put h24.nxt (.cells [.bool true, .int .i64 (at2 : Nat)] true)) := Upd.put _ rfl fun cs e => by rw [gz28] at e; simp at e
            have uz2 : Upd (· = k) hx (h28.put h24.nxt (.cells [.bool true, .int .i64 (at2 : Nat)] true)) := (uz.trans u28).trans' u29 fun b e hb => by omega
            have Pz2 := P28.upd u29 (by omega)
            have gz2 : (h28.put h24.nxt (.cells [.bool true, .int .i64 (at2 : Nat)] true)).get h24.nxt = some (.cells [.bool true, .int .i64 (at2 : Nat)] true) := get_put_self
            simp (disch := omega) only [go_sem, seval, gz28]
            generalize h28.put h24.nxt (.cells [.bool true, .int .i64 (at2 : Nat)] true) = hz2 at *
            clear uz Pz gz
            have uz := uz2
            have Pz := Pz2
            have gz := gz2
            -- uz : Upd (· = k) hx hz; Pz; gz : hz.get bs = [.bool tok, .int at]
            have hnz := uz.nxt
            have gxz := (uz.get bd (by omega) (by omega)).trans gx
            have Rz : LFresh h23.nxt hz2 (.slc ra rn rc rz) rs := Rx.upd uz fun b hb _ e => by omega
            simp (disch := omega) only [go_sem, seval, gxz, gz, gx28]
            refine fappend (m := h23.nxt) (xs := rs) (y := (⟨true, (at2 : Nat)⟩ : GSym)) T_60 rfl T_66 rfl (by decide) (by decide) (Rz.ext (Ext.add _ _)) (LSlc.lit (b := hz2.nxt) (ls := [[.bool true, .int .i64 (at2 : Nat)]]) (by simp) get_add_self rfl (Reps.one (x := (⟨true, (at2 : Nat)⟩ : GSym)) rfl) rfl rfl) (by simp; omega) (by simp [roomA]; omega) ?_
            intro v30 h30 R30 u30 b30
            obtain ⟨va, vn, vc, vz, rfl, hvn⟩ := R30.form
            have hn30 := u30.nxt
            simp only [Heap.add_nxt] at hn30
            have gx30 : h30.get bd = some (.cells [.int .i64 (left : Nat), .slc ra rn rc rz, .slc none 0 (some 0) 0] true) := by
              refine (u30.get bd (by simp; omega) (fun e => ?_)).trans ((get_add_lt (by omega)).trans gxz)
              have := Rz.blk e; omega
            simp (disch := omega) only [go_sem, seval, gx30]
            have him : (i : Int) - 1 = ((i - 1 : Nat) : Int) := by omega
            rw [him]
            have u31 : Upd (· = bd) h30 (h30.put bd (.cells [.int .i64 (left : Nat), .slc va vn vc vz, .slc none 0 (some 0) 0] true)) := Upd.put _ rfl fun cs e => by rw [gx30] at e; simp at e
            have uA : Upd (fun b => b = k ∨ b = bd) h23 h30 := (ux.trans ((uz.trans ((Ext.add _ _).upd _)).weak fun b _ e => .inl e)).trans' u30 fun b e hb => by have := Rz.blk e; omega
            refine AgainK.mk (i - 1) (by simp only; omega) ⟨i - 1, _, rs ++ [⟨true, (at2 : Nat)⟩], rfl, by simp; omega, fun s hs => ?_, uA.trans (u31.weak fun b _ e => .inr e), ((Pz.ext (Ext.add _ _)).upd u30 fun e => by have := Rz.blk e; omega).upd u31 (by omega), R30.upd u31 fun b hb _ e => by omega, get_put_self, rfl, by simp [Has]⟩
            rcases List.mem_append.1 hs with hs | hs
            · exact hrs s hs
            · simp only [List.mem_singleton] at hs
              subst hs
              exact ⟨by simp, fun e => by first | (cases e; done) | (simp only; omega), fun e => by first | (cases e; done) | (simp only; omega)⟩
          · skip
            rw [show decide ((c : Int) < 3) = false from by simp; omega]
            have e25 : Ext h24 ((h24.add (.cells [.bool false, .int .i64 0] true)).put h24.nxt (.cells [.bool false, .int .i64 0] true)) := (Ext.add _ _).put (Nat.le_refl _)
            have g25 : ((h24.add (.cells [.bool false, .int .i64 0] true)).put h24.nxt (.cells [.bool false, .int .i64 0] true)).get h24.nxt = some (.cells [.bool false, .int .i64 0] true) := get_put_self
            have n25 : ((h24.add (.cells [.bool false, .int .i64 0] true)).put h24.nxt (.cells [.bool false, .int .i64 0] true)).nxt = h24.nxt + 1 := by simp
            generalize ((h24.add (.cells [.bool false, .int .i64 0] true)).put h24.nxt (.cells [.bool false, .int .i64 0] true)) = h25 at *
            have u25 : Upd (· = k) hx h25 := u24.trans (e25.upd _)
            have gB25 := (u25.get (h.nxt + 1) (by omega) (by omega)).trans gBx
            simp (disch := omega) only [go_sem, seval, gB25]
            refine callV_ofU F_47 rfl ((Num_uf (m := nn) (P24.ext e25) hl (by omega)).mono ?_)
            rintro v26 h26 ⟨u26, P26, at_, hat, rfl⟩
            simp (disch := omega) only [go_sem, seval]
            have hn26 := u26.nxt
            have g26 := (u26.get h24.nxt (by omega) (by omega)).trans g25
            have gB26 := (u26.get (h.nxt + 1) (by omega) (by omega)).trans gB25
            have gx26 := ((u25.trans u26).get bd (by omega) (by omega)).trans gx
            have u27 : Upd (· = h24.nxt) h26 (h26.put h24.nxt (.cells [.bool false, .int .i64 (at_ : Nat)] true)) := Upd.put _ rfl fun cs e => by rw [g26] at e; simp at e
            have uz : Upd (· = k) hx (h26.put h24.nxt (.cells [.bool false, .int .i64 (at_ : Nat)] true)) := (u25.trans u26).trans' u27 fun b e hb => by omega
            have Pz := P26.upd u27 (by omega)
            have gz : (h26.put h24.nxt (.cells [.bool false, .int .i64 (at_ : Nat)] true)).get h24.nxt = some (.cells [.bool false, .int .i64 (at_ : Nat)] true) := get_put_self
            have nz1 : (h26.put h24.nxt (.cells [.bool false, .int .i64 (at_ : Nat)] true)).nxt = h26.nxt := by simp
            simp (disch := omega) only [go_sem, seval, g26]
            generalize h26.put h24.nxt (.cells [.bool false, .int .i64 (at_ : Nat)] true) = hz1 at *
            -- uz : Upd (· = k) hx hz; Pz; gz : hz.get bs = [.bool tok, .int at]
            have hnz := uz.nxt
            have gxz := (uz.get bd (by omega) (by omega)).trans gx
            have Rz : LFresh h23.nxt hz1 (.slc ra rn rc rz) rs := Rx.upd uz fun b hb _ e => by omega
            simp (disch := omega) only [go_sem, seval, gxz, gz, gx26]
            refine fappend (m := h23.nxt) (xs := rs) (y := (⟨false, (at_ : Nat)⟩ : GSym)) T_60 rfl T_66 rfl (by decide) (by decide) (Rz.ext (Ext.add _ _)) (LSlc.lit (b := hz1.nxt) (ls := [[.bool false, .int .i64 (at_ : Nat)]]) (by simp) get_add_self rfl (Reps.one (x := (⟨false, (at_ : Nat)⟩ : GSym)) rfl) rfl rfl) (by simp; omega) (by simp [roomA]; omega) ?_
            intro v30 h30 R30 u30 b30
            obtain ⟨va, vn, vc, vz, rfl, hvn⟩ := R30.form
            have hn30 := u30.nxt
            simp only [Heap.add_nxt] at hn30
            have gx30 : h30.get bd = some (.cells [.int .i64 (left : Nat), .slc ra rn rc rz, .slc none 0 (some 0) 0] true) := by
              refine (u30.get bd (by simp; omega) (fun e => ?_)).trans ((get_add_lt (by omega)).trans gxz)
              have := Rz.blk e; omega
            simp (disch := omega) only [go_sem, seval, gx30]
            have him : (i : Int) - 1 = ((i - 1 : Nat) : Int) := by omega
            rw [him]
            have u31 : Upd (· = bd) h30 (h30.put bd (.cells [.int .i64 (left : Nat), .slc va vn vc vz, .slc none 0 (some 0) 0] true)) := Upd.put _ rfl fun cs e => by rw [gx30] at e; simp at e
            have uA : Upd (fun b => b = k ∨ b = bd) h23 h30 := (ux.trans ((uz.trans ((Ext.add _ _).upd _)).weak fun b _ e => .inl e)).trans' u30 fun b e hb => by have := Rz.blk e; omega
            refine AgainK.mk (i - 1) (by simp only; omega) ⟨i - 1, _, rs ++ [⟨false, (at_ : Nat)⟩], rfl, by simp; omega, fun s hs => ?_, uA.trans (u31.weak fun b _ e => .inr e), ((Pz.ext (Ext.add _ _)).upd u30 fun e => by have := Rz.blk e; omega).upd u31 (by omega), R30.upd u31 fun b hb _ e => by omega, get_put_self, rfl, by simp [Has]⟩
            rcases List.mem_append.1 hs with hs | hs
            · exact hrs s hs
            · simp only [List.mem_singleton] at hs
              subst hs
              exact ⟨by simp, fun e => by first | (cases e; done) | (simp only; omega), fun e => by first | (cases e; done) | (simp only; omega)⟩
        · have him : i = 0 := by omega
          subst him
          simp (disch := omega) only [go_sem, seval, hi0, gBx, gx]
          have uhx : Upd (· = k) hh hx := uh23.trans' ux fun b e hb => by rcases e with e | e; exact e; omega
          obtain ⟨hf3, lf3, nf3, Rf3, uf3⟩ := Rx.frz
          have uh3 : Upd (· = k) hh hf3 := uhx.trans' uf3 fun b e hb => by have := e.1; omega
          have P3 := Px.upd uf3 fun e => by have := e.1; omega
          refine callV_ofU F_61 rfl ((UF.less lf3 (rules_uf P3 hl (Nt.pst uh3.pst) (by omega) hns.few Rf3 (by omega))).mono ?_)
          rintro v40 h40 ⟨u40, P40, xs, X40⟩
          obtain ⟨xa, xn, xc, xz, rfl, hxn⟩ := X40.form
          have hn40 := u40.nxt
          have gx40 := (u40.get bd (by omega) (by omega)).trans ((uf3.get bd (by omega) (fun e => by have := e.1; omega)).trans gx)
          have u41 : Upd (· = bd) h40 (h40.put bd (.cells [.int .i64 (left : Nat), .slc ra rn rc rz, .slc xa xn xc xz] true)) := Upd.put _ rfl fun cs e => by rw [gx40] at e; simp at e
          have g41 : (h40.put bd (.cells [.int .i64 (left : Nat), .slc ra rn rc rz, .slc xa xn xc xz] true)).get bd = some (.cells [.int .i64 (left : Nat), .slc ra rn rc rz, .slc xa xn xc xz] true) := get_put_self
          have n41 : (h40.put bd (.cells [.int .i64 (left : Nat), .slc ra rn rc rz, .slc xa xn xc xz] true)).nxt = h40.nxt := by simp
          have U41 : Upd (· = k) hh (h40.put bd (.cells [.int .i64 (left : Nat), .slc ra rn rc rz, .slc xa xn xc xz] true)) := (uh3.trans u40).trans' u41 fun b e hb => by omega
          have gB40 := ((uh3.trans u40).get (h.nxt + 1) (by omega) (by omega)).trans gB
          simp (disch := omega) only [go_sem, seval, gx40, gB40]
          generalize h40.put bd (.cells [.int .i64 (left : Nat), .slc ra rn rc rz, .slc xa xn xc xz] true) = h41 at *
          have gB41 := (U41.get (h.nxt + 1) (by omega) (by omega)).trans gB
          have gA41 := (U41.get h.nxt (by omega) (by omega)).trans gA
          have R41 : LFresh (h.nxt + 2) h41 (.slc pa pn pc pz) ps := Rt.upd U41 fun b hb _ e => by omega
          rw [← n41]
          refine fappend (m := h.nxt + 2) (xs := ps) (y := (⟨(left : Nat), rs, xs⟩ : GProd)) T_48 rfl T_63 rfl (by decide) (by decide) (R41.ext (Ext.add _ _)) (LSlc.lit (b := h41.nxt) (ls := [[.int .i64 (left : Nat), .slc ra rn rc rz, .slc xa xn xc xz]]) (by simp) get_add_self rfl (Reps.one (x := (⟨(left : Nat), rs, xs⟩ : GProd)) ⟨_, _, rfl, ((Rf3.pst u40.pst).pst u41.pst).ext (Ext.add _ _), (X40.pst u41.pst).ext (Ext.add _ _)⟩) rfl rfl) (by simp; omega) (by simp [roomA]; omega) ?_
          intro v42 h42 R42 u42 b42
          obtain ⟨va, vn, vc, vz, rfl, hvn⟩ := R42.form
          have hn42 := u42.nxt
          simp only [Heap.add_nxt] at hn42
          have k42 : ∀ b, b < h.nxt + 2 → h42.get b = h41.get b := fun b hb => by
            rw [u42.get b (by simp; omega) (fun e => by have := R41.blk e; omega), get_add_lt (by omega)]
          have gB42 := (k42 (h.nxt + 1) (by omega)).trans gB41
          have gA42 := (k42 h.nxt (by omega)).trans gA41
          simp (disch := omega) only [go_sem, seval, gB42]
          have hjm : (j : Int) - 1 = ((j - 1 : Nat) : Int) := by omega
          rw [hjm]
          have u43 : Upd (· = h.nxt + 1) h42 (h42.put (h.nxt + 1) (.cells [.slc ta tn tc tz, .slc na nn nc nz, .slc va vn vc vz] true)) := Upd.put _ rfl fun cs e => by rw [gB42] at e; simp at e
          have uF : Upd (· = k) h (h42.put (h.nxt + 1) (.cells [.slc ta tn tc tz, .slc na nn nc nz, .slc va vn vc vz] true)) := (((u.trans U41).trans ((Ext.add _ _).upd _)).trans' u42 fun b e hb => by have := R41.blk e; omega).trans' u43 fun b e hb => by omega
          refine AgainK.mk (j - 1) (by simp only; omega) ⟨j - 1, _, ps ++ [⟨(left : Nat), rs, xs⟩], rfl, by simp; omega, fun p hp => ?_, uF, (((P40.upd u41 (by omega)).ext (Ext.add _ _)).upd u42 fun e => by have := R41.blk e; omega).upd u43 (by omega), (((Tt.pst U41.pst).ext (Ext.add _ _)).pst u42.pst).pst u43.pst, (((Nt.pst U41.pst).ext (Ext.add _ _)).pst u42.pst).pst u43.pst, R42.upd u43 fun b hb _ e => by omega, (get_put_ne (by omega)).trans gA42, get_put_self, by simp; omega, rfl, by simp [Has]⟩
          rcases List.mem_append.1 hp with hp | hp
          · exact hps p hp
          · simp only [List.mem_singleton] at hp
            subst hp
            exact ⟨⟨by simp, by simp only; omega⟩, by simp only; omega, hrs⟩
      · have hjz : j = 0 := by omega
        subst hjz
        simp (disch := omega) only [go_sem, seval, hj0, gB, gA]
        have hz1 : ps.length = z + 1 := by omega
        have u50 : Upd (· = h.nxt) hh (hh.put h.nxt (.cells [.slc ta tn tc tz, .slc na nn nc nz, .slc pa pn pc pz] true)) := Upd.put _ rfl fun cs e => by rw [gA] at e; simp at e
        have R50 : LFresh (h.nxt + 2) (hh.put h.nxt (.cells [.slc ta tn tc tz, .slc na nn nc nz, .slc pa pn pc pz] true)) (.slc pa pn pc pz) ps := Rt.upd u50 fun b hb _ e => by omega
        obtain ⟨hf5, lf5, nf5, Rf5, uf5⟩ := R50.frz
        refine hQ _ _ hf5 lf5 ⟨(u.trans' u50 fun b e hb => by omega).trans' uf5 fun b e hb => by have := e.1; omega, ⟨ts, ns, ps⟩, ⟨_, _, _, rfl, (Tt.pst u50.pst).pst uf5.pst, (Nt.pst u50.pst).pst uf5.pst, Rf5⟩, ?_⟩
        exact ⟨hts, ⟨by simp only; omega, by simp only; omega⟩, hns, ⟨by simp only; omega, by simp only; omega⟩, fun p hp => by have := hps p hp; rw [hnn, htn] at this; exact this, ⟨by simp only; omega, by simp only; omega⟩⟩

end Go.Proofs.Ytaockkmmjinhpaa
