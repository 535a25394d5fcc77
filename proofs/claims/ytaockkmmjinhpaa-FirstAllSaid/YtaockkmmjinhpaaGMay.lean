/-
  Layer gram: which grammars may be: those that are made.
-/
import Derived.Test.YtaockkmmjinhpaaGGram
namespace Go.Proofs.Ytaockkmmjinhpaa
open Go Go.Am
set_option maxRecDepth 100000
set_option maxHeartbeats 4000000
set_option linter.unusedSimpArgs false
set_option linter.unusedVariables false

section
variable {T : TT} {F : Nat → Option Func} {s : List AV} {h : Heap} {k : AV → Heap → Prop}
@[go_sem ↓] theorem UK_makeMap {t r} : UK T F (.makeMap t r) s h k = @OBk (opA T (evalO s) (.makeMap t r) h) ⟨k⟩ := propext Iff.rfl
@[go_sem ↓] theorem UK_lookup {t x y ok} : UK T F (.lookup t x y ok) s h k = @OBk (opA T (evalO s) (.lookup t x y ok) h) ⟨k⟩ := propext Iff.rfl
@[go_sem ↓] theorem UK_mapUpdate {t m y x} : UK T F (.mapUpdate t m y x) s h k = @OBk (opA T (evalO s) (.mapUpdate t m y x) h) ⟨k⟩ := propext Iff.rfl
end

def enS : List Str → Nat → List (AV × AV × Nat)
  | [], _ => []
  | s :: r, n => (.str s, .bool true, n) :: enS r (n + 1)
theorem enS_app : ∀ (S : List Str) (n : Nat) (s : Str), enS (S ++ [s]) n = enS S n ++ [(.str s, .bool true, n + S.length)]
  | [], n, s => by simp [enS]
  | t :: S, n, s => by
    rw [List.cons_append, enS, enS_app S (n + 1) s, enS, List.cons_append, List.length_cons, show n + 1 + S.length = n + (S.length + 1) by omega]
theorem keyEq_ne {s t : List UInt8} (h : s ≠ t) : keyEq .str (.str s) (.str t) = some false := by simp [keyEq, h]
theorem find_enS {s : Str} : ∀ {S : List Str} (n i : Nat), s ∉ S → findA .str (.str s) (enS S n) i = some none
  | [], n, i, _ => by simp [enS, findA]
  | t :: S, n, i, h => by
    have hk := keyEq_ne (s := s) (t := t) fun e => h (List.mem_cons.2 (.inl e))
    rw [enS, findA]
    simp only [hk]
    exact find_enS (n + 1) (i + 1) fun h2 => h (List.mem_cons.2 (.inr h2))

theorem unlike_uf {h : Heap} {v : AV} {xs : List Str} (sx : Lst h v xs) (hx : xs.length ≤ 1000) (hd : xs.Nodup) : UF T F 104 [v] h fun v' h' => Ext h h' ∧ v' = .bool true := by
  obtain ⟨a, n, c, z, rfl, hn⟩ := sx.form
  refine UF.gen fun Q hQ => UF.of (F_104) (c := _) rfl ?_
  unfold Try.f104
  simp only [List.length, Nat.reduceSub, Nat.reduceAdd, List.replicate, List.cons_append, List.nil_append]
  simp (disch := omega) only [go_sem, seval]
  refine LoopU_while (fun m st hh => ∃ (i : Nat), i ≤ xs.length ∧ m = xs.length - i ∧ (∀ b, b < h.nxt → hh.get b = h.get b) ∧ hh.nxt = h.nxt + 1 ∧ hh.get h.nxt = some (.map (enS (xs.take i) 0) i) ∧
      Keep st 19 [(3, .map (some h.nxt)), (7, .slc a n c z), (8, .int .i64 (n : Nat)), (9, .int .i64 (i : Nat))]) xs.length
    ⟨0, by omega, by omega, fun b hb => by simp [get_add_lt hb], by simp, get_add_self, rfl, by simp [Has]⟩ ?_
  rintro m st hh ⟨i, hi, rfl, hold, hnx, gm, hk⟩
  rw [hk.eq]
  obtain ⟨k3, k7, k8, k9, -⟩ := hk.2
  simp only [slotsFrom, Nat.reduceAdd] at k3 k7 k8 k9 ⊢
  simp only [k3, k7, k8, k9]
  simp (disch := omega) only [go_sem, seval]
  by_cases hlt : (i : Int) < (n : Int)
  · have hil : i < xs.length := by omega
    obtain ⟨b1, o1, cs1, l1, rfl, rfl, hb1, hg1, rfl, hr1, ht1, hc1⟩ := sx.at_ (i := i) (x := xs[i]) (List.getElem?_eq_getElem hil) (k := 1) rfl
    have g1 := (hold b1 hb1).trans hg1
    have c1 : cs1[o1 + i * 1]? = some (.str xs[i]) := hc1 0 (by decide)
    have hmt : mapTypes T 185 = some (.str, 4) := by simp [mapTypes, T_185, T_9]
    have hz : zeroOf T 4 = some (.bool false) := by simp [zeroOf, T_4, TK.isAgg]
    have hnin : xs[i] ∉ xs.take i := by
      intro hin
      obtain ⟨j, hj, e⟩ := List.getElem_of_mem hin
      rw [List.length_take] at hj
      rw [List.getElem_take] at e
      have := (List.getElem_inj hd).1 e
      omega
    have hf := find_enS (s := xs[i]) (S := xs.take i) 0 0 hnin
    have hlk : lookupA T 185 (.map (some h.nxt)) (.str xs[i]) false hh = some (.bool false) := by
      simp only [lookupA, hmt, entriesA, gm, hf, hz]; rfl
    have hup : mapUpdateA T 185 (.map (some h.nxt)) (.str xs[i]) (.bool true) hh = some (hh.put h.nxt (.map (enS (xs.take (i + 1)) 0) (i + 1))) := by
      simp only [mapUpdateA, hmt, gm, hf]
      have : xs.take (i + 1) = xs.take i ++ [xs[i]] := by rw [List.take_add_one, List.getElem?_eq_getElem hil]; rfl
      rw [this, enS_app, Nat.zero_add, List.length_take, Nat.min_eq_left (by omega)]
    simp (disch := omega) only [go_sem, seval, hlt, g1, c1, Int.toNat_natCast, hlk, hup]
    exact AgainK.mk (xs.length - (i + 1)) (by simp only; omega) ⟨i + 1, by omega, rfl, fun b hb => (get_put_ne (by omega)).trans (hold b hb), by simp [hnx], get_put_self, rfl, by simp [Has]⟩
  · simp (disch := omega) only [go_sem, seval, hlt]
    exact hQ _ _ ⟨⟨by omega, hold⟩, rfl⟩

/-- A name of letters. -/
def NameOk (s : List UInt8) : Prop := 1 ≤ s.length ∧ s.length ≤ 8 ∧ ∀ c ∈ s, 97 ≤ c.toNat ∧ c.toNat ≤ 122
theorem name_uf {h : Heap} {s : List UInt8} (hs : NameOk s) : UF T F 107 [.str s] h fun v' h' => Ext h h' ∧ v' = .bool true := by
  obtain ⟨h1, h8, hc⟩ := hs
  refine UF.gen fun Q hQ => UF.of (F_107) (c := _) rfl ?_
  unfold Try.f107
  simp only [List.length, Nat.reduceSub, Nat.reduceAdd, List.replicate, List.cons_append, List.nil_append]
  simp (disch := omega) only [go_sem, seval]
  have q1 : ¬ (s.length : Int) < 1 := by omega
  have q2 : ¬ (s.length : Int) > 8 := by omega
  simp (disch := omega) only [go_sem, seval, q1, q2]
  refine LoopU_while (fun m st hh => ∃ (i : Nat), i ≤ s.length ∧ m = s.length - i ∧ Ext h hh ∧ Keep st 47 [(0, .str s), (14, .int .i64 (s.length : Nat)), (15, .int .i64 (i : Nat))]) s.length
    ⟨0, by omega, by omega, Ext.refl _, rfl, by simp [Has]⟩ ?_
  rintro m st hh ⟨i, hi, rfl, eh, hk⟩
  rw [hk.eq]
  obtain ⟨k0, k14, k15, -⟩ := hk.2
  simp only [slotsFrom, Nat.reduceAdd] at k0 k14 k15 ⊢
  simp only [k0, k14, k15]
  simp (disch := omega) only [go_sem, seval]
  by_cases hlt : (i : Int) < (s.length : Int)
  · have hil : i < s.length := by omega
    have hsi : s[i]? = some s[i] := List.getElem?_eq_getElem hil
    obtain ⟨c1, c2⟩ := hc s[i] (List.getElem_mem hil)
    have p1 : ((s[i].toNat : Nat) : Int) ≥ 97 := by omega
    have p2 : ((s[i].toNat : Nat) : Int) ≤ 122 := by omega
    simp (disch := omega) only [go_sem, seval, hlt, Int.toNat_natCast, hsi, p1, p2]
    exact AgainK.mk (s.length - (i + 1)) (by simp only; omega) ⟨i + 1, by omega, rfl, eh, rfl, by simp [Has]⟩
  · simp (disch := omega) only [go_sem, seval, hlt]
    exact hQ _ _ ⟨eh, rfl⟩

theorem names1_uf {h : Heap} {s : List UInt8} (hs : NameOk s) : UF T F 106 [.str s] h fun v' h' => Ext h h' ∧ v' = .bool false := by
  refine UF.gen fun Q hQ => UF.of (F_106) (c := _) rfl ?_
  unfold Try.f106
  simp only [List.length, Nat.reduceSub, Nat.reduceAdd, List.replicate, List.cons_append, List.nil_append]
  simp (disch := omega) only [go_sem, seval]
  refine callV_ofU F_107 rfl ((name_uf hs).mono ?_)
  rintro v1 h1 ⟨e1, rfl⟩
  simp (disch := omega) only [go_sem, seval]
  exact hQ _ _ ⟨e1, rfl⟩
theorem IndexS_uf {h : Heap} {v : AV} {xs : List Str} (sx : Lst h v xs) (hx : xs.length ≤ 1000) (hn : ∀ s ∈ xs, NameOk s) : UF T F 115 [v, .func (.func 106) []] h fun v' h' => Ext h h' ∧ v' = .int .i64 (-1) := by
  obtain ⟨a, n, c, z, rfl, hnn⟩ := sx.form
  refine UF.gen fun Q hQ => UF.of (F_115) (c := _) rfl ?_
  unfold Try.f115
  simp only [List.length, Nat.reduceSub, Nat.reduceAdd, List.replicate, List.cons_append, List.nil_append]
  simp (disch := omega) only [go_sem, seval]
  refine LoopU_while (fun m st hh => ∃ (i : Nat), i ≤ xs.length ∧ m = xs.length - i ∧ Ext h hh ∧ Keep st 19 [(0, .slc a n c z), (1, .func (.func 106) []), (7, .int .i64 (n : Nat)), (8, .int .i64 (i : Nat))]) xs.length
    ⟨0, by omega, by omega, Ext.refl _, rfl, by simp [Has]⟩ ?_
  rintro m st hh ⟨i, hi, rfl, eh, hk⟩
  rw [hk.eq]
  obtain ⟨k0, k1, k7, k8, -⟩ := hk.2
  simp only [slotsFrom, Nat.reduceAdd] at k0 k1 k7 k8 ⊢
  simp only [k0, k1, k7, k8]
  simp (disch := omega) only [go_sem, seval]
  by_cases hlt : (i : Int) < (n : Int)
  · have hil : i < xs.length := by omega
    obtain ⟨b1, o1, cs1, l1, rfl, rfl, hb1, hg1, rfl, hr1, ht1, hc1⟩ := (sx.ext eh).at_ (i := i) (x := xs[i]) (List.getElem?_eq_getElem hil) (k := 1) rfl
    have c1 : cs1[o1 + i * 1]? = some (.str xs[i]) := hc1 0 (by decide)
    have hni := hn xs[i] (List.getElem_mem hil)
    simp (disch := omega) only [go_sem, seval, hlt, hg1, c1, Int.toNat_natCast]
    refine callV_ofU F_106 rfl ((names1_uf hni).mono ?_)
    rintro v2 h2 ⟨e2, rfl⟩
    simp (disch := omega) only [go_sem, seval]
    exact AgainK.mk (xs.length - (i + 1)) (by simp only; omega) ⟨i + 1, by omega, rfl, eh.trans e2, rfl, by simp [Has]⟩
  · simp (disch := omega) only [go_sem, seval, hlt]
    exact hQ _ _ ⟨eh, rfl⟩

theorem names_uf {h : Heap} {v : AV} {xs : List Str} (sx : Lst h v xs) (hx : xs.length ≤ 1000) (hd : xs.Nodup) (hn : ∀ s ∈ xs, NameOk s) : UF T F 69 [v] h fun v' h' => Ext h h' ∧ v' = .bool true := by
  obtain ⟨a, n, c, z, rfl, hnn⟩ := sx.form
  refine UF.gen fun Q hQ => UF.of (F_69) (c := _) rfl ?_
  unfold Try.f69
  simp only [List.length, Nat.reduceSub, Nat.reduceAdd, List.replicate, List.cons_append, List.nil_append]
  simp (disch := omega) only [go_sem, seval]
  refine callV_ofU F_104 rfl ((unlike_uf sx hx hd).mono ?_)
  rintro v1 h1 ⟨e1, rfl⟩
  simp (disch := omega) only [go_sem, seval]
  have w105 : UF T F 105 [.slc a n c z, .func (.func 106) []] h1 fun v' h' => Ext h1 h' ∧ v' = .bool false := by
    refine UF.gen fun Q hQ => UF.of (F_105) (c := _) rfl ?_
    unfold Try.f105
    simp only [List.length, Nat.reduceSub, Nat.reduceAdd, List.replicate, List.cons_append, List.nil_append]
    simp (disch := omega) only [go_sem, seval]
    refine callV_ofU F_115 rfl ((IndexS_uf (sx.ext e1) hx hn).mono ?_)
    rintro v2 h2 ⟨e2, rfl⟩
    simp (disch := omega) only [go_sem, seval]
    exact hQ _ _ ⟨e2, rfl⟩
  refine callV_ofU F_105 rfl ((w105).mono ?_)
  rintro v2 h2 ⟨e2, rfl⟩
  simp (disch := omega) only [go_sem, seval]
  exact hQ _ _ ⟨e1.trans e2, rfl⟩

/-- A symbol that may be: there is such a one, and a token is not one that is passed over. -/
def SymK (ts : List GTok) (n : Nat) (s : GSym) : Prop := 0 ≤ s.at_ ∧ (s.tok = true → ∃ t, ts[s.at_.toNat]? = some t ∧ t.skip = false) ∧ (s.tok = false → s.at_ < (n : Int))
def PrK (ts : List GTok) (n : Nat) (p : GProd) : Prop := (0 ≤ p.left ∧ p.left < n) ∧ p.right.length ≤ 5 ∧ ∀ s ∈ p.right, SymK ts n s
theorem sym_uf {h : Heap} {tv nv : AV} {pa : Option (Nat × Nat)} {pn : Nat} {pc : Option Nat} {pz : Nat} {ts : List GTok} {ns : List GNt} {s : GSym} (st : Lst h tv ts) (sn : Lst h nv ns) (hs : SymK ts ns.length s) :
    UF T F 110 [.agg [tv, nv, .slc pa pn pc pz], .agg [.bool s.tok, .int .i64 s.at_]] h fun v' h' => Ext h h' ∧ v' = .bool true := by
  obtain ⟨ta, tn, tc, tz, rfl, htn⟩ := st.form
  obtain ⟨na, nn, nc, nz, rfl, hnn⟩ := sn.form
  refine UF.gen fun Q hQ => UF.of (F_110) (c := _) rfl ?_
  unfold Try.f110
  simp only [List.length, Nat.reduceSub, Nat.reduceAdd, List.replicate, List.cons_append, List.nil_append]
  simp (disch := omega) only [go_sem, seval]
  have e1 : Ext h ((h.add (.cells [.slc ta tn tc tz, .slc na nn nc nz, .slc pa pn pc pz] true)).add (.cells [.bool s.tok, .int .i64 s.at_] true)) := (Ext.add _ _).trans (Ext.add _ _)
  have g0 : ((h.add (.cells [.slc ta tn tc tz, .slc na nn nc nz, .slc pa pn pc pz] true)).add (.cells [.bool s.tok, .int .i64 s.at_] true)).get h.nxt = some (.cells [.slc ta tn tc tz, .slc na nn nc nz, .slc pa pn pc pz] true) := by rw [get_add_lt (by simp), get_add_self]
  have g1 : ((h.add (.cells [.slc ta tn tc tz, .slc na nn nc nz, .slc pa pn pc pz] true)).add (.cells [.bool s.tok, .int .i64 s.at_] true)).get (h.nxt + 1) = some (.cells [.bool s.tok, .int .i64 s.at_] true) := get_add_self
  generalize ((h.add (.cells [.slc ta tn tc tz, .slc na nn nc nz, .slc pa pn pc pz] true)).add (.cells [.bool s.tok, .int .i64 s.at_] true)) = h1 at *
  obtain ⟨s0, s1, s2⟩ := hs
  obtain ⟨k, hk0⟩ : ∃ k : Nat, s.at_ = k := ⟨s.at_.toNat, by omega⟩
  rw [hk0] at g1 s1 s2
  rw [Int.toNat_natCast] at s1
  have q0 : (k : Int) ≥ 0 := by omega
  cases htk : s.tok with
  | true =>
    rw [htk] at g1
    obtain ⟨x, hx1, hx2⟩ := s1 htk
    have hkl : k < ts.length := (List.getElem?_eq_some_iff.1 hx1).1
    have hki : (k : Int) < (tn : Int) := by omega
    obtain ⟨b1, o1, cs1, l1, rfl, rfl, hb1, hg1, rfl, hr1, ht1, hc1⟩ := (st.ext e1).at_ (i := k) (x := x) hx1 (k := 3) rfl
    have c1 : cs1[o1 + k * 3 + 2]? = some (.bool x.skip) := hc1 2 (by decide)
    rw [hx2] at c1
    simp (disch := omega) only [go_sem, seval, g1, g0, q0, hki, hg1, c1, Int.toNat_natCast]
    exact hQ _ _ ⟨e1, rfl⟩
  | false =>
    rw [htk] at g1
    have hki : (k : Int) < (nn : Int) := by have := s2 htk; omega
    simp (disch := omega) only [go_sem, seval, g1, g0, q0, hki]
    exact hQ _ _ ⟨e1, rfl⟩

/-- A box of a grammar's tokens and nonterminals. -/
def GBox (h : Heap) (b : Nat) (ts : List GTok) (ns : List GNt) : Prop := ∃ ta tn tc tz na nn nc nz pa pn pc pz, b < h.nxt ∧ h.get b = some (.cells [.slc ta tn tc tz, .slc na nn nc nz, .slc pa pn pc pz] true) ∧ Lst h (.slc ta tn tc tz) ts ∧ Lst h (.slc na nn nc nz) ns
theorem GBox.ext {h h' : Heap} {b : Nat} {ts : List GTok} {ns : List GNt} (x : GBox h b ts ns) (e : Ext h h') : GBox h' b ts ns := by
  obtain ⟨ta, tn, tc, tz, na, nn, nc, nz, pa, pn, pc, pz, h1, h2, h3, h4⟩ := x
  exact ⟨ta, tn, tc, tz, na, nn, nc, nz, pa, pn, pc, pz, Nat.lt_of_lt_of_le h1 e.nxt, (e.get _ h1).trans h2, h3.ext e, h4.ext e⟩
def SymOk (t n : Nat) (s : GSym) : Prop := 0 ≤ s.at_ ∧ (s.tok = true → s.at_ < (t : Int)) ∧ (s.tok = false → s.at_ < (n : Int))
theorem prodS_uf {h : Heap} {b : Nat} {ts : List GTok} {ns : List GNt} {s : GSym} (g : GBox h b ts ns) (hs : SymK ts ns.length s) : UF T F 109 [.agg [.bool s.tok, .int .i64 s.at_], .ptr (some (b, 0))] h fun v' h' => Ext h h' ∧ v' = .bool false := by
  obtain ⟨ta, tn, tc, tz, na, nn, nc, nz, pa, pn, pc, pz, h1, h2, h3, h4⟩ := g
  refine UF.gen fun Q hQ => UF.of (F_109) (c := _) rfl ?_
  unfold Try.f109
  simp only [List.length, Nat.reduceSub, Nat.reduceAdd, List.replicate, List.cons_append, List.nil_append]
  simp (disch := omega) only [go_sem, seval]
  have e1 : Ext h (h.add (.cells [.bool s.tok, .int .i64 s.at_] true)) := Ext.add _ _
  simp (disch := omega) only [go_sem, seval, h2]
  refine callV_ofU F_110 rfl ((sym_uf (h3.ext e1) (h4.ext e1) hs).mono ?_)
  rintro v2 h2 ⟨e2, rfl⟩
  simp (disch := omega) only [go_sem, seval]
  exact hQ _ _ ⟨e1.trans e2, rfl⟩
theorem IndexY_uf {h : Heap} {b : Nat} {v : AV} {ts : List GTok} {ns : List GNt} {ss : List GSym} (g : GBox h b ts ns) (sl : Lst h v ss) (hl : ss.length ≤ 1000) (hs : ∀ s ∈ ss, SymK ts ns.length s) : UF T F 112 [v, .func (.func 109) [.ptr (some (b, 0))]] h fun v' h' => Ext h h' ∧ v' = .int .i64 (-1) := by
  obtain ⟨a, n, c, z, rfl, hnn⟩ := sl.form
  refine UF.gen fun Q hQ => UF.of (F_112) (c := _) rfl ?_
  unfold Try.f112
  simp only [List.length, Nat.reduceSub, Nat.reduceAdd, List.replicate, List.cons_append, List.nil_append]
  simp (disch := omega) only [go_sem, seval]
  refine LoopU_while (fun m st hh => ∃ (i : Nat), i ≤ ss.length ∧ m = ss.length - i ∧ Ext h hh ∧ Keep st 19 [(0, .slc a n c z), (1, .func (.func 109) [.ptr (some (b, 0))]), (7, .int .i64 (n : Nat)), (8, .int .i64 (i : Nat))]) ss.length
    ⟨0, by omega, by omega, Ext.refl _, rfl, by simp [Has]⟩ ?_
  rintro m st hh ⟨i, hi, rfl, eh, hk0⟩
  rw [hk0.eq]
  obtain ⟨k0, k1, k7, k8, -⟩ := hk0.2
  simp only [slotsFrom, Nat.reduceAdd] at k0 k1 k7 k8 ⊢
  simp only [k0, k1, k7, k8]
  simp (disch := omega) only [go_sem, seval]
  by_cases hlt : (i : Int) < (n : Int)
  · have hil : i < ss.length := by omega
    obtain ⟨b1, o1, cs1, l1, rfl, rfl, hb1, hg1, rfl, hr1, ht1, hc1⟩ := (sl.ext eh).at_ (i := i) (x := ss[i]) (List.getElem?_eq_getElem hil) (k := 2) rfl
    have hni := hs ss[i] (List.getElem_mem hil)
    simp (disch := omega) only [go_sem, seval, hlt, hg1, hr1, ht1, Int.toNat_natCast]
    refine callV_ofU F_109 rfl ((prodS_uf (g.ext eh) hni).mono ?_)
    rintro v2 h2 ⟨e2, rfl⟩
    simp (disch := omega) only [go_sem, seval]
    exact AgainK.mk (ss.length - (i + 1)) (by simp only; omega) ⟨i + 1, by omega, rfl, eh.trans e2, rfl, by simp [Has]⟩
  · simp (disch := omega) only [go_sem, seval, hlt]
    exact hQ _ _ ⟨eh, rfl⟩
theorem prod_uf {h : Heap} {tv nv rv : AV} {pa xa : Option (Nat × Nat)} {pn xn : Nat} {pc xc : Option Nat} {pz xz : Nat} {ts : List GTok} {ns : List GNt} {rs : List GSym} {left : Int} (st : Lst h tv ts) (sn : Lst h nv ns) (sr : Lst h rv rs) (hleft : 0 ≤ left ∧ left < (ns.length : Int)) (hr : rs.length ≤ 5)
    (hs : ∀ s ∈ rs, SymK ts ns.length s) : UF T F 72 [.agg [tv, nv, .slc pa pn pc pz], .agg [.int .i64 left, rv, .slc xa xn xc xz]] h fun v' h' => Ext h h' ∧ v' = .bool true := by
  obtain ⟨ta, tn, tc, tz, rfl, htn⟩ := st.form
  obtain ⟨na, nn, nc, nz, rfl, hnn⟩ := sn.form
  obtain ⟨ra, rn, rc, rz, rfl, hrn⟩ := sr.form
  refine UF.gen fun Q hQ => UF.of (F_72) (c := _) rfl ?_
  unfold Try.f72
  simp only [List.length, Nat.reduceSub, Nat.reduceAdd, List.replicate, List.cons_append, List.nil_append]
  simp (disch := omega) only [go_sem, seval]
  have e1 : Ext h ((h.add (.cells [.slc ta tn tc tz, .slc na nn nc nz, .slc pa pn pc pz] true)).add (.cells [.int .i64 left, .slc ra rn rc rz, .slc xa xn xc xz] true)) := (Ext.add _ _).trans (Ext.add _ _)
  have g0 : ((h.add (.cells [.slc ta tn tc tz, .slc na nn nc nz, .slc pa pn pc pz] true)).add (.cells [.int .i64 left, .slc ra rn rc rz, .slc xa xn xc xz] true)).get h.nxt = some (.cells [.slc ta tn tc tz, .slc na nn nc nz, .slc pa pn pc pz] true) := by rw [get_add_lt (by simp), get_add_self]
  have g1 : ((h.add (.cells [.slc ta tn tc tz, .slc na nn nc nz, .slc pa pn pc pz] true)).add (.cells [.int .i64 left, .slc ra rn rc rz, .slc xa xn xc xz] true)).get (h.nxt + 1) = some (.cells [.int .i64 left, .slc ra rn rc rz, .slc xa xn xc xz] true) := get_add_self
  have n1 : ((h.add (.cells [.slc ta tn tc tz, .slc na nn nc nz, .slc pa pn pc pz] true)).add (.cells [.int .i64 left, .slc ra rn rc rz, .slc xa xn xc xz] true)).nxt = h.nxt + 2 := by simp
  generalize ((h.add (.cells [.slc ta tn tc tz, .slc na nn nc nz, .slc pa pn pc pz] true)).add (.cells [.int .i64 left, .slc ra rn rc rz, .slc xa xn xc xz] true)) = h1 at *
  have q0 : left ≥ 0 := hleft.1
  have q1 : left < (nn : Int) := by omega
  have q2 : (rn : Int) ≤ 5 := by omega
  simp (disch := omega) only [go_sem, seval, g0, g1, q0, q1, q2]
  have w86 : UF T F 86 [.slc ra rn rc rz, .func (.func 109) [.ptr (some (h.nxt, 0))]] h1 fun v' h' => Ext h1 h' ∧ v' = .bool false := by
    refine UF.gen fun Q hQ => UF.of (F_86) (c := _) rfl ?_
    unfold Try.f86
    simp only [List.length, Nat.reduceSub, Nat.reduceAdd, List.replicate, List.cons_append, List.nil_append]
    simp (disch := omega) only [go_sem, seval]
    refine callV_ofU F_112 rfl ((IndexY_uf ⟨_, _, _, _, _, _, _, _, _, _, _, _, by omega, g0, st.ext e1, sn.ext e1⟩ (sr.ext e1) (by omega) hs).mono ?_)
    rintro v2 h2 ⟨e2, rfl⟩
    simp (disch := omega) only [go_sem, seval]
    exact hQ _ _ ⟨e2, rfl⟩
  refine callV_ofU F_86 rfl ((w86).mono ?_)
  rintro v2 h2 ⟨e2, rfl⟩
  simp (disch := omega) only [go_sem, seval]
  exact hQ _ _ ⟨e1.trans e2, rfl⟩
theorem mayP_uf {h : Heap} {b : Nat} {rv : AV} {xa : Option (Nat × Nat)} {xn : Nat} {xc : Option Nat} {xz : Nat} {ts : List GTok} {ns : List GNt} {rs : List GSym} {left : Int} (g : GBox h b ts ns) (sr : Lst h rv rs) (hleft : 0 ≤ left ∧ left < (ns.length : Int)) (hr : rs.length ≤ 5) (hs : ∀ s ∈ rs, SymK ts ns.length s) :
    UF T F 71 [.agg [.int .i64 left, rv, .slc xa xn xc xz], .ptr (some (b, 0))] h fun v' h' => Ext h h' ∧ v' = .bool false := by
  obtain ⟨ta, tn, tc, tz, na, nn, nc, nz, pa, pn, pc, pz, h1, h2, h3, h4⟩ := g
  obtain ⟨ra, rn, rc, rz, rfl, hrn⟩ := sr.form
  refine UF.gen fun Q hQ => UF.of (F_71) (c := _) rfl ?_
  unfold Try.f71
  simp only [List.length, Nat.reduceSub, Nat.reduceAdd, List.replicate, List.cons_append, List.nil_append]
  simp (disch := omega) only [go_sem, seval]
  have e1 : Ext h (h.add (.cells [.int .i64 left, .slc ra rn rc rz, .slc xa xn xc xz] true)) := Ext.add _ _
  simp (disch := omega) only [go_sem, seval, h2]
  refine callV_ofU F_72 rfl ((prod_uf (h3.ext e1) (h4.ext e1) (sr.ext e1) hleft hr hs).mono ?_)
  rintro v2 h2 ⟨e2, rfl⟩
  simp (disch := omega) only [go_sem, seval]
  exact hQ _ _ ⟨e1.trans e2, rfl⟩
theorem IndexP_uf {h : Heap} {b : Nat} {v : AV} {ts : List GTok} {ns : List GNt} {ps : List GProd} (g : GBox h b ts ns) (sl : Lst h v ps) (hl : ps.length ≤ 1000) (hs : ∀ p ∈ ps, PrK ts ns.length p) : UF T F 108 [v, .func (.func 71) [.ptr (some (b, 0))]] h fun v' h' => Ext h h' ∧ v' = .int .i64 (-1) := by
  obtain ⟨a, n, c, z, rfl, hnn⟩ := sl.form
  refine UF.gen fun Q hQ => UF.of (F_108) (c := _) rfl ?_
  unfold Try.f108
  simp only [List.length, Nat.reduceSub, Nat.reduceAdd, List.replicate, List.cons_append, List.nil_append]
  simp (disch := omega) only [go_sem, seval]
  refine LoopU_while (fun m st hh => ∃ (i : Nat), i ≤ ps.length ∧ m = ps.length - i ∧ Ext h hh ∧ Keep st 19 [(0, .slc a n c z), (1, .func (.func 71) [.ptr (some (b, 0))]), (7, .int .i64 (n : Nat)), (8, .int .i64 (i : Nat))]) ps.length
    ⟨0, by omega, by omega, Ext.refl _, rfl, by simp [Has]⟩ ?_
  rintro m st hh ⟨i, hi, rfl, eh, hk0⟩
  rw [hk0.eq]
  obtain ⟨k0, k1, k7, k8, -⟩ := hk0.2
  simp only [slotsFrom, Nat.reduceAdd] at k0 k1 k7 k8 ⊢
  simp only [k0, k1, k7, k8]
  simp (disch := omega) only [go_sem, seval]
  by_cases hlt : (i : Int) < (n : Int)
  · have hil : i < ps.length := by omega
    obtain ⟨b1, o1, cs1, l1, rfl, rfl, hb1, hg1, ⟨ra, xa, rfl, sr, sx⟩, hr1, ht1, hc1⟩ := (sl.ext eh).at_ (i := i) (x := ps[i]) (List.getElem?_eq_getElem hil) (k := 3) rfl
    obtain ⟨hni1, hni2, hni3⟩ := hs ps[i] (List.getElem_mem hil)
    generalize ps[i] = p at *
    obtain ⟨xa, xn, xc, xz, rfl, hxn⟩ := sx.form
    simp (disch := omega) only [go_sem, seval, hlt, hg1, hr1, ht1, Int.toNat_natCast]
    refine callV_ofU F_71 rfl ((mayP_uf (g.ext eh) sr hni1 hni2 hni3).mono ?_)
    rintro v2 h2 ⟨e2, rfl⟩
    simp (disch := omega) only [go_sem, seval]
    exact AgainK.mk (ps.length - (i + 1)) (by simp only; omega) ⟨i + 1, by omega, rfl, eh.trans e2, rfl, by simp [Has]⟩
  · simp (disch := omega) only [go_sem, seval, hlt]
    exact hQ _ _ ⟨eh, rfl⟩

end Go.Proofs.Ytaockkmmjinhpaa
