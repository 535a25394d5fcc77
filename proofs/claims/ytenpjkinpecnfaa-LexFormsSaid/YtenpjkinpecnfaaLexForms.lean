/- Which tokens some texts have: of six kinds (a word that is also a name, names, numbers, two signs of which one begins the other, blanks that are passed over), nine texts' tokens, and one text's leaves. A closed statement: there are no conditions. -/
import Derived.Test.YtenpjkinpecnfaaRelexNone
import Derived.KernelRfl
namespace Go.Proofs.Ytenpjkinpecnfaa
open Go Go.Am
set_option maxRecDepth 100000
set_option maxHeartbeats 4000000
set_option linter.unusedSimpArgs false
set_option linter.unusedVariables false

def toksF : List Tok := [⟨[105, 102], [105, 102], false⟩, ⟨[105, 100], [91, 97, 45, 122, 93, 43], false⟩, ⟨[110, 117, 109], [91, 48, 45, 57, 93, 43], false⟩, ⟨[108, 101], [60, 61], false⟩, ⟨[108, 116], [60], false⟩, ⟨[115, 112], [32, 43], true⟩]
def rxsF : List Rx := [.bin 2 (.cls [⟨105, 105⟩]) (.cls [⟨102, 102⟩]), .rep 5 (.cls [⟨97, 122⟩]), .rep 5 (.cls [⟨48, 57⟩]), .bin 2 (.cls [⟨60, 60⟩]) (.cls [⟨61, 61⟩]), .cls [⟨60, 60⟩], .rep 5 (.cls [⟨32, 32⟩])]
theorem patsF : PatsOf toksF (rxsF.map Rx.items) := .cons (by kernel_rfl) (.cons (by kernel_rfl) (.cons (by kernel_rfl) (.cons (by kernel_rfl) (.cons (by kernel_rfl) (.cons (by kernel_rfl) .none)))))
theorem cls_ok {a b : UInt8} (h : decide (a.toNat ≤ b.toNat) && decide (32 ≤ a.toNat) && decide (b.toNat ≤ 126) = true) : (Rx.cls [⟨a, b⟩]).ok := by
  simp only [Bool.and_eq_true, decide_eq_true_eq] at h
  exact ⟨by simp, by intro x hx; simp only [List.mem_singleton] at hx; subst hx; exact ⟨h.1.1, h.1.2, h.2⟩⟩
theorem rxsF_ok : ∀ e ∈ rxsF, e.ok := by
  intro e he
  simp only [rxsF, List.mem_cons, List.not_mem_nil, or_false] at he
  rcases he with rfl | rfl | rfl | rfl | rfl | rfl
  · exact ⟨by omega, cls_ok (by decide), cls_ok (by decide)⟩
  · exact ⟨by omega, cls_ok (by decide)⟩
  · exact ⟨by omega, cls_ok (by decide)⟩
  · exact ⟨by omega, cls_ok (by decide), cls_ok (by decide)⟩
  · exact cls_ok (by decide)
  · exact ⟨by omega, cls_ok (by decide)⟩
def textsF : List (List UInt8) := [[105, 102], [105, 102, 102, 32, 105, 102], [120, 60, 61, 49], [60, 60, 61], [97, 49, 98, 50, 50], [], [32, 32], [97, 63, 98], [0]]
def kindsF : List (List Int) := [[0], [1, 5, 0], [1, 3, 2], [4, 3], [1, 2, 1, 2], [], [5], [1, -1, 1], [-1]]
def lensF : List (List Int) := [[2], [3, 1, 2], [1, 2, 1], [1, 2], [1, 1, 1, 2], [], [2], [1, 1, 1], [1]]
def mkT : List Int → List Int → Nat → List Tk
  | k :: ks, n :: ns, i => ⟨k, i, n.toNat⟩ :: mkT ks ns (i + n.toNat)
  | _, _, _ => []
theorem forms_all {i : Nat} {s : List UInt8} {ks ns : List Int} (h1 : textsF[i]? = some s) (h2 : kindsF[i]? = some ks) (h3 : lensF[i]? = some ns) : toksL rxsF 10 0 s = mkT ks ns 0 ∧ ks.length = ns.length ∧ (∀ n ∈ ns, 0 ≤ n) ∧ s.length < 10 := by
  have hi : i < 9 := (List.getElem?_eq_some_iff.1 h1).1
  have chk : ∀ j, j < 9 → (toksL rxsF 10 0 (textsF.getD j []) = mkT (kindsF.getD j []) (lensF.getD j []) 0 ∧ (kindsF.getD j []).length = (lensF.getD j []).length ∧ (∀ n ∈ lensF.getD j [], 0 ≤ n) ∧ (textsF.getD j []).length < 10) := by
    intro j hj
    obtain rfl | rfl | rfl | rfl | rfl | rfl | rfl | rfl | rfl : j = 0 ∨ j = 1 ∨ j = 2 ∨ j = 3 ∨ j = 4 ∨ j = 5 ∨ j = 6 ∨ j = 7 ∨ j = 8 := by omega
    all_goals exact ⟨by kernel_rfl, by decide, by decide, by decide⟩
  have := chk i hi
  have d1 : textsF.getD i [] = s := by rw [List.getD_eq_getElem?_getD, h1]; rfl
  have d2 : kindsF.getD i [] = ks := by rw [List.getD_eq_getElem?_getD, h2]; rfl
  have d3 : lensF.getD i [] = ns := by rw [List.getD_eq_getElem?_getD, h3]; rfl
  rw [d1, d2, d3] at this
  exact this
theorem formsQ : toksL rxsF 10 0 [105, 102, 32, 63, 120] = [⟨0, 0, 2⟩, ⟨5, 2, 1⟩, ⟨-1, 3, 1⟩, ⟨1, 4, 1⟩] := by kernel_rfl
theorem leavesQ : ([⟨0, 0, 2⟩, ⟨5, 2, 1⟩, ⟨-1, 3, 1⟩, ⟨1, 4, 1⟩] : List Tk).flatMap (leafOf toksF [105, 102, 32, 63, 120]) = [⟨0, [105, 102]⟩, ⟨-1, [63]⟩, ⟨1, [120]⟩] := by kernel_rfl

theorem mkT_len : ∀ {ks ns : List Int} {i : Nat}, ks.length = ns.length → (mkT ks ns i).length = ks.length
  | [], ns, _, _ => by simp [mkT]
  | k :: ks, [], _, h => by simp at h
  | k :: ks, n :: ns, i, h => by simp only [mkT, List.length_cons]; rw [mkT_len (by simpa using h)]
theorem lslc_ext {α : Type} [Rep α] {h h' : Heap} {v : AV} {xs : List α} (s : LSlc h v xs) (e : Ext h h') : LSlc h' v xs := by
  obtain ⟨ls, a, b⟩ := s
  exact ⟨ls, a.ext e, b.pst e.pst⟩
/-- Rows of numbers, each in a block of its own. -/
structure Nst (h : Heap) (b : Nat) (vs : List AV) (L : List (List Int)) : Prop where
  lt : b < h.nxt
  get : h.get b = some (.cells vs true)
  at_ : ∀ (i : Nat) (l : List Int), L[i]? = some l → ∃ v, vs[i]? = some v ∧ LSlc h v l
theorem Nst.ext {h h' : Heap} {b : Nat} {vs : List AV} {L : List (List Int)} (n : Nst h b vs L) (e : Ext h h') : Nst h' b vs L :=
  ⟨Nat.lt_of_lt_of_le n.lt e.nxt, (e.get _ n.lt).trans n.get, fun i l hl => by obtain ⟨v, h1, h2⟩ := n.at_ i l hl; exact ⟨v, h1, lslc_ext h2 e⟩⟩
theorem flat_ints : ∀ l : List Int, l.map (AV.int .i64) = (l.map fun x => [AV.int .i64 x]).flatten
  | [] => rfl
  | x :: l => by rw [List.map_cons, List.map_cons, List.flatten_cons, ← flat_ints l]; rfl
theorem ints_lit {h : Heap} {b : Nat} {l : List Int} {n : Nat} (hb : b < h.nxt) (hg : h.get b = some (.cells (l.map (.int .i64)) true)) (hn : n = l.length) : LSlc h (.slc (some (b, 0)) n (some n) 1) l := by
  refine LSlc.lit (ls := l.map fun x => [.int .i64 x]) hb hg ?_ ?_ (by simpa using hn) rfl
  · exact flat_ints l
  · clear hg hn
    induction l with
    | nil => exact .nil
    | cons x l ih => exact .cons rfl ih

def adds (h : Heap) : List Blk → Heap
  | [] => h
  | b :: l => adds (h.add b) l
theorem adds_ext : ∀ (l : List Blk) (h : Heap), Ext h (adds h l)
  | [], h => Ext.refl _
  | b :: l, h => (Ext.add h b).trans (adds_ext l _)
theorem adds_get : ∀ (l : List Blk) (h : Heap) (i : Nat) (b : Blk), l[i]? = some b → h.nxt + i < (adds h l).nxt ∧ (adds h l).get (h.nxt + i) = some b
  | c :: l, h, 0, b, e => by
    simp only [List.getElem?_cons_zero, Option.some.injEq] at e
    subst e
    have x := adds_ext l (h.add c)
    have := x.nxt
    simp only [Heap.add_nxt] at this
    exact ⟨by show h.nxt + 0 < (adds (h.add c) l).nxt; omega, (x.get _ (by simp)).trans get_add_self⟩
  | c :: l, h, i + 1, b, e => by
    have := adds_get l (h.add c) i b (by simpa using e)
    simp only [Heap.add_nxt] at this
    rw [show h.nxt + (i + 1) = h.nxt + 1 + i by omega]
    exact this
def cI (l : List Int) : Blk := .cells (l.map (.int .i64)) true
def sI (b n : Nat) : AV := .slc (some (b, 0)) n (some n) 1
def outI (b : Nat) : List AV := [sI b 1, sI (b + 1) 3, sI (b + 2) 3, sI (b + 3) 2, sI (b + 4) 4, .slc none 0 (some 0) 0, sI (b + 5) 1, sI (b + 6) 3, sI (b + 7) 1]
theorem nst_of {h : Heap} {b a : Nat} {L : List (List Int)} {l0 l1 l2 l3 l4 l6 l7 l8 : List Int} (hb : b < h.nxt ∧ h.get b = some (.cells (outI a) true)) (hL : L = [l0, l1, l2, l3, l4, [], l6, l7, l8])
    (n : l0.length = 1 ∧ l1.length = 3 ∧ l2.length = 3 ∧ l3.length = 2 ∧ l4.length = 4 ∧ l6.length = 1 ∧ l7.length = 3 ∧ l8.length = 1)
    (g0 : a < h.nxt ∧ h.get a = some (cI l0)) (g1 : a + 1 < h.nxt ∧ h.get (a + 1) = some (cI l1)) (g2 : a + 2 < h.nxt ∧ h.get (a + 2) = some (cI l2)) (g3 : a + 3 < h.nxt ∧ h.get (a + 3) = some (cI l3)) (g4 : a + 4 < h.nxt ∧ h.get (a + 4) = some (cI l4))
    (g6 : a + 5 < h.nxt ∧ h.get (a + 5) = some (cI l6)) (g7 : a + 6 < h.nxt ∧ h.get (a + 6) = some (cI l7)) (g8 : a + 7 < h.nxt ∧ h.get (a + 7) = some (cI l8)) : Nst h b (outI a) L := by
  refine ⟨hb.1, hb.2, fun i l hl => ?_⟩
  have hi : i < L.length := (List.getElem?_eq_some_iff.1 hl).1
  subst hL
  simp only [List.length_cons, List.length_nil] at hi
  obtain ⟨n0, n1, n2, n3, n4, n6, n7, n8⟩ := n
  obtain rfl | rfl | rfl | rfl | rfl | rfl | rfl | rfl | rfl : i = 0 ∨ i = 1 ∨ i = 2 ∨ i = 3 ∨ i = 4 ∨ i = 5 ∨ i = 6 ∨ i = 7 ∨ i = 8 := by omega
  all_goals
    simp only [List.getElem?_cons_zero, List.getElem?_cons_succ, Option.some.injEq] at hl
    subst hl
  · exact ⟨_, rfl, ints_lit g0.1 g0.2 n0.symm⟩
  · exact ⟨_, rfl, ints_lit g1.1 g1.2 n1.symm⟩
  · exact ⟨_, rfl, ints_lit g2.1 g2.2 n2.symm⟩
  · exact ⟨_, rfl, ints_lit g3.1 g3.2 n3.symm⟩
  · exact ⟨_, rfl, ints_lit g4.1 g4.2 n4.symm⟩
  · exact ⟨_, rfl, Lst.nil.slc⟩
  · exact ⟨_, rfl, ints_lit g6.1 g6.2 n6.symm⟩
  · exact ⟨_, rfl, ints_lit g7.1 g7.2 n7.symm⟩
  · exact ⟨_, rfl, ints_lit g8.1 g8.2 n8.symm⟩

theorem eqL1 : binOpA T .eql 79 (.agg [.int .i64 0, .str [105, 102]]) (.agg [.int .i64 0, .str [105, 102]]) = some (.bool true) := by kernel_rfl
theorem eqL2 : binOpA T .eql 79 (.agg [.int .i64 (-1), .str [63]]) (.agg [.int .i64 (-1), .str [63]]) = some (.bool true) := by kernel_rfl
theorem eqL3 : binOpA T .eql 79 (.agg [.int .i64 1, .str [120]]) (.agg [.int .i64 1, .str [120]]) = some (.bool true) := by kernel_rfl

theorem LexForms_uf {h : Heap} : UF T F 17 [] h fun v' _ => v' = .bool true := by
  refine UF.gen fun Q hQ => UF.of (F_17) (c := _) rfl ?_
  unfold Try.f17
  simp only [List.length, Nat.reduceSub, Nat.reduceAdd, List.replicate, List.cons_append, List.nil_append]
  simp (disch := omega) only [go_sem, seval]
  refine callV_ofU F_37 rfl ((begun6_uf).mono ?_)
  rintro v1 h1 ⟨e1, rfl⟩
  simp (disch := omega) only [go_sem, seval]
  have lit : Lst ((h1.add (.cells [.str [105, 102], .str [105, 102], .bool false, .str [105, 100], .str [91, 97, 45, 122, 93, 43], .bool false, .str [110, 117, 109], .str [91, 48, 45, 57, 93, 43], .bool false, .str [108, 101], .str [60, 61], .bool false, .str [108, 116], .str [60], .bool false, .str [115, 112], .str [32, 43], .bool true] true)).frzV (.slc (some (h1.nxt, 0)) 6 (some 6) 3)) (.slc (some (h1.nxt, 0)) 6 (some 6) 3) toksF :=
    (LSlc.lit (wr := true) (b := h1.nxt) (ls := [[.str [105, 102], .str [105, 102], .bool false], [.str [105, 100], .str [91, 97, 45, 122, 93, 43], .bool false], [.str [110, 117, 109], .str [91, 48, 45, 57, 93, 43], .bool false], [.str [108, 101], .str [60, 61], .bool false], [.str [108, 116], .str [60], .bool false], [.str [115, 112], .str [32, 43], .bool true]]) (by simp) get_add_self rfl (.cons rfl (.cons rfl (.cons rfl (.cons rfl (.cons rfl (.cons rfl .nil)))))) rfl rfl).frz
  refine callV_ofU F_40 rfl ((UF.less (frzV_le _ _) (LexRows40_uf lit (by decide))).mono ?_)
  rintro v2 h2 ⟨e2, m2⟩
  have L0 := lit.ext e2
  rcases m2 with ⟨_, t, ht, hn⟩ | ⟨es, hP, hF, m2⟩
  · exact absurd hn (patsF.all t ht)
  obtain rfl := hP.rx patsF hF rxsF_ok
  rcases m2 with ⟨w, G, S, R, rfl, L1, W⟩ | ⟨_, hc⟩
  · obtain ⟨wa, wn, wc, wz, rfl, hwn⟩ := L1.form
    simp (disch := omega) only [go_sem, seval]
    generalize hH : Heap.add _ _ = H
    have hA : H = adds h2 [.cells (textsF.map .str) true, cI [0], cI [1, 5, 0], cI [1, 3, 2], cI [4, 3], cI [1, 2, 1, 2], cI [5], cI [1, -1, 1], cI [-1], .cells (outI (h2.nxt + 1)) true,
      cI [2], cI [3, 1, 2], cI [1, 2, 1], cI [1, 2], cI [1, 1, 1, 2], cI [2], cI [1, 1, 1], cI [1], .cells (outI (h2.nxt + 10)) true] := hH.symm
    have eA : Ext h2 H := by rw [hA]; exact adds_ext _ _
    have gA := fun i b => adds_get [.cells (textsF.map .str) true, cI [0], cI [1, 5, 0], cI [1, 3, 2], cI [4, 3], cI [1, 2, 1, 2], cI [5], cI [1, -1, 1], cI [-1], .cells (outI (h2.nxt + 1)) true,
      cI [2], cI [3, 1, 2], cI [1, 2, 1], cI [1, 2], cI [1, 1, 1, 2], cI [2], cI [1, 1, 1], cI [1], .cells (outI (h2.nxt + 10)) true] h2 i b
    rw [← hA] at gA
    have KN : Nst H (h2.nxt + 9) (outI (h2.nxt + 1)) kindsF := nst_of (gA 9 _ rfl) rfl ⟨rfl, rfl, rfl, rfl, rfl, rfl, rfl, rfl⟩ (gA 1 _ rfl) (gA 2 _ rfl) (gA 3 _ rfl) (gA 4 _ rfl) (gA 5 _ rfl) (gA 6 _ rfl) (gA 7 _ rfl) (gA 8 _ rfl)
    have LN : Nst H (h2.nxt + 18) (outI (h2.nxt + 10)) lensF := nst_of (gA 18 _ rfl) rfl ⟨rfl, rfl, rfl, rfl, rfl, rfl, rfl, rfl⟩ (gA 10 _ rfl) (gA 11 _ rfl) (gA 12 _ rfl) (gA 13 _ rfl) (gA 14 _ rfl) (gA 15 _ rfl) (gA 16 _ rfl) (gA 17 _ rfl)
    have TX := gA 0 _ rfl
    clear gA hA hH
    obtain ⟨kb, hkb⟩ : ∃ kb, kb = h2.nxt + 9 := ⟨_, rfl⟩
    obtain ⟨lb, hlb⟩ : ∃ lb, lb = h2.nxt + 18 := ⟨_, rfl⟩
    obtain ⟨kv, hkv⟩ : ∃ kv, kv = outI (h2.nxt + 1) := ⟨_, rfl⟩
    obtain ⟨lv, hlv⟩ : ∃ lv, lv = outI (h2.nxt + 10) := ⟨_, rfl⟩
    rw [← hkb, ← hkv] at KN
    rw [← hlb, ← hlv] at LN
    rw [Nat.add_zero] at TX
    rw [show h2.nxt + 1 + 1 + 1 + 1 + 1 + 1 + 1 + 1 + 1 + 1 + 1 + 1 + 1 + 1 + 1 + 1 + 1 + 1 = lb from hlb.symm, show h2.nxt + 1 + 1 + 1 + 1 + 1 + 1 + 1 + 1 + 1 = kb from hkb.symm]
    refine LoopU_while (fun m st hh => ∃ (i : Nat), i ≤ 9 ∧ m = 9 - i ∧ Ext H hh ∧
        Keep st 132 [(1, .slc (some (h1.nxt, 0)) 6 (some 6) 3), (2, .slc wa wn wc wz), (3, .bool true), (4, .slc (some (h2.nxt, 0)) 9 (some 9) 1), (5, .slc (some (kb, 0)) 9 (some 9) 1), (6, .slc (some (lb, 0)) 9 (some 9) 1), (7, .int .i64 (i : Nat))]) 9
      ⟨0, by omega, by omega, Ext.refl _, rfl, by simp [Has]⟩ ?_
    rintro m st hh ⟨i, hi, rfl, eh, hk⟩
    rw [hk.eq]
    obtain ⟨k1, k2, k3, k4, k5, k6, k7, -⟩ := hk.2
    simp only [slotsFrom, Nat.reduceAdd] at k1 k2 k3 k4 k5 k6 k7 ⊢
    simp only [k1, k2, k3, k4, k5, k6, k7]
    have gT : hh.get h2.nxt = _ := (eh.get _ TX.1).trans TX.2
    have KN1 := KN.ext eh
    have LN1 := LN.ext eh
    have L11 := L1.ext (eA.trans eh)
    simp (disch := omega) only [go_sem, seval]
    by_cases hlt : (i : Int) < 9
    · have hi9 : i < 9 := by omega
      obtain ⟨s, hs⟩ : ∃ s, textsF[i]? = some s := ⟨_, List.getElem?_eq_getElem (by exact hi9)⟩
      obtain ⟨ks, hks⟩ : ∃ s, kindsF[i]? = some s := ⟨_, List.getElem?_eq_getElem (by exact hi9)⟩
      obtain ⟨ns, hns⟩ : ∃ s, lensF[i]? = some s := ⟨_, List.getElem?_eq_getElem (by exact hi9)⟩
      obtain ⟨ht, hkn, hn0, hs10⟩ := forms_all hs hks hns
      have cT : (textsF.map AV.str)[i * 1]? = some (.str s) := by
        have := congrArg (Option.map AV.str) hs
        rw [Nat.mul_one]
        exact (List.getElem?_map ..).trans this
      simp (disch := omega) only [go_sem, seval, hlt, gT, cT, Int.toNat_natCast]
      refine callV_ofU F_41 rfl ((All_uf (s := s) L11 W (by omega)).mono ?_)
      rintro v3 h3 ⟨e3, tks, htk, L3⟩
      simp (disch := omega) only [go_sem, seval]
      obtain rfl := htk.unique (toksL_spec rxsF_ok 10 0 s rfl (by omega) (by omega))
      have hin := htk.within
      have htl := htk.len
      rw [ht] at L3 hin htl
      have hml := mkT_len (i := 0) hkn
      generalize hm : mkT ks ns 0 = tks at *
      obtain ⟨ta, tn, tc, tz, rfl, htn⟩ := L3.form
      have KN3 := KN1.ext e3
      have LN3 := LN1.ext e3
      obtain ⟨kw, hkw, KL⟩ := KN3.at_ i ks hks
      obtain ⟨lw, hlw, LL⟩ := LN3.at_ i ns hns
      obtain ⟨ka, kc, kz, rfl⟩ := KL.form
      obtain ⟨la, lc, lz, rfl⟩ := LL.form
      have ck : kv[i * 1]? = some (.slc ka ks.length kc kz) := by rw [Nat.mul_one]; exact hkw
      have cl : lv[i * 1]? = some (.slc la ns.length lc lz) := by rw [Nat.mul_one]; exact hlw
      have gk := KN3.get
      have gl := LN3.get
      have hne : (tn : Int) = (ks.length : Nat) := by omega
      simp (disch := omega) only [go_sem, seval, hlt, gk, ck, Int.toNat_natCast, hne]
      refine LoopU_while (fun m st hh2 => ∃ (k at_ : Nat), k ≤ tks.length ∧ m = tks.length - k ∧ Ext h3 hh2 ∧ tks.drop k = mkT (ks.drop k) (ns.drop k) at_ ∧
          Keep st 132 [(1, .slc (some (h1.nxt, 0)) 6 (some 6) 3), (2, .slc wa wn wc wz), (3, .bool true), (4, .slc (some (h2.nxt, 0)) 9 (some 9) 1), (5, .slc (some (kb, 0)) 9 (some 9) 1), (6, .slc (some (lb, 0)) 9 (some 9) 1), (7, .int .i64 (i : Nat)), (8, .slc ta tn tc tz), (9, .int .i64 (at_ : Nat)), (10, .int .i64 (k : Nat))]) tks.length
        ⟨0, 0, by omega, by omega, Ext.refl _, by simpa using hm.symm, rfl, by simp [Has]⟩ ?_
      clear hk k1 k2 k3 k4 k5 k6 k7
      rintro m st hh2 ⟨k, at_, hk0, rfl, eh2, hd, hk⟩
      rw [hk.eq]
      obtain ⟨k1, k2, k3, k4, k5, k6, k7, k8, k9, k10, -⟩ := hk.2
      simp only [slotsFrom, Nat.reduceAdd] at k1 k2 k3 k4 k5 k6 k7 k8 k9 k10 ⊢
      simp only [k1, k2, k3, k4, k5, k6, k7, k8, k9, k10]
      simp (disch := omega) only [go_sem, seval]
      by_cases hlk : (k : Int) < (tn : Int)
      · have hkl : k < tks.length := by omega
        have hkk : k < ks.length := by omega
        have hkm : k < ns.length := by omega
        rw [List.drop_eq_getElem_cons hkl, List.drop_eq_getElem_cons hkk, List.drop_eq_getElem_cons hkm, mkT] at hd
        simp only [List.cons.injEq] at hd
        obtain ⟨hd1, hd2⟩ := hd
        have hx := hin tks[k] (List.getElem_mem hkl)
        have hn0k := hn0 ns[k] (List.getElem_mem hkm)
        obtain ⟨b1, o1, cs1, l1, rfl, rfl, hb1, hg1, rfl, hr1, ht1, hc1⟩ := (L3.ext eh2).at_ (i := k) (x := tks[k]) (List.getElem?_eq_getElem hkl) (k := 3) rfl
        obtain ⟨b2, o2, cs2, wr2, l2, rfl, rfl, hb2, hg2, rfl, hr2, ht2, hc2⟩ := (lslc_ext KL eh2).at_ (i := k) (x := ks[k]) (List.getElem?_eq_getElem hkk) (k := 1) rfl
        obtain ⟨b3, o3, cs3, wr3, l3, rfl, rfl, hb3, hg3, rfl, hr3, ht3, hc3⟩ := (lslc_ext LL eh2).at_ (i := k) (x := ns[k]) (List.getElem?_eq_getElem hkm) (k := 1) rfl
        have c2 : cs2[o2 + k * 1]? = some (.int .i64 ks[k]) := hc2 0 (by decide)
        have c3 : cs3[o3 + k * 1]? = some (.int .i64 (ns[k].toNat : Nat)) := by
          rw [show ((ns[k].toNat : Nat) : Int) = ns[k] by omega]; exact hc3 0 (by decide)
        rw [hd1] at ht1 hx
        generalize ns[k].toNat = nk at *
        generalize ks[k] = kk at *
        have gk2 := (KN3.ext eh2).get
        have gl2 := (LN3.ext eh2).get
        have hlk2 : (k : Int) < (ks.length : Nat) := by omega
        have hlk3 : (k : Int) < (ns.length : Nat) := by omega
        have htk2 := tk_neq (x := ⟨kk, at_, nk⟩)
        have ean : ((at_ : Nat) : Int) + (nk : Nat) = ((at_ + nk : Nat) : Int) := by omega
        simp only at hx
        simp (disch := omega) only [go_sem, seval, hlk]
        refine DrawU_quiet (by rfl) ?_
        simp (disch := omega) only [go_sem, seval, hlk, hlk2, hlk3, hlt, hg1, hr1, ht1, gk2, ck, hg2, c2, gl2, cl, hg3, c3, Int.toNat_natCast, htk2]
        simp (disch := omega) only [go_sem, seval, hlk2, hlk3, hlt, gl2, cl, hg3, c3, Int.toNat_natCast, ean]
        exact AgainK.mk (tks.length - (k + 1)) (by simp only; omega) ⟨k + 1, at_ + nk, by omega, rfl, eh2.trans (Ext.bump _ _), hd2, rfl, by simp [Has]⟩
      · simp (disch := omega) only [go_sem, seval, hlk]
        exact AgainK.mk (9 - (i + 1)) (by simp only; omega) ⟨i + 1, by omega, rfl, (eh.trans e3).trans eh2, rfl, by simp [Has]⟩
    · simp (disch := omega) only [go_sem, seval, hlt]
      refine callV_ofU F_41 rfl ((All_uf (s := [105, 102, 32, 63, 120]) L11 W (by simp)).mono ?_)
      rintro v3 h3 ⟨e3, tks, htk, L3⟩
      simp (disch := omega) only [go_sem, seval]
      obtain rfl := htk.unique (toksL_spec rxsF_ok 10 0 [105, 102, 32, 63, 120] rfl (by omega) (by simp))
      rw [formsQ] at L3
      refine callV_ofU F_42 rfl ((Leaves_uf (s := [105, 102, 32, 63, 120]) (L0.ext ((eA.trans eh).trans e3)) L3 (by decide) (by simp) (by simp) (by decide)).mono ?_)
      rintro v4 h4 ⟨e4, L4⟩
      rw [leavesQ] at L4
      obtain ⟨a4, n4, c4, z4, rfl, hn4⟩ := L4.form
      have hn4' : n4 = 3 := hn4
      subst hn4'
      obtain ⟨b1, o1, cs1, l1, rfl, rfl, hb1, hg1, rfl, hr1, ht1, hc1⟩ := L4.at_ (i := 0) (x := ⟨0, [105, 102]⟩) rfl (k := 2) rfl
      obtain ⟨b2, o2, cs2, l2, e5, _, hb2, hg2, rfl, hr2, ht2, hc2⟩ := L4.at_ (i := 1) (x := ⟨-1, [63]⟩) rfl (k := 2) rfl
      simp only [Option.some.injEq, Prod.mk.injEq] at e5
      obtain ⟨rfl, rfl⟩ := e5
      rw [hg1] at hg2
      simp only [Option.some.injEq, Blk.cells.injEq, and_true] at hg2
      subst hg2
      obtain ⟨b3, o3, cs3, l3, e6, _, hb3, hg3, rfl, hr3, ht3, hc3⟩ := L4.at_ (i := 2) (x := ⟨1, [120]⟩) rfl (k := 2) rfl
      simp only [Option.some.injEq, Prod.mk.injEq] at e6
      obtain ⟨rfl, rfl⟩ := e6
      rw [hg1] at hg3
      simp only [Option.some.injEq, Blk.cells.injEq, and_true] at hg3
      subst hg3
      have ht1' : (cs1.drop o1).take 2 = [.int .i64 0, .str [105, 102]] := by simpa using ht1
      have ht2' : (cs1.drop (o1 + 2)).take 2 = [.int .i64 (-1), .str [63]] := by simpa using ht2
      have ht3' : (cs1.drop (o1 + 4)).take 2 = [.int .i64 1, .str [120]] := by simpa using ht3
      simp (disch := omega) only [go_sem, seval, hg1, hr1, ht1', ht2', ht3', eqL1, eqL2, eqL3]
      exact hQ _ _ rfl
  · simp [ncls, rxsF] at hc

theorem LexForms_law {h : Heap} : WF T F 17 [] h fun v' h' => v' = .bool true := LexForms_uf.toW

end Go.Proofs.Ytenpjkinpecnfaa
