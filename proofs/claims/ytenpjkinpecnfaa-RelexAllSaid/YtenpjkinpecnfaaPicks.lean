/-
  Choices out of numbers.
-/
import Derived.Test.YtenpjkinpecnfaaRexS
namespace Go.Proofs.Ytenpjkinpecnfaa
open Go Go.Am
set_option maxRecDepth 100000
set_option maxHeartbeats 4000000
set_option linter.unusedSimpArgs false
set_option linter.unusedVariables false

/-- Numbers from which choices are read. -/
structure Pk (h : Heap) (k : Nat) (v : AV) (l : List UInt8) : Prop where
  lt : k < h.nxt
  g : ∃ n : Nat, h.get k = some (.cells [v, .int .i64 n] true) ∧ n ≤ l.length
  s : Lst h v l
theorem Pk.ext {h h' : Heap} {k : Nat} {v : AV} {l : List UInt8} (P : Pk h k v l) (e : Ext h h') : Pk h' k v l := by
  obtain ⟨hk, ⟨n, g, hn⟩, s⟩ := P
  exact ⟨Nat.lt_of_lt_of_le hk e.nxt, ⟨n, (e.get _ hk).trans g, hn⟩, s.ext e⟩
theorem Pk.upd {h h' : Heap} {k : Nat} {v : AV} {l : List UInt8} {S : Nat → Prop} (P : Pk h k v l) (u : Upd S h h') (hS : ¬ S k) : Pk h' k v l := by
  obtain ⟨hk, ⟨n, g, hn⟩, s⟩ := P
  exact ⟨Nat.lt_of_lt_of_le hk u.nxt, ⟨n, (u.get _ hk hS).trans g, hn⟩, s.pst u.pst⟩
/-- Blocks that are not its are written. -/
theorem Pk.putNew {h0 h h' : Heap} {k : Nat} {v : AV} {l : List UInt8} (P0 : Pk h0 k v l) (P : Pk h k v l) (u : Upd (· = k) h0 h') (e : h'.get k = h.get k) : Pk h' k v l := by
  obtain ⟨_, ⟨n, g, hn⟩, _⟩ := P
  exact ⟨Nat.lt_of_lt_of_le P0.lt u.nxt, ⟨n, e.trans g, hn⟩, P0.s.pst u.pst⟩

theorem Made_uf {h : Heap} {v : AV} {l : List UInt8} (hv : Lst h v l) : UF T F 22 [v] h fun v' h' => Ext h h' ∧ v' = .ptr (some (h.nxt, 0)) ∧ Pk h' h.nxt v l := by
  obtain ⟨a, n, c, z, rfl, hn⟩ := hv.form
  refine UF.gen fun Q hQ => UF.of (F_22) (c := _) rfl ?_
  unfold Try.f22
  simp only [List.length, Nat.reduceSub, Nat.reduceAdd, List.replicate, List.cons_append, List.nil_append]
  simp (disch := first | ((try simp only [heapN]) <;> omega) | fail) only [go_sem, seval]
  exact hQ _ _ ⟨Ext.add _ _, rfl, by simp, ⟨0, get_add_self, by omega⟩, hv.ext (Ext.add _ _)⟩

theorem Num_uf {h : Heap} {k m : Nat} {v : AV} {l : List UInt8} (P : Pk h k v l) (hl : l.length ≤ 1000) (hm : 0 < m ∧ m ≤ 1000) : UF T F 49 [.ptr (some (k, 0)), .int .i64 m] h fun v' h' => Upd (· = k) h h' ∧ Pk h' k v l ∧ ∃ x : Nat, x < m ∧ v' = .int .i64 x := by
  obtain ⟨hk, ⟨n, g, hn⟩, s⟩ := P
  obtain ⟨a, ln, c, z, rfl, hln⟩ := s.form
  refine UF.gen fun Q hQ => UF.of (F_49) (c := _) rfl ?_
  unfold Try.f49
  simp only [List.length, Nat.reduceSub, Nat.reduceAdd, List.replicate, List.cons_append, List.nil_append]
  simp (disch := first | ((try simp only [heapN]) <;> omega) | fail) only [go_sem, seval]
  refine DrawU_quiet (by rfl) ?_
  simp (disch := first | ((try simp only [heapN]) <;> omega) | fail) only [go_sem, seval, g]
  by_cases hge : (n : Int) ≥ ln
  · simp (disch := first | ((try simp only [heapN]) <;> omega) | fail) only [go_sem, seval, hge]
    exact hQ _ _ ⟨(Ext.bump _ _).upd _, ⟨by simp; omega, ⟨n, g, hn⟩, s.ext (Ext.bump _ _)⟩, 0, hm.1, rfl⟩
  · have hlt : n < l.length := by omega
    obtain ⟨b, o, cs, e, rfl, rfl, hb, hg, rfl, hroom, htake, hcell⟩ := s.at_ (i := n) (x := l[n]) (List.getElem?_eq_getElem hlt) (k := 1) rfl
    have hbk : b ≠ k := by rintro rfl; rw [g] at hg; simp at hg
    simp (disch := first | ((try simp only [heapN]) <;> omega) | fail) only [go_sem, seval, hge, g]
    have hc := hcell 0 (by decide)
    have hi : ((n : Int) + 1 - 1) = n := by omega
    have hi0 : (0 : Int) ≤ (n : Int) := by omega
    have hi1 : (n : Int) < ln := by omega
    have hm0 : ¬ ((m : Int) = 0) := by omega
    have hc' : cs[o + n]? = some (.int .u8 l[n].toNat) := by simpa using hc
    have hw : IntKind.i64.wrap (l[n].toNat : Int) = l[n].toNat := wrap_i64 (by omega) (by have := l[n].toNat_lt; omega)
    refine DrawU_quiet (by rfl) ?_
    simp (disch := first | ((try simp only [heapN]) <;> omega) | fail) only [go_sem, seval, hi, hi0, hi1, hg, hm0, hw, Int.toNat_natCast, Nat.mul_one, hc']
    have u1 : Upd (· = k) (h.bump 10) ((h.bump 10).put k (.cells [AV.slc (some (b, o)) ln c 1, AV.int IntKind.i64 ((n : Int) + 1)] true)) := Upd.put _ rfl fun cs e => by rw [bump_get, g] at e; simp at e
    have u2 := ((Ext.bump h 10).upd (· = k)).trans (u1.trans ((Ext.bump _ 15).upd _))
    refine hQ _ _ ⟨u2, ⟨by simp; omega, ⟨n + 1, by rw [bump_get]; exact get_put_self, by omega⟩, s.pst u2.pst⟩, l[n].toNat % m, Nat.mod_lt _ hm.1, ?_⟩
    rw [Int.ofNat_tmod]

def pieceTab : List (List UInt8) := [[97], [98], [91, 97, 98, 93], [97, 98], [40, 97, 124, 98, 41], [91, 97, 45, 99, 48, 45, 49, 93], [40, 97, 98, 124, 97, 41], [46], [92, 43]]
def sufTab : List (List UInt8) := [[], [], [42], [43], [63]]
def altTab : List (List UInt8) := [[98], [98, 97], [99, 43]]
def pstr (ps : List (Nat × Nat)) : List UInt8 := ps.flatMap fun p => pieceTab.getD p.1 [] ++ sufTab.getD p.2 []
/-- Patterns that are made. -/
def MadeRex (s : List UInt8) : Prop := s = [97] ∨ (s.length ≤ 24 ∧ ∃ ps : List (Nat × Nat), 1 ≤ ps.length ∧ ps.length ≤ 3 ∧ (∀ p ∈ ps, p.1 < 9 ∧ p.2 < 5) ∧ (s = pstr ps ∨ ∃ c, c < 3 ∧ (pstr ps).length < 15 ∧ s = pstr ps ++ 124 :: altTab.getD c []))

theorem pstr_len : ∀ (ps : List (Nat × Nat)), (∀ p ∈ ps, p.1 < 9 ∧ p.2 < 5) → ps.length ≤ (pstr ps).length ∧ (pstr ps).length ≤ 9 * ps.length
  | [], _ => by simp [pstr]
  | p :: ps, h => by
    have ih := pstr_len ps fun q hq => h q (by simp [hq])
    have hp := h p (by simp)
    have key : ∀ a, a < 9 → ∀ b, b < 5 → 1 ≤ (pieceTab.getD a [] ++ sufTab.getD b []).length ∧ (pieceTab.getD a [] ++ sufTab.getD b []).length ≤ 9 := by decide
    have := key p.1 hp.1 p.2 hp.2
    simp only [pstr, List.flatMap_cons, List.length_cons] at ih ⊢
    rw [List.length_append]
    omega
theorem pstr_app (ps : List (Nat × Nat)) (p : Nat × Nat) : pstr (ps ++ [p]) = pstr ps ++ (pieceTab.getD p.1 [] ++ sufTab.getD p.2 []) := by simp [pstr]
@[go_sem] theorem strOp_add {x y : List UInt8} (h : ¬ ((x.length + y.length : Nat) : Int) > 9223372036854775807) : strOp .add x y = some (.str (x ++ y)) := by simp only [strOp, if_neg h]
@[go_sem] theorem binOpA_str {T : TT} {op t x y} : binOpA T op t (.str x) (.str y) = strOp op x y := rfl

theorem piece_at : ∀ a : Nat, a < 9 → [AV.str [97], AV.str [98], AV.str [91, 97, 98, 93], AV.str [97, 98], AV.str [40, 97, 124, 98, 41], AV.str [91, 97, 45, 99, 48, 45, 49, 93], AV.str [40, 97, 98, 124, 97, 41], AV.str [46], AV.str [92, 43]][(a : Int).toNat * 1]? = some (.str (pieceTab.getD a [])) ∧ (pieceTab.getD a []).length ≤ 8
  | 0, _ | 1, _ | 2, _ | 3, _ | 4, _ | 5, _ | 6, _ | 7, _ | 8, _ => by simp [pieceTab]
  | n + 9, h => by omega
theorem suf_at : ∀ a : Nat, a < 5 → [AV.str [], AV.str [], AV.str [42], AV.str [43], AV.str [63]][(a : Int).toNat * 1]? = some (.str (sufTab.getD a [])) ∧ (sufTab.getD a []).length ≤ 1
  | 0, _ | 1, _ | 2, _ | 3, _ | 4, _ => by simp [sufTab]
  | n + 5, h => by omega
theorem alt_at : ∀ a : Nat, a < 3 → [AV.str [98], AV.str [98, 97], AV.str [99, 43]][(a : Int).toNat * 1]? = some (.str (altTab.getD a [])) ∧ (altTab.getD a []).length ≤ 2
  | 0, _ | 1, _ | 2, _ => by simp [altTab]
  | n + 3, h => by omega

theorem Rex_uf {h : Heap} {k : Nat} {v : AV} {l : List UInt8} (P : Pk h k v l) (hl : l.length ≤ 1000) : UF T F 23 [.ptr (some (k, 0))] h fun v' h' => Upd (· = k) h h' ∧ Pk h' k v l ∧ ∃ s, v' = .str s ∧ MadeRex s := by
  refine UF.gen fun Q hQ => UF.of (F_23) (c := _) rfl ?_
  unfold Try.f23
  simp only [List.length, Nat.reduceSub, Nat.reduceAdd, List.replicate, List.cons_append, List.nil_append]
  simp (disch := first | ((try simp only [heapN]) <;> omega) | fail) only [go_sem, seval]
  refine callV_ofU F_49 rfl ((Num_uf (m := 3) P hl (by omega)).mono ?_)
  rintro v1 h1 ⟨u1, P1, x, hx, rfl⟩
  simp (disch := first | ((try simp only [heapN]) <;> omega) | fail) only [go_sem, seval]
  have hx1 : ((x : Int) + 1) = ((x + 1 : Nat) : Int) := by omega
  rw [hx1]
  refine LoopU_while (fun m st hh => ∃ ps : List (Nat × Nat), Upd (· = k) h hh ∧ Pk hh k v l ∧ ps.length + m = x + 1 ∧ (∀ p ∈ ps, p.1 < 9 ∧ p.2 < 5) ∧ Keep st 45 [(0, .ptr (some (k, 0))), (3, .str (pstr ps)), (4, .int .i64 (m : Nat))]) (x + 1)
    ⟨[], u1, P1, by simp, by simp, rfl, by simp [Has, pstr]⟩ ?_
  rintro m st hh ⟨ps, u2, P2, hm, hps, hk⟩
  have hpl := pstr_len ps hps
  rw [hk.eq]
  obtain ⟨k0, k3, k4, -⟩ := hk.2
  simp only [slotsFrom, Nat.reduceAdd] at k0 k3 k4 ⊢
  simp only [k0, k3, k4]
  simp (disch := first | ((try simp only [heapN]) <;> omega) | fail) only [go_sem, seval]
  by_cases hgt : (m : Int) > 0
  · simp (disch := first | ((try simp only [heapN]) <;> omega) | fail) only [go_sem, seval, hgt]
    refine DrawU_of' (fun b => False) [0, 0, 0, 4, 14, 30, 63, 0, 0, 268, 908, 1932, 4095, 8191] (by rfl) (by rfl) (fun b hb => hb.elim) ?_
    simp (disch := first | ((try simp only [heapN]) <;> omega) | fail) only [go_sem, seval]
    refine callV_ofU F_49 rfl ((Num_uf (m := 9) (P2.ext (Ext.bump _ _)) hl (by omega)).mono ?_)
    rintro v3 h3 ⟨u3, P3, a, ha, rfl⟩
    simp (disch := first | ((try simp only [heapN]) <;> omega) | fail) only [go_sem, seval]
    have ha0 : (0 : Int) ≤ (a : Int) := by omega
    have ha9 : (a : Int) < (9 : Nat) := by omega
    refine ⟨fun b hb => hb.elim, ?_⟩
    refine LoadK_newU (a := 1) rfl (by rfl) (.head _) (by rfl) ?_
    obtain ⟨t1, l1⟩ := piece_at a ha
    have s1 : strOp .add (pstr ps) (pieceTab.getD a []) = some (.str (pstr ps ++ pieceTab.getD a [])) := strOp_add (by omega)
    simp (disch := first | ((try simp only [heapN]) <;> omega) | fail) only [go_sem, seval, t1, s1]
    refine callV_ofU F_49 rfl ((Num_uf (m := 5) P3 hl (by omega)).mono ?_)
    rintro v4 h4 ⟨u4, P4, b, hb, rfl⟩
    simp (disch := first | ((try simp only [heapN]) <;> omega) | fail) only [go_sem, seval]
    refine ⟨fun b hb => hb.elim, ?_⟩
    refine LoadK_newU (a := 7) rfl (by rfl) (.tail _ (.head _)) (by rfl) ?_
    obtain ⟨t2, l2⟩ := suf_at b hb
    have s2 : strOp .add (pstr ps ++ pieceTab.getD a []) (sufTab.getD b []) = some (.str (pstr ps ++ pieceTab.getD a [] ++ sufTab.getD b [])) := strOp_add (by rw [List.length_append]; omega)
    simp (disch := first | ((try simp only [heapN]) <;> omega) | fail) only [go_sem, seval, t2, s2]
    have k0 := P2.lt
    have n3 := u3.nxt
    have n4 := u4.nxt
    simp only [bump_nxt] at n3
    have hpp : pstr ps ++ pieceTab.getD a [] ++ sufTab.getD b [] = pstr (ps ++ [(a, b)]) := by rw [pstr_app, List.append_assoc]
    have hm1 : ((m : Int) - 1) = ((m - 1 : Nat) : Int) := by omega
    have uE : Upd (· = k) hh h4 := (((Ext.bump hh 14).upd _).trans u3).trans u4
    rw [hpp, hm1]
    refine AgainK.mk (m - 1) (by simp only; omega) ⟨ps ++ [(a, b)], u2.trans ?_, ?_, by simp; omega, fun p hp => ?_, rfl, by simp [Has]⟩
    · exact (uE.putNew (by omega) _).putNew (by omega) _
    · exact P2.putNew P4 ((uE.putNew (by omega) _).putNew (by omega) _) (by rw [get_put_ne (by omega), get_put_ne (by omega)])
    · rcases List.mem_append.1 hp with hp | hp
      · exact hps p hp
      · simp only [List.mem_singleton] at hp; subst hp; exact ⟨ha, hb⟩
  · simp (disch := first | ((try simp only [heapN]) <;> omega) | fail) only [go_sem, seval, hgt]
    have hm0 : m = 0 := by omega
    subst hm0
    refine callV_ofU F_49 rfl ((Num_uf (m := 4) P2 hl (by omega)).mono ?_)
    rintro v3 h3 ⟨u3, P3, a, ha, rfl⟩
    simp (disch := first | ((try simp only [heapN]) <;> omega) | fail) only [go_sem, seval]
    have hn1 : 1 ≤ ps.length := by omega
    have fin : ∀ s h9, Upd (· = k) hh h9 → Pk h9 k v l → (s = pstr ps ∨ ∃ c, c < 3 ∧ (pstr ps).length < 15 ∧ s = pstr ps ++ 124 :: altTab.getD c []) → s.length ≤ 24 → Q (.str s) h9 := fun s h9 u9 P9 hs hl => hQ _ _ ⟨u2.trans u9, P9, s, rfl, .inr ⟨hl, ps, hn1, by omega, hps, hs⟩⟩
    have fin0 : ∀ h9, Upd (· = k) hh h9 → Pk h9 k v l → Q (.str [97]) h9 := fun h9 u9 P9 => hQ _ _ ⟨u2.trans u9, P9, _, rfl, .inl rfl⟩
    by_cases h0 : (a : Int) = 0
    · by_cases h15 : ((pstr ps).length : Int) < 15
      · simp (disch := first | ((try simp only [heapN]) <;> omega) | fail) only [go_sem, seval, h0, h15]
        have s1 : strOp .add (pstr ps) [124] = some (.str (pstr ps ++ [124])) := strOp_add (by simp; omega)
        simp (disch := first | ((try simp only [heapN]) <;> omega) | fail) only [go_sem, seval, s1]
        refine callV_ofU F_49 rfl ((Num_uf (m := 3) (P3.ext (Ext.add _ _)) hl (by omega)).mono ?_)
        rintro v4 h4 ⟨u4, P4, c, hc, rfl⟩
        simp (disch := first | ((try simp only [heapN]) <;> omega) | fail) only [go_sem, seval]
        have n3 := u3.nxt
        have n4 := u4.nxt
        simp only [Heap.add_nxt] at n4
        have k0 := P3.lt
        have g4 := (u4.get h3.nxt (by simp) (by omega)).trans get_add_self
        obtain ⟨t1, l1⟩ := alt_at c hc
        have s2 : strOp .add (pstr ps ++ [124]) (altTab.getD c []) = some (.str (pstr ps ++ [124] ++ altTab.getD c [])) := strOp_add (by simp only [List.length_append, List.length_cons, List.length_nil]; omega)
        simp (disch := first | ((try simp only [heapN]) <;> omega) | fail) only [go_sem, seval, g4, t1, s2]
        have uE : Upd (· = k) hh h4 := (u3.trans ((Ext.add _ _).upd _)).trans u4
        have hle : ¬ ((((pstr ps).length + 1 + (altTab.getD c []).length : Nat) : Int) > 24) := by omega
        simp (disch := first | ((try simp only [heapN]) <;> omega) | fail) only [go_sem, seval, hle]
        exact fin (pstr ps ++ [124] ++ altTab.getD c []) _ uE P4 (.inr ⟨c, hc, by omega, by rw [List.append_assoc]; rfl⟩) (by simp only [List.length_append, List.length_cons, List.length_nil]; omega)
      · simp (disch := first | ((try simp only [heapN]) <;> omega) | fail) only [go_sem, seval, h0, h15]
        by_cases h24 : ((pstr ps).length : Int) > 24
        · simp (disch := first | ((try simp only [heapN]) <;> omega) | fail) only [go_sem, seval, h24]
          exact fin0 _ u3 P3
        · simp (disch := first | ((try simp only [heapN]) <;> omega) | fail) only [go_sem, seval, h24]
          exact fin _ _ u3 P3 (.inl rfl) (by omega)
    · simp (disch := first | ((try simp only [heapN]) <;> omega) | fail) only [go_sem, seval, h0]
      by_cases h24 : ((pstr ps).length : Int) > 24
      · simp (disch := first | ((try simp only [heapN]) <;> omega) | fail) only [go_sem, seval, h24]
        exact fin0 _ u3 P3
      · simp (disch := first | ((try simp only [heapN]) <;> omega) | fail) only [go_sem, seval, h24]
        exact fin _ _ u3 P3 (.inl rfl) (by omega)

end Go.Proofs.Ytenpjkinpecnfaa
