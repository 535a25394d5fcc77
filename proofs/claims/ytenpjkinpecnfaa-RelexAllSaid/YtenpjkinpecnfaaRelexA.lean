/-
  Layer relex: tokens that are the same.
-/
import Derived.Test.YtenpjkinpecnfaaLexD
import Derived.KernelRfl
namespace Go.Proofs.Ytenpjkinpecnfaa
open Go Go.Am
set_option maxRecDepth 100000
set_option maxHeartbeats 4000000
set_option linter.unusedSimpArgs false
set_option linter.unusedVariables false

def Tk.agg (x : Tk) : AV := .agg [.int .i64 x.kind, .int .i64 (x.at_ : Nat), .int .i64 (x.len : Nat)]
def Tk.text (s : List UInt8) (x : Tk) : List UInt8 := (s.drop x.at_).take x.len
theorem piece_uf {h : Heap} {s : List UInt8} {x : Tk} (hs : s.length ≤ 100000) (hx : x.at_ + x.len ≤ s.length) : UF T F 65 [.str s, .agg [.int .i64 x.kind, .int .i64 (x.at_ : Nat), .int .i64 (x.len : Nat)]] h fun v' h' => Ext h h' ∧ v' = .str (x.text s) := by
  refine UF.gen fun Q hQ => UF.of (F_65) (c := _) rfl ?_
  unfold Try.f65
  simp only [List.length, Nat.reduceSub, Nat.reduceAdd, List.replicate, List.cons_append, List.nil_append]
  simp (disch := first | ((try simp only [heapN]) <;> omega) | fail) only [go_sem, seval]
  have q1 : ¬ ((x.at_ : Nat) : Int) < 0 := by omega
  have q2 : ¬ ((x.at_ : Nat) : Int) > (s.length : Int) := by omega
  have q3 : ¬ ((x.len : Nat) : Int) < 0 := by omega
  have q4 : ¬ ((x.len : Nat) : Int) > (s.length : Int) - (x.at_ : Nat) := by omega
  have eal : ((x.at_ : Nat) : Int) + (x.len : Nat) = ((x.at_ + x.len : Nat) : Int) := by omega
  simp (disch := first | ((try simp only [heapN]) <;> omega) | fail) only [go_sem, seval, get_add_self, q1, q2, q3, q4, eal]
  refine str_both (i := x.at_) (j := x.at_ + x.len) (by omega) (by omega) ?_
  rw [Nat.add_sub_cancel_left]
  simp (disch := first | ((try simp only [heapN]) <;> omega) | fail) only [go_sem, seval]
  exact hQ _ _ ⟨Ext.add _ _, rfl⟩

/-- Is a token the same, so many bytes further on? -/
def sameT (s t : List UInt8) (by_ : Int) (x y : Tk) : Bool := decide (x.kind = y.kind) && (decide (x.len = y.len) && (decide ((x.at_ : Int) + by_ = y.at_) && (x.text s == y.text t)))
theorem same_uf {h : Heap} {s t : List UInt8} {x y : Tk} {bb sb tb : Nat} {by_ : Int} (hs : s.length ≤ 100000) (ht : t.length ≤ 100000) (hx : x.at_ + x.len ≤ s.length) (hy : y.at_ + y.len ≤ t.length) (hby : -100000 ≤ by_ ∧ by_ ≤ 100000)
    (hb : bb < h.nxt ∧ h.get bb = some (.cells [.int .i64 by_] true)) (hsb : sb < h.nxt ∧ h.get sb = some (.cells [.str s] true)) (htb : tb < h.nxt ∧ h.get tb = some (.cells [.str t] true)) :
    UF T F 64 [.agg [.int .i64 x.kind, .int .i64 (x.at_ : Nat), .int .i64 (x.len : Nat)], .agg [.int .i64 y.kind, .int .i64 (y.at_ : Nat), .int .i64 (y.len : Nat)], .ptr (some (bb, 0)), .ptr (some (sb, 0)), .ptr (some (tb, 0))] h fun v' h' => Ext h h' ∧ v' = .bool (sameT s t by_ x y) := by
  refine UF.gen fun Q hQ => UF.of (F_64) (c := _) rfl ?_
  unfold Try.f64
  simp only [List.length, Nat.reduceSub, Nat.reduceAdd, List.replicate, List.cons_append, List.nil_append]
  simp (disch := first | ((try simp only [heapN]) <;> omega) | fail) only [go_sem, seval]
  have e1 : Ext h ((h.add (.cells [.int .i64 x.kind, .int .i64 (x.at_ : Nat), .int .i64 (x.len : Nat)] true)).add (.cells [.int .i64 y.kind, .int .i64 (y.at_ : Nat), .int .i64 (y.len : Nat)] true)) := (Ext.add _ _).trans (Ext.add _ _)
  have g5 : ((h.add (.cells [.int .i64 x.kind, .int .i64 (x.at_ : Nat), .int .i64 (x.len : Nat)] true)).add (.cells [.int .i64 y.kind, .int .i64 (y.at_ : Nat), .int .i64 (y.len : Nat)] true)).get h.nxt = some (.cells [.int .i64 x.kind, .int .i64 (x.at_ : Nat), .int .i64 (x.len : Nat)] true) := by rw [get_add_lt (by simp), get_add_self]
  have g6 : ((h.add (.cells [.int .i64 x.kind, .int .i64 (x.at_ : Nat), .int .i64 (x.len : Nat)] true)).add (.cells [.int .i64 y.kind, .int .i64 (y.at_ : Nat), .int .i64 (y.len : Nat)] true)).get (h.nxt + 1) = some (.cells [.int .i64 y.kind, .int .i64 (y.at_ : Nat), .int .i64 (y.len : Nat)] true) := by rw [← Heap.add_nxt h (.cells [.int .i64 x.kind, .int .i64 (x.at_ : Nat), .int .i64 (x.len : Nat)] true), get_add_self]
  have n1 : ((h.add (.cells [.int .i64 x.kind, .int .i64 (x.at_ : Nat), .int .i64 (x.len : Nat)] true)).add (.cells [.int .i64 y.kind, .int .i64 (y.at_ : Nat), .int .i64 (y.len : Nat)] true)).nxt = h.nxt + 2 := by simp
  generalize ((h.add (.cells [.int .i64 x.kind, .int .i64 (x.at_ : Nat), .int .i64 (x.len : Nat)] true)).add (.cells [.int .i64 y.kind, .int .i64 (y.at_ : Nat), .int .i64 (y.len : Nat)] true)) = h1 at *
  have gb := (e1.get _ hb.1).trans hb.2
  have gs := (e1.get _ hsb.1).trans hsb.2
  have gt := (e1.get _ htb.1).trans htb.2
  have eb : Ext h (h1.bump 30) := e1.trans (Ext.bump _ _)
  refine DrawU_of' (fun b => b < h.nxt + 2) [0, 1, 0, 4, 15, 31, 63, 127, 63, 319, 1023, 2047, 4095, 8191, 16383, 8191, 65535, 8191, 139263, 524287, 1048575, 2097151, 4194303, 4194303, 16777215, 4194303, 4194303, 134217727, 268435455, 536870911, 1073741823] (by rfl) (by rfl) (fun b hb => by omega) ?_
  simp (disch := first | ((try simp only [heapN]) <;> omega) | fail) only [go_sem, seval]
  refine LoadK_ofU rfl (by show _ < _; omega) ?_
  simp (disch := first | ((try simp only [heapN]) <;> omega) | fail) only [go_sem, seval, g5]
  refine LoadK_ofU rfl (by show _ < _; omega) ?_
  simp (disch := first | ((try simp only [heapN]) <;> omega) | fail) only [go_sem, seval, g6]
  by_cases c1 : x.kind = y.kind
  · simp (disch := first | ((try simp only [heapN]) <;> omega) | fail) only [go_sem, seval, c1]
    refine LoadK_ofU rfl (by show _ < _; omega) ?_
    simp (disch := first | ((try simp only [heapN]) <;> omega) | fail) only [go_sem, seval, g5]
    refine LoadK_ofU rfl (by show _ < _; omega) ?_
    simp (disch := first | ((try simp only [heapN]) <;> omega) | fail) only [go_sem, seval, g6]
    by_cases c2 : ((x.len : Nat) : Int) = (y.len : Nat)
    · simp (disch := first | ((try simp only [heapN]) <;> omega) | fail) only [go_sem, seval, c2]
      refine LoadK_ofU rfl (by show _ < _; omega) ?_
      simp (disch := first | ((try simp only [heapN]) <;> omega) | fail) only [go_sem, seval, g5]
      refine LoadK_ofU rfl (by show _ < _; omega) ?_
      simp (disch := first | ((try simp only [heapN]) <;> omega) | fail) only [go_sem, seval, gb]
      refine LoadK_ofU rfl (by show _ < _; omega) ?_
      simp (disch := first | ((try simp only [heapN]) <;> omega) | fail) only [go_sem, seval, g6]
      by_cases c3 : ((x.at_ : Nat) : Int) + by_ = (y.at_ : Nat)
      · simp (disch := first | ((try simp only [heapN]) <;> omega) | fail) only [go_sem, seval, c3]
        refine LoadK_ofU rfl (by show _ < _; omega) ?_
        simp (disch := first | ((try simp only [heapN]) <;> omega) | fail) only [go_sem, seval, gs, c3]
        refine LoadK_ofU rfl (by show _ < _; omega) ?_
        simp (disch := first | ((try simp only [heapN]) <;> omega) | fail) only [go_sem, seval, g5, c3]
        refine callV_ofU F_65 rfl ((piece_uf hs hx).mono ?_)
        rintro v3 h3 ⟨e3, rfl⟩
        simp (disch := first | ((try simp only [heapN]) <;> omega) | fail) only [go_sem, seval, c3]
        refine ⟨fun b hb => (e3.get _ (by simp; omega)).trans (by simp), ?_⟩
        have k3 : ∀ b, b < h.nxt + 2 → h3.get b = h1.get b := fun b hb => (e3.get _ (by simp; omega)).trans (by simp)
        refine LoadK_ofU rfl (by show _ < _; omega) ?_
        simp (disch := first | ((try simp only [heapN]) <;> omega) | fail) only [go_sem, seval, (k3 tb (by omega)).trans gt, c3]
        refine LoadK_ofU rfl (by show _ < _; omega) ?_
        simp (disch := first | ((try simp only [heapN]) <;> omega) | fail) only [go_sem, seval, (k3 (h.nxt + 1) (by omega)).trans g6, c3]
        refine callV_ofU F_65 rfl ((piece_uf ht hy).mono ?_)
        rintro v4 h4 ⟨e4, rfl⟩
        simp (disch := first | ((try simp only [heapN]) <;> omega) | fail) only [go_sem, seval, c3]
        refine ⟨fun b hb => e4.get _ (by have := e3.nxt; simp at this; omega), ?_⟩
        have hse : strOp .eql (x.text s) (y.text t) = some (.bool (x.text s == y.text t)) := rfl
        simp (disch := first | ((try simp only [heapN]) <;> omega) | fail) only [go_sem, seval, hse, c3]
        exact hQ _ _ ⟨((e1.trans (Ext.bump _ _)).trans e3).trans e4, by unfold sameT; rw [decide_eq_true c1, decide_eq_true (show x.len = y.len by omega), decide_eq_true c3]; simp⟩
      · simp (disch := first | ((try simp only [heapN]) <;> omega) | fail) only [go_sem, seval, c3]
        exact hQ _ _ ⟨e1.trans (Ext.bump _ _), by unfold sameT; rw [decide_eq_false c3]; simp⟩
    · simp (disch := first | ((try simp only [heapN]) <;> omega) | fail) only [go_sem, seval, c2]
      exact hQ _ _ ⟨e1.trans (Ext.bump _ _), by unfold sameT; rw [decide_eq_false (show ¬ x.len = y.len by omega)]; simp⟩
  · simp (disch := first | ((try simp only [heapN]) <;> omega) | fail) only [go_sem, seval, c1]
    exact hQ _ _ ⟨e1.trans (Ext.bump _ _), by unfold sameT; rw [decide_eq_false c1]; simp⟩

/-- How many are the same, from the front on. -/
def frontN (f : Tk → Tk → Bool) : List Tk → List Tk → Nat
  | x :: a, y :: b => if f x y then frontN f a b + 1 else 0
  | _, _ => 0
theorem frontN_le (f : Tk → Tk → Bool) : ∀ a b, frontN f a b ≤ a.length ∧ frontN f a b ≤ b.length
  | [], b => by simp [frontN]
  | x :: a, [] => by simp [frontN]
  | x :: a, y :: b => by
    have := frontN_le f a b
    unfold frontN
    split
    · simp only [List.length_cons]; omega
    · omega

theorem frontN_at {f : Tk → Tk → Bool} {a b : List Tk} {n : Nat} (h1 : n < a.length) (h2 : n < b.length) : frontN f (a.drop n) (b.drop n) = if f a[n] b[n] then frontN f (a.drop (n + 1)) (b.drop (n + 1)) + 1 else 0 := by
  rw [List.drop_eq_getElem_cons h1, List.drop_eq_getElem_cons h2, frontN]
theorem frontN_end {f : Tk → Tk → Bool} {a b : List Tk} {n : Nat} (h : a.length ≤ n ∨ b.length ≤ n) : frontN f (a.drop n) (b.drop n) = 0 := by
  rcases h with h | h
  · rw [List.drop_eq_nil_of_le h]; rfl
  · rw [List.drop_eq_nil_of_le h]
    cases a.drop n <;> rfl
end Go.Proofs.Ytenpjkinpecnfaa
