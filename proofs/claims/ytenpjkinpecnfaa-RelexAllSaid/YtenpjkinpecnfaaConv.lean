/-
  Bytes as texts, texts as bytes.
-/
import Derived.Test.YtenpjkinpecnfaaRexS
import Derived.KernelRfl
namespace Go.Proofs.Ytenpjkinpecnfaa
open Go Go.Am
set_option maxRecDepth 100000
set_option linter.unusedSimpArgs false
set_option linter.unusedVariables false

theorem bytesOf_map : ∀ l : List UInt8, bytesOf (l.map fun b => .int .u8 b.toNat) = some l
  | [] => rfl
  | a :: l => by
    simp only [List.map_cons, bytesOf, bytesOf_map l, Int.toNat_natCast]
    simp
theorem conv_bs {h : Heap} {b n : Nat} {c : Option Nat} {l : List UInt8} {w : Bool} (hg : h.get b = some (.cells (l.map fun b => .int .u8 b.toNat) w)) (hn : n = l.length) : convA T 22 9 (.slc (some (b, 0)) n c 1) h = some (.str l, h) := by
  subst hn
  simp only [convA, T_9, T_22, T_5, if_true]
  by_cases h0 : l.length = 0
  · have : l = [] := by simpa using h0
    subst this; simp
  · simp only [h0, if_false, Am.loadCells, hg]
    have : (0 + l.length ≤ (l.map fun b => AV.int .u8 b.toNat).length) := by simp
    rw [if_pos this]
    have ht : ((l.map fun b => AV.int .u8 b.toNat).drop 0).take l.length = l.map fun b => AV.int .u8 b.toNat := by
      rw [List.drop_zero, List.take_of_length_le (by simp)]
    rw [ht]
    simp only [bytesOf_map]


end Go.Proofs.Ytenpjkinpecnfaa
