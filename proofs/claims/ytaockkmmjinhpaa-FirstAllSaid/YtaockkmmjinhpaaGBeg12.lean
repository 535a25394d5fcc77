/-
  Layer first: what its laws begin with, told by the abstract machine in its form for the kernel.
-/
import Derived.Test.YtaockkmmjinhpaaAmTl
import Derived.Test.YtaockkmmjinhpaaAmKr
import Derived.Test.YtaockkmmjinhpaaAmUr
import Derived.KernelRfl
namespace Go.Proofs.Ytaockkmmjinhpaa
open Go Go.Am
set_option maxRecDepth 100000 in
set_option maxHeartbeats 4000000 in
theorem told12 : tells ((lvx T F 10000).f 34 [] ⟨16, .nil⟩) = true := by kernel_rfl
theorem begun12_uf {h : Heap} (hn : h.nxt = 16) : UF T F 34 [] h fun v h' => Ext h h' ∧ v = .bool true := by
  have e := told12
  unfold tells at e
  split at e
  · rename_i b h' h1
    have w := (lok 10000).f _ _ _ _ _ h1 (· < 16) h h ⟨hn, fun b x e => by simp [Heap.get, HT.get] at e, fun b hb => ⟨by simp [Heap.get, HT.get], hb⟩, fun _ _ => rfl⟩
    refine (UF.ofW w).mono ?_
    rintro v h2 ⟨rfl, R⟩
    have h15 := (R.gone 15 (by decide)).2
    have hx := R.nxt
    refine ⟨⟨by omega, fun b hb => R.old b (by omega)⟩, ?_⟩
    rw [e]
  · cases e

end Go.Proofs.Ytaockkmmjinhpaa
