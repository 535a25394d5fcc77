/-
  Layer ll: what its laws begin with, told by the abstract machine in its form for the kernel, with a table of calls.
-/
import Derived.Test.YtaockkmmjinhpaaGPrt13a
import Derived.Test.YtaockkmmjinhpaaGPrt13b
import Derived.Test.YtaockkmmjinhpaaGPrt13c
import Derived.Test.YtaockkmmjinhpaaGPrt13d
import Derived.Test.YtaockkmmjinhpaaAmKr
import Derived.Test.YtaockkmmjinhpaaAmUr
import Derived.KernelRfl
namespace Go.Proofs.Ytaockkmmjinhpaa.beg13
open Go Go.Am
theorem ok0 : EntryOk T F E0 := entry_ok (lokT (tb := tb0) (.nil) 10000) part0
theorem ok1 : EntryOk T F E1 := entry_ok (lokT (tb := tb1) (.cons (.cons rfl ok0 (.nil)) (.nil)) 10000) part1
theorem ok2 : EntryOk T F E2 := entry_ok (lokT (tb := tb2) (.cons (.cons rfl ok0 (.nil)) (.cons (.cons rfl ok1 (.nil)) (.nil))) 10000) part2
theorem ok3 : EntryOk T F E3 := entry_ok (lokT (tb := tb3) (.cons (.cons rfl ok0 (.nil)) (.cons (.cons rfl ok1 (.cons rfl ok2 (.nil))) (.nil))) 10000) part3
theorem ok4 : EntryOk T F E4 := entry_ok (lokT (tb := tb4) (.cons (.cons rfl ok0 (.nil)) (.cons (.cons rfl ok1 (.cons rfl ok2 (.cons rfl ok3 (.nil)))) (.nil))) 10000) part4
theorem ok5 : EntryOk T F E5 := entry_ok (lokT (tb := tb5) (.cons (.cons rfl ok0 (.nil)) (.cons (.cons rfl ok1 (.cons rfl ok2 (.cons rfl ok3 (.cons rfl ok4 (.nil))))) (.nil))) 10000) part5
theorem ok6 : EntryOk T F E6 := entry_ok (lokT (tb := tb6) (.cons (.cons rfl ok0 (.nil)) (.cons (.cons rfl ok1 (.cons rfl ok2 (.cons rfl ok3 (.cons rfl ok4 (.cons rfl ok5 (.nil)))))) (.nil))) 10000) part6
theorem ok7 : EntryOk T F E7 := entry_ok (lokT (tb := tb7) (.cons (.cons rfl ok0 (.nil)) (.cons (.cons rfl ok1 (.cons rfl ok2 (.cons rfl ok3 (.cons rfl ok4 (.cons rfl ok5 (.cons rfl ok6 (.nil))))))) (.nil))) 10000) part7
set_option maxRecDepth 100000 in
set_option maxHeartbeats 4000000 in
theorem told13 : tells ((lvxT T F tb8 10000).f 49 [] ⟨16, .nil⟩) = true := by kernel_rfl
theorem begun13_uf {h : Heap} (hn : h.nxt = 16) : UF T F 49 [] h fun v h' => Ext h h' ∧ v = .bool true := by
  have e := told13
  unfold tells at e
  split at e
  · rename_i b h' h1
    have w := (lokT (tb := tb8) (.cons (.cons rfl ok0 (.nil)) (.cons (.cons rfl ok1 (.cons rfl ok2 (.cons rfl ok3 (.cons rfl ok4 (.cons rfl ok5 (.cons rfl ok6 (.cons rfl ok7 (.nil)))))))) (.nil))) 10000).f _ _ _ _ _ h1 (· < 16) h h ⟨hn, fun b x e => by simp [Heap.get, HT.get] at e, fun b hb => ⟨by simp [Heap.get, HT.get], hb⟩, fun _ _ => rfl⟩
    refine (UF.ofW w).mono ?_
    rintro v h2 ⟨rfl, R⟩
    have h15 := (R.gone 15 (by decide)).2
    have hx := R.nxt
    refine ⟨⟨by omega, fun b hb => R.old b (by omega)⟩, ?_⟩
    rw [e]
  · cases e

end Go.Proofs.Ytaockkmmjinhpaa.beg13
