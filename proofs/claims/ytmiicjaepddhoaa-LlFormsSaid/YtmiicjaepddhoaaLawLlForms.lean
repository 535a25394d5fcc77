/-
  Proved: the law LlForms tells true, whatever the world it is called in; it takes no arguments. The abstract machine carries out the call, and what it tells is so in the model.
-/
import Derived.Test.YtmiicjaepddhoaaRows
import Derived.Test.YtmiicjaepddhoaaAmTab
import Derived.Test.YtmiicjaepddhoaaPartLlForms0
import Derived.Test.YtmiicjaepddhoaaPartLlForms1
import Derived.Test.YtmiicjaepddhoaaPartLlForms2
import Derived.Test.YtmiicjaepddhoaaPartLlForms3
import Derived.Test.YtmiicjaepddhoaaPartLlForms4
import Derived.Test.YtmiicjaepddhoaaPartLlForms5
import Derived.Test.YtmiicjaepddhoaaPartLlForms6
import Derived.Test.YtmiicjaepddhoaaPartLlForms7
import Derived.Test.YtmiicjaepddhoaaPartLlForms8
import Derived.Test.YtmiicjaepddhoaaPartLlForms9
import Derived.Test.YtmiicjaepddhoaaPartLlForms10
import Derived.Test.YtmiicjaepddhoaaToldLlForms
import Derived.WalkKit
import Derived.ProofKit
import Derived.OpenShut
import Derived.ShutString
import Derived.ChangeOld
import Derived.Below
import Derived.SizedLaws
namespace Go.Proofs.Ytmiicjaepddhoaa.llForms
open Go.ChangeShapes Go.WideShapes Go.ChangeAt Go.RowKit Go.Am
set_option linter.unusedVariables false
theorem own : ownKnob Try.prog.godebug = none := by kernel_rfl
theorem mixed : Try.prog.follows .mixedOrders = true := by kernel_rfl
theorem ok0 : EntryOk T F E0 := entry_ok (lokT (tb := tb0) (.nil) 100000) part0
theorem ok1 : EntryOk T F E1 := entry_ok (lokT (tb := tb1) (.cons (.cons rfl ok0 (.nil)) (.nil)) 100000) part1
theorem ok2 : EntryOk T F E2 := entry_ok (lokT (tb := tb2) (.cons (.cons rfl ok0 (.nil)) (.cons (.cons rfl ok1 (.nil)) (.nil))) 100000) part2
theorem ok3 : EntryOk T F E3 := entry_ok (lokT (tb := tb3) (.cons (.cons rfl ok0 (.nil)) (.cons (.cons rfl ok1 (.cons rfl ok2 (.nil))) (.nil))) 100000) part3
theorem ok4 : EntryOk T F E4 := entry_ok (lokT (tb := tb4) (.cons (.cons rfl ok0 (.nil)) (.cons (.cons rfl ok1 (.cons rfl ok2 (.cons rfl ok3 (.nil)))) (.nil))) 100000) part4
theorem ok5 : EntryOk T F E5 := entry_ok (lokT (tb := tb5) (.cons (.cons rfl ok0 (.nil)) (.cons (.cons rfl ok1 (.cons rfl ok2 (.cons rfl ok3 (.cons rfl ok4 (.nil))))) (.nil))) 100000) part5
theorem ok6 : EntryOk T F E6 := entry_ok (lokT (tb := tb6) (.cons (.cons rfl ok0 (.nil)) (.cons (.cons rfl ok1 (.cons rfl ok2 (.cons rfl ok3 (.cons rfl ok4 (.cons rfl ok5 (.nil)))))) (.nil))) 100000) part6
theorem ok7 : EntryOk T F E7 := entry_ok (lokT (tb := tb7) (.cons (.cons rfl ok0 (.nil)) (.cons (.cons rfl ok1 (.cons rfl ok2 (.cons rfl ok3 (.cons rfl ok4 (.cons rfl ok5 (.cons rfl ok6 (.nil))))))) (.nil))) 100000) part7
theorem ok8 : EntryOk T F E8 := entry_ok (lokT (tb := tb8) (.cons (.cons rfl ok0 (.nil)) (.cons (.cons rfl ok1 (.cons rfl ok2 (.cons rfl ok3 (.cons rfl ok4 (.cons rfl ok5 (.cons rfl ok6 (.cons rfl ok7 (.nil)))))))) (.nil))) 100000) part8
theorem ok9 : EntryOk T F E9 := entry_ok (lokT (tb := tb9) (.cons (.cons rfl ok0 (.nil)) (.cons (.cons rfl ok1 (.cons rfl ok2 (.cons rfl ok3 (.cons rfl ok4 (.cons rfl ok5 (.cons rfl ok6 (.cons rfl ok7 (.nil)))))))) (.cons (.cons rfl ok8 (.nil)) (.nil)))) 100000) part9
theorem ok10 : EntryOk T F E10 := entry_ok (lokT (tb := tb10) (.cons (.cons rfl ok0 (.nil)) (.cons (.cons rfl ok1 (.cons rfl ok2 (.cons rfl ok3 (.cons rfl ok4 (.cons rfl ok5 (.cons rfl ok6 (.cons rfl ok7 (.nil)))))))) (.cons (.cons rfl ok8 (.nil)) (.cons (.cons rfl ok9 (.nil)) (.nil))))) 100000) part10
set_option maxRecDepth 1000000 in
theorem walk (w : World) : Calls Try.prog 13 #[] w fun e w' => e = .returned (.bool true) ∧ Below w.heap.size w w' := law0T_of mixed hT hF (tb := tb11) (.cons (.cons rfl ok0 (.nil)) (.cons (.cons rfl ok1 (.cons rfl ok2 (.cons rfl ok3 (.cons rfl ok4 (.cons rfl ok5 (.cons rfl ok6 (.cons rfl ok7 (.nil)))))))) (.cons (.cons rfl ok8 (.nil)) (.cons (.cons rfl ok9 (.cons rfl ok10 (.nil))) (.nil))))) _ _ told w
set_option maxRecDepth 100000 in
theorem lifted (os : Os) (started : os.Started) (H : Type) (enc : TypeId × Value → H) :
    ReturnsInHanded {} Try.checked os 13 .any (Rows.llFormsSpec.pre6 enc Try.prog Try.f13 Rows.llFormsRow.domain false) (Rows.llFormsSpec.post enc Try.prog Try.f13 false true false false) := by
  refine returnsInHanded_of_change_sized (C := Try.checked) own started (by kernel_rfl) Try.func13
    (ChangeSpec.witness6 (enc := enc) (C := Try.checked) false ⟨#[], #[], []⟩ 8 (by kernel_rfl) (by kernel_rfl) (by kernel_rfl) (by kernel_rfl)) ?_
  intro W base args ds gs before hval0 hW hcnd hsz0 _
  have hW' := hW
  obtain ⟨p, q, hA0, hV, rfl, hfz, hnd⟩ := hW
  have hA : DataW.TrodAll enc Try.prog W 0 (fun _ => true) true Try.f13.params.toList args.toList ds p := hA0
  rw [Try.params13] at hA
  obtain ⟨rfl, rfl, rfl⟩ := trodAll_none hA
  obtain ⟨rfl, rfl⟩ := trodVars_none hV
  clear hA0 hval0 hsz0
  refine (walk W).mono fun e W' ⟨he, bel⟩ => ?_
  subst he
  exact ⟨_, rfl, _, _, _, [], _, [], hW', trodAll_mk1 (shut_bool Try.underlying4 _), trodAll_mk0, rfl, bel.frame _, fun h => by cases h⟩
theorem over : Rows.llFormsRow.holds Try.pinned (OpenSpec.ofChange Rows.llFormsSpec) :=
  OpenClaim.holds_of_wide 13 Try.f13 rfl rfl rfl rfl rfl rfl rfl ⟨rfl, rfl, rfl, rfl, rfl⟩ rfl rfl rfl rfl rfl (by kernel_rfl) Try.func13 (by kernel_rfl)
    (of_decide_eq_true (by kernel_rfl)) (by unfold Func.isWrapper; first | (rw [if_pos (by decide +kernel)]; kernel_rfl) | (rw [if_neg (by decide +kernel)]; exact ⟨rfl, rfl⟩))
    (fun os started H enc _ => lifted os started H enc)
theorem proved : Rows.LlFormsSaid := over
#print axioms proved
end Go.Proofs.Ytmiicjaepddhoaa.llForms
namespace Go.Proofs.Ytmiicjaepddhoaa
/-- The row, under a short name, for the claim. -/
theorem llForms_holds : Rows.LlFormsSaid := llForms.proved
end Go.Proofs.Ytmiicjaepddhoaa
