/-
  Proved: the law NfaForms tells true, whatever the world it is called in; it takes no arguments. The abstract machine carries out the call, and what it tells is so in the model.
-/
import Derived.Test.YtenpjkinpecnfaaRows
import Derived.Test.YtenpjkinpecnfaaAmTab
import Derived.Test.YtenpjkinpecnfaaPartNfaForms0
import Derived.Test.YtenpjkinpecnfaaPartNfaForms1
import Derived.Test.YtenpjkinpecnfaaToldNfaForms
import Derived.WalkKit
import Derived.ProofKit
import Derived.OpenShut
import Derived.ShutString
import Derived.ChangeOld
import Derived.Below
import Derived.SizedLaws
namespace Go.Proofs.Ytenpjkinpecnfaa.nfaForms
open Go.ChangeShapes Go.WideShapes Go.ChangeAt Go.RowKit Go.Am
set_option linter.unusedVariables false
theorem own : ownKnob Try.prog.godebug = none := by kernel_rfl
theorem mixed : Try.prog.follows .mixedOrders = true := by kernel_rfl
theorem ok0 : EntryOk T F E0 := entry_ok (lokT (tb := tb0) (.nil) 100000) part0
theorem ok1 : EntryOk T F E1 := entry_ok (lokT (tb := tb1) (.cons (.cons rfl ok0 (.nil)) (.nil)) 100000) part1
set_option maxRecDepth 1000000 in
theorem walk (w : World) : Calls Try.prog 9 #[] w fun e w' => e = .returned (.bool true) ∧ Below w.heap.size w w' := law0T_of mixed hT hF (tb := tb2) (.cons (.cons rfl ok0 (.cons rfl ok1 (.nil))) (.nil)) _ _ told w
set_option maxRecDepth 100000 in
theorem lifted (os : Os) (started : os.Started) (H : Type) (enc : TypeId × Value → H) :
    ReturnsInHanded {} Try.checked os 9 .any (Rows.nfaFormsSpec.pre6 enc Try.prog Try.f9 Rows.nfaFormsRow.domain false) (Rows.nfaFormsSpec.post enc Try.prog Try.f9 false true false false) := by
  refine returnsInHanded_of_change_sized (C := Try.checked) own started (by kernel_rfl) Try.func9
    (ChangeSpec.witness6 (enc := enc) (C := Try.checked) false ⟨#[], #[], []⟩ 8 (by kernel_rfl) (by kernel_rfl) (by kernel_rfl) (by kernel_rfl)) ?_
  intro W base args ds gs before hval0 hW hcnd hsz0 _
  have hW' := hW
  obtain ⟨p, q, hA0, hV, rfl, hfz, hnd⟩ := hW
  have hA : DataW.TrodAll enc Try.prog W 0 (fun _ => true) true Try.f9.params.toList args.toList ds p := hA0
  rw [Try.params9] at hA
  obtain ⟨rfl, rfl, rfl⟩ := trodAll_none hA
  obtain ⟨rfl, rfl⟩ := trodVars_none hV
  clear hA0 hval0 hsz0
  refine (walk W).mono fun e W' ⟨he, bel⟩ => ?_
  subst he
  exact ⟨_, rfl, _, _, _, [], _, [], hW', trodAll_mk1 (shut_bool Try.underlying4 _), trodAll_mk0, rfl, bel.frame _, fun h => by cases h⟩
theorem over : Rows.nfaFormsRow.holds Try.pinned (OpenSpec.ofChange Rows.nfaFormsSpec) :=
  OpenClaim.holds_of_wide 9 Try.f9 rfl rfl rfl rfl rfl rfl rfl ⟨rfl, rfl, rfl, rfl, rfl⟩ rfl rfl rfl rfl rfl (by kernel_rfl) Try.func9 (by kernel_rfl)
    (of_decide_eq_true (by kernel_rfl)) (by unfold Func.isWrapper; first | (rw [if_pos (by decide +kernel)]; kernel_rfl) | (rw [if_neg (by decide +kernel)]; exact ⟨rfl, rfl⟩))
    (fun os started H enc _ => lifted os started H enc)
theorem proved : Rows.NfaFormsSaid := over
#print axioms proved
end Go.Proofs.Ytenpjkinpecnfaa.nfaForms
namespace Go.Proofs.Ytenpjkinpecnfaa
/-- The row, under a short name, for the claim. -/
theorem nfaForms_holds : Rows.NfaFormsSaid := nfaForms.proved
end Go.Proofs.Ytenpjkinpecnfaa
