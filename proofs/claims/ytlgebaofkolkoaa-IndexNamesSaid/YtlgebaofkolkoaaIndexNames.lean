/- 'IndexNames' is true of the given program, whatever the arguments: each function was gone through once, on a machine that is proved to do what the model does. No condition. -/
import Derived.Test.YtlgebaofkolkoaaRows
import Derived.Test.YtlgebaofkolkoaaIxNaD
import Derived.WalkKit
import Derived.ProofKit
import Derived.OpenShut
import Derived.ShutString
import Derived.ChangeOld
import Derived.Below
namespace Go.Proofs.Ytlgebaofkolkoaa
open Go.ChangeShapes Go.WideShapes Go.ChangeAt Go.RowKit
open Go.ChangeMaps (open_string shut_string)
set_option linter.unusedVariables false
theorem indexNamesOwn : ownKnob Try.prog.godebug = none := by kernel_rfl
theorem indexNamesLaid : laidOutB Try.prog = true := by kernel_rfl
theorem indexNamesWalk  (w : World)  : Calls Try.prog 9 #[] w fun e w' => e = .returned (.bool true) ∧ Below w.heap.size w w' := by
  refine (Am.calls_of (E := Am.Ytlgebaofkolkoaa.env) (Am.Ytlgebaofkolkoaa.law9 ) (Am.rl_list [] #[]  .nil)).mono fun e w' hh => ?_
  obtain ⟨v, h, n, x, ρ', rfl, rfl, hx, hb⟩ := hh
  exact ⟨by rw [hx.bool_inv], hb⟩
set_option maxRecDepth 100000 in
theorem indexNamesLifted (os : Os) (started : os.Started) (H : Type) (enc : TypeId × Value → H) :
    ReturnsInHanded {} Try.checked os 9 .any (Rows.indexNamesSpec.pre6 enc Try.prog Try.f9 Rows.indexNamesRow.domain false) (Rows.indexNamesSpec.post enc Try.prog Try.f9 false true false false) := by
  refine returnsInHanded_of_change (C := Try.checked) indexNamesOwn started (by kernel_rfl) Try.func9
    (ChangeSpec.witness6 (enc := enc) (C := Try.checked) false ⟨#[], #[], []⟩ 8 (by kernel_rfl) (by kernel_rfl) (by kernel_rfl) (by kernel_rfl)) ?_
  intro W base args ds gs before hval0 hW hcnd _
  have hval : ∀ (j : Nat) t v, Try.f9.params[j]? = some t → args[j]? = some v → Value.okWide Try.prog W .any base t v := hval0
  have hW' := hW
  obtain ⟨p, q, hA0, hV, rfl, hfz, hnd⟩ := hW
  have hA : DataW.TrodAll enc Try.prog W 0 (fun _ => true) true Try.f9.params.toList args.toList ds p := hA0
  rw [Try.params9] at hA hval
  obtain ⟨hargs, rfl, rfl⟩ := trodAll_nil hA
  obtain rfl : args = #[] := by cases args; simp_all
  obtain ⟨rfl, rfl⟩ := trodVars_none hV
  clear hA0 hval0
  refine (indexNamesWalk  W ).mono fun e W' ⟨he, bel⟩ => ?_
  subst he
  exact ⟨_, rfl, _, _, _, [], _, [], hW', trodAll_mk1 (shut_bool Try.underlying4 _), trodAll_mk0, rfl, bel.frame _, fun h => by cases h⟩
theorem indexNamesProved : Rows.IndexNamesSaid :=
  OpenClaim.holds_of_wide 9 Try.f9 rfl rfl rfl rfl rfl rfl rfl ⟨rfl, rfl, rfl, rfl, rfl⟩ rfl rfl rfl rfl rfl (by kernel_rfl) Try.func9 (by kernel_rfl)
    (of_decide_eq_true (by kernel_rfl)) (by unfold Func.isWrapper; first | (rw [if_pos (by decide +kernel)]; kernel_rfl) | (rw [if_neg (by decide +kernel)]; exact ⟨rfl, rfl⟩))
    (fun os started H enc _ => indexNamesLifted os started H enc)
#print axioms indexNamesProved
end Go.Proofs.Ytlgebaofkolkoaa
