/- 'StoreSums' is true of the given program, whatever the arguments: each function was gone through once, on a machine that is proved to do what the model does. No condition. -/
import Derived.Test.YtlgebaofkolkoaaRows
import Derived.Test.YtlgebaofkolkoaaGF
import Derived.WalkKit
import Derived.ProofKit
import Derived.OpenShut
import Derived.ShutString
import Derived.ChangeOld
import Derived.Below
namespace Go.Proofs.Ytlgebaofkolkoaa
open Go.ChangeShapes Go.WideShapes Go.ChangeAt Go.RowKit
open Go.ChangeMaps (open_string shut_string)
set_option linter.unusedVariables false
theorem storeSumsOwn : ownKnob Try.prog.godebug = none := by kernel_rfl
theorem storeSumsLaid : laidOutB Try.prog = true := by kernel_rfl
theorem storeSumsWalk (a0 : Option Addr) (len0 cap0 : Nat) (w : World) (w0 : ∃ x, Am.R (fun _ => none) (Am.j7 w) x (.slice a0 len0 cap0) ∧ Am.Arg Try.prog 101 [x]) : Calls Try.prog 11 #[.slice a0 len0 cap0] w fun e w' => e = .returned (.bool true) ∧ Below w.heap.size w w' := by
  obtain ⟨v0, hr0, hv0⟩ := w0
  refine (Am.Q9 (E := Am.Ytlgebaofkolkoaa.env) (Am.Ytlgebaofkolkoaa.am8 v0 hv0) (Am.S4 [v0] #[.slice a0 len0 cap0] (.cons hr0 .nil))).mono fun e w' hh => ?_
  obtain ⟨v, h, n, x, ρ', rfl, rfl, hx, hb⟩ := hh
  exact ⟨by rw [hx.iJ], hb⟩
set_option maxRecDepth 100000 in
theorem storeSumsLifted (os : Os) (started : os.Started) (H : Type) (enc : TypeId × Value → H) :
    ReturnsInHanded {} Try.checked os 11 .any (Rows.storeSumsSpec.pre6 enc Try.prog Try.f11 Rows.storeSumsRow.domain false) (Rows.storeSumsSpec.post enc Try.prog Try.f11 false true false false) := by
  refine returnsInHanded_of_change (C := Try.checked) storeSumsOwn started (by kernel_rfl) Try.func11
    (ChangeSpec.witness6 (enc := enc) (C := Try.checked) false ⟨#[], #[.slice none 0 0], []⟩ 8 (by kernel_rfl) (by kernel_rfl) (by kernel_rfl) (by kernel_rfl)) ?_
  intro W dH args ds gs before hval0 hW hcnd _
  have hval : ∀ (j : Nat) t v, Try.f11.params[j]? = some t → args[j]? = some v → Value.okWide Try.prog W .any dH t v := hval0
  have hW' := hW
  obtain ⟨p, q, hA0, hV, rfl, hfz, hnd⟩ := hW
  have hA : DataW.TrodAll enc Try.prog W 0 (fun _ => true) true Try.f11.params.toList args.toList ds p := hA0
  rw [Try.params11] at hA hval
  obtain ⟨v0, vs0, d0, ds0, p0, q0, hargs, rfl, rfl, h0, r0⟩ := trodAll_cons hA
  obtain ⟨rfl, rfl, rfl⟩ := trodAll_nil r0
  obtain rfl : args = #[v0] := by cases args; simp_all
  obtain ⟨rfl, rfl⟩ := trodVars_none hV
  obtain ⟨a0, len0, cap0, rfl⟩ := okWide_slice Try.underlying101 (hval 0 101 v0 rfl rfl)
  have k0 := h0
  have lt0 : ∀ x ∈ p0, x.block < W.heap.size := by obtain ⟨m, hm⟩ := k0; exact DataW.trod_lt m _ _ _ hm
  have w0 : ∃ x, Am.R (fun _ => none) (Am.j7 W) x (.slice a0 len0 cap0) ∧ Am.Arg Try.prog 101 [x] := by
    obtain ⟨fuel, hf⟩ := h0
    obtain ⟨vs, r, g⟩ := Am.EV storeSumsLaid fuel 101 _ _ (by kernel_rfl) hf
    simp [Value.cells] at r
    cases r with
    | cons r1 r2 => cases r2; exact ⟨_, r1, g⟩
  clear hA0 hval0
  refine (storeSumsWalk a0 len0 cap0 W w0).mono fun e W' ⟨he, bel⟩ => ?_
  subst he
  exact ⟨_, rfl, _, _, _, [], _, [], hW', trodAll_mk1 (shut_bool Try.underlying4 _), (trodAll_cons_mk (Below.trod storeSumsLaid (by kernel_rfl) (of_decide_eq_true (by kernel_rfl)) k0 bel lt0) trodAll_mk0), rfl, bel.frame _, fun h => by cases h⟩
theorem storeSumsProved : Rows.StoreSumsSaid :=
  OpenClaim.holds_of_wide 11 Try.f11 rfl rfl rfl rfl rfl rfl rfl ⟨rfl, rfl, rfl, rfl, rfl⟩ rfl rfl rfl rfl rfl (by kernel_rfl) Try.func11 (by kernel_rfl)
    (of_decide_eq_true (by kernel_rfl)) (by unfold Func.isWrapper; first | (rw [if_pos (by decide +kernel)]; kernel_rfl) | (rw [if_neg (by decide +kernel)]; exact ⟨rfl, rfl⟩))
    (fun os started H enc _ => storeSumsLifted os started H enc)
#print axioms storeSumsProved
end Go.Proofs.Ytlgebaofkolkoaa
