/- 'IndexPlays' is true of the given program, whatever the arguments: each function was gone through once, on a machine that is proved to do what the model does. No condition. -/
import Derived.Test.YtlgebaofkolkoaaRows
import Derived.Test.YtlgebaofkolkoaaGF
import Derived.WalkKit
import Derived.ProofKit
import Derived.OpenShut
import Derived.ShutString
import Derived.ChangeOld
import Derived.Below
namespace Go.Proofs.Ytlgebaofkolkoaa
open Go.ChangeShapes Go.WideShapes Go.ChangeAt Go.RowKit
open Go.ChangeMaps (open_string shut_string)
set_option linter.unusedVariables false
theorem indexPlaysOwn : ownKnob Try.prog.godebug = none := by kernel_rfl
theorem indexPlaysLaid : laidOutB Try.prog = true := by kernel_rfl
theorem indexPlaysWalk (a0 : Option Addr) (len0 cap0 : Nat) (a1 : Int) (w : World) (w0 : ∃ x, Am.R (fun _ => none) (Am.oldMem w) x (.slice a0 len0 cap0) ∧ Am.Arg Try.prog 65 [x]) (w1 : (Lit.int .i8 a1).wf = true) : Calls Try.prog 8 #[.slice a0 len0 cap0, .int .i8 a1] w fun e w' => e = .returned (.bool true) ∧ Below w.heap.size w w' := by
  obtain ⟨v0, hr0, hv0⟩ := w0
  refine (Am.calls_of (E := Am.Ytlgebaofkolkoaa.env) (Am.Ytlgebaofkolkoaa.law8 v0 hv0 a1 w1) (Am.rl_list [v0, .int .i8 a1] #[.slice a0 len0 cap0, .int .i8 a1] (.cons hr0 (.cons (.int _ _) .nil)))).mono fun e w' hh => ?_
  obtain ⟨v, h, n, x, ρ', rfl, rfl, hx, hb⟩ := hh
  exact ⟨by rw [hx.bool_inv], hb⟩
set_option maxRecDepth 100000 in
theorem indexPlaysLifted (os : Os) (started : os.Started) (H : Type) (enc : TypeId × Value → H) :
    ReturnsInHanded {} Try.checked os 8 .any (Rows.indexPlaysSpec.pre6 enc Try.prog Try.f8 Rows.indexPlaysRow.domain false) (Rows.indexPlaysSpec.post enc Try.prog Try.f8 false true false false) := by
  refine returnsInHanded_of_change (C := Try.checked) indexPlaysOwn started (by kernel_rfl) Try.func8
    (ChangeSpec.witness6 (enc := enc) (C := Try.checked) false ⟨#[], #[.slice none 0 0, .int .i8 0], []⟩ 8 (by kernel_rfl) (by kernel_rfl) (by kernel_rfl) (by kernel_rfl)) ?_
  intro W dN args ds gs before hval0 hW hcnd _
  have hval : ∀ (j : Nat) t v, Try.f8.params[j]? = some t → args[j]? = some v → Value.okWide Try.prog W .any dN t v := hval0
  have hW' := hW
  obtain ⟨p, q, hA0, hV, rfl, hfz, hnd⟩ := hW
  have hA : DataW.TrodAll enc Try.prog W 0 (fun _ => true) true Try.f8.params.toList args.toList ds p := hA0
  rw [Try.params8] at hA hval
  obtain ⟨v0, vs0, d0, ds0, p0, q0, hargs, rfl, rfl, h0, r0⟩ := trodAll_cons hA
  obtain ⟨v1, vs1, d1, ds1, p1, q1, rfl, rfl, rfl, h1, r1⟩ := trodAll_cons r0
  obtain ⟨rfl, rfl, rfl⟩ := trodAll_nil r1
  obtain rfl : args = #[v0, v1] := by cases args; simp_all
  obtain ⟨rfl, rfl⟩ := trodVars_none hV
  obtain ⟨a0, len0, cap0, rfl⟩ := okWide_slice Try.underlying65 (hval 0 65 v0 rfl rfl)
  have k0 := h0
  have lt0 : ∀ x ∈ p0, x.block < W.heap.size := by obtain ⟨m, hm⟩ := k0; exact DataW.trod_lt m _ _ _ hm
  have w0 : ∃ x, Am.R (fun _ => none) (Am.oldMem W) x (.slice a0 len0 cap0) ∧ Am.Arg Try.prog 65 [x] := by
    obtain ⟨fuel, hf⟩ := h0
    obtain ⟨vs, r, g⟩ := Am.arg_of_trod indexPlaysLaid fuel 65 _ _ (by kernel_rfl) hf
    simp [Value.cells] at r
    cases r with
    | cons r1 r2 => cases r2; exact ⟨_, r1, g⟩
  obtain ⟨a1, rfl, rfl, rfl, w1⟩ := open_int Try.underlying76 (hval 1 76 v1 rfl rfl) h1
  clear hA0 hval0
  refine (indexPlaysWalk a0 len0 cap0 a1 W w0 w1).mono fun e W' ⟨he, bel⟩ => ?_
  subst he
  exact ⟨_, rfl, _, _, _, [], _, [], hW', trodAll_mk1 (shut_bool Try.underlying4 _), (trodAll_cons_mk (Below.trod indexPlaysLaid (by kernel_rfl) (of_decide_eq_true (by kernel_rfl)) k0 bel lt0) (trodAll_cons_mk (shut_int Try.underlying76 w1) trodAll_mk0)), rfl, bel.frame _, fun h => by cases h⟩
theorem indexPlaysProved : Rows.IndexPlaysSaid :=
  OpenClaim.holds_of_wide 8 Try.f8 rfl rfl rfl rfl rfl rfl rfl ⟨rfl, rfl, rfl, rfl, rfl⟩ rfl rfl rfl rfl rfl (by kernel_rfl) Try.func8 (by kernel_rfl)
    (of_decide_eq_true (by kernel_rfl)) (by unfold Func.isWrapper; first | (rw [if_pos (by decide +kernel)]; kernel_rfl) | (rw [if_neg (by decide +kernel)]; exact ⟨rfl, rfl⟩))
    (fun os started H enc _ => indexPlaysLifted os started H enc)
#print axioms indexPlaysProved
end Go.Proofs.Ytlgebaofkolkoaa
