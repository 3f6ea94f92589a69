/- 'TargetWork' is true of the given program, whatever the arguments: each function was gone through once, on a machine that is proved to do what the model does. No condition. -/
import Derived.Test.YtmlagocbphoedaaRows
import Derived.Test.YtmlagocbphoedaaTgWoF
import Derived.WalkKit
import Derived.ProofKit
import Derived.OpenShut
import Derived.ShutString
import Derived.ChangeOld
import Derived.Below
namespace Go.Proofs.Ytmlagocbphoedaa
open Go.ChangeShapes Go.WideShapes Go.ChangeAt Go.RowKit
open Go.ChangeMaps (open_string shut_string)
set_option linter.unusedVariables false
theorem targetWorkOwn : ownKnob Try.prog.godebug = none := by kernel_rfl
theorem targetWorkLaid : laidOutB Try.prog = true := by kernel_rfl
theorem targetWorkWalk (c0 : Array Value) (c1 : Array Value) (w : World) (w0 : ∃ x, Am.RV (fun _ => none) (Am.oldMem w) x c0.toList ∧ Am.Arg Try.prog 25 x) (w1 : ∃ x, Am.RV (fun _ => none) (Am.oldMem w) x c1.toList ∧ Am.Arg Try.prog 25 x) : Calls Try.prog 6 #[.agg c0, .agg c1] w fun e w' => e = .returned (.bool true) ∧ Below w.heap.size w w' := by
  obtain ⟨v0, hq0, hv0⟩ := w0
  have hr0 := Am.r_agg hq0
  obtain ⟨v1, hq1, hv1⟩ := w1
  have hr1 := Am.r_agg hq1
  refine (Am.calls_of (E := Am.Ytmlagocbphoedaa.env) (Am.Ytmlagocbphoedaa.law6 v0 hv0 v1 hv1) (Am.rl_list [.agg v0, .agg v1] #[.agg c0, .agg c1] (.cons hr0 (.cons hr1 .nil)))).mono fun e w' hh => ?_
  obtain ⟨v, h, n, x, ρ', rfl, rfl, hx, hb⟩ := hh
  exact ⟨by rw [hx.bool_inv], hb⟩
set_option maxRecDepth 100000 in
theorem targetWorkLifted (os : Os) (started : os.Started) (H : Type) (enc : TypeId × Value → H) :
    ReturnsInHanded {} Try.checked os 6 .any (Rows.targetWorkSpec.pre6 enc Try.prog Try.f6 Rows.targetWorkRow.domain false) (Rows.targetWorkSpec.post enc Try.prog Try.f6 false true false false) := by
  refine returnsInHanded_of_change (C := Try.checked) targetWorkOwn started (by kernel_rfl) Try.func6
    (ChangeSpec.witness6 (enc := enc) (C := Try.checked) false ⟨#[], #[.agg #[.int .u64 0, .int .u64 0, .int .u64 0, .int .u64 0], .agg #[.int .u64 0, .int .u64 0, .int .u64 0, .int .u64 0]], []⟩ 8 (by kernel_rfl) (by kernel_rfl) (by kernel_rfl) (by kernel_rfl)) ?_
  intro W base args ds gs before hval0 hW hcnd _
  have hval : ∀ (j : Nat) t v, Try.f6.params[j]? = some t → args[j]? = some v → Value.okWide Try.prog W .any base t v := hval0
  have hW' := hW
  obtain ⟨p, q, hA0, hV, rfl, hfz, hnd⟩ := hW
  have hA : DataW.TrodAll enc Try.prog W 0 (fun _ => true) true Try.f6.params.toList args.toList ds p := hA0
  rw [Try.params6] at hA hval
  obtain ⟨v0, vs0, d0, ds0, p0, q0, hargs, rfl, rfl, h0, r0⟩ := trodAll_cons hA
  obtain ⟨v1, vs1, d1, ds1, p1, q1, rfl, rfl, rfl, h1, r1⟩ := trodAll_cons r0
  obtain ⟨rfl, rfl, rfl⟩ := trodAll_nil r1
  obtain rfl : args = #[v0, v1] := by cases args; simp_all
  obtain ⟨rfl, rfl⟩ := trodVars_none hV
  obtain ⟨c0, rfl⟩ := Am.okWide_agg (by rw [Try.underlying25]) (hval 0 25 v0 rfl rfl)
  have k0 := h0
  have lt0 : ∀ x ∈ p0, x.block < W.heap.size := by obtain ⟨m, hm⟩ := k0; exact DataW.trod_lt m _ _ _ hm
  have w0 : ∃ x, Am.RV (fun _ => none) (Am.oldMem W) x c0.toList ∧ Am.Arg Try.prog 25 x := by
    obtain ⟨fuel, hf⟩ := h0
    exact Am.arg_of_trod targetWorkLaid fuel 25 _ _ (by kernel_rfl) hf
  obtain ⟨c1, rfl⟩ := Am.okWide_agg (by rw [Try.underlying25]) (hval 1 25 v1 rfl rfl)
  have k1 := h1
  have lt1 : ∀ x ∈ p1, x.block < W.heap.size := by obtain ⟨m, hm⟩ := k1; exact DataW.trod_lt m _ _ _ hm
  have w1 : ∃ x, Am.RV (fun _ => none) (Am.oldMem W) x c1.toList ∧ Am.Arg Try.prog 25 x := by
    obtain ⟨fuel, hf⟩ := h1
    exact Am.arg_of_trod targetWorkLaid fuel 25 _ _ (by kernel_rfl) hf
  clear hA0 hval0
  refine (targetWorkWalk c0 c1 W w0 w1).mono fun e W' ⟨he, bel⟩ => ?_
  subst he
  exact ⟨_, rfl, _, _, _, [], _, [], hW', trodAll_mk1 (shut_bool Try.underlying4 _), (trodAll_cons_mk (Below.trod targetWorkLaid (by kernel_rfl) (of_decide_eq_true (by kernel_rfl)) k0 bel lt0) (trodAll_cons_mk (Below.trod targetWorkLaid (by kernel_rfl) (of_decide_eq_true (by kernel_rfl)) k1 bel lt1) trodAll_mk0)), rfl, bel.frame _, fun h => by cases h⟩
theorem targetWorkProved : Rows.TargetWorkSaid :=
  OpenClaim.holds_of_wide 6 Try.f6 rfl rfl rfl rfl rfl rfl rfl ⟨rfl, rfl, rfl, rfl, rfl⟩ rfl rfl rfl rfl rfl (by kernel_rfl) Try.func6 (by kernel_rfl)
    (of_decide_eq_true (by kernel_rfl)) (by unfold Func.isWrapper; first | (rw [if_pos (by decide +kernel)]; kernel_rfl) | (rw [if_neg (by decide +kernel)]; exact ⟨rfl, rfl⟩))
    (fun os started H enc _ => targetWorkLifted os started H enc)
#print axioms targetWorkProved
end Go.Proofs.Ytmlagocbphoedaa
