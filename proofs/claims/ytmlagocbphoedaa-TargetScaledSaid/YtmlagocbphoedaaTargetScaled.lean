/- 'TargetScaled' is true of the given program, whatever the arguments: each function was gone through once, on a machine that is proved to do what the model does. No condition. -/
import Derived.Test.YtmlagocbphoedaaRows
import Derived.Test.YtmlagocbphoedaaTgSdE
import Derived.WalkKit
import Derived.ProofKit
import Derived.OpenShut
import Derived.ShutString
import Derived.ChangeOld
import Derived.Below
namespace Go.Proofs.Ytmlagocbphoedaa
open Go.ChangeShapes Go.WideShapes Go.ChangeAt Go.RowKit
open Go.ChangeMaps (open_string shut_string)
set_option linter.unusedVariables false
theorem targetScaledOwn : ownKnob Try.prog.godebug = none := by kernel_rfl
theorem targetScaledLaid : laidOutB Try.prog = true := by kernel_rfl
theorem targetScaledWalk (c0 : Array Value) (a1 : Int) (a2 : Int) (c3 : Array Value) (w : World) (w0 : ∃ x, Am.RV (fun _ => none) (Am.oldMem w) x c0.toList ∧ Am.Arg Try.prog 25 x) (w1 : (Lit.int .u64 a1).wf = true) (w2 : (Lit.int .u64 a2).wf = true) (w3 : ∃ x, Am.RV (fun _ => none) (Am.oldMem w) x c3.toList ∧ Am.Arg Try.prog 25 x) : Calls Try.prog 7 #[.agg c0, .int .u64 a1, .int .u64 a2, .agg c3] w fun e w' => e = .returned (.bool true) ∧ Below w.heap.size w w' := by
  obtain ⟨v0, hq0, hv0⟩ := w0
  have hr0 := Am.r_agg hq0
  obtain ⟨v3, hq3, hv3⟩ := w3
  have hr3 := Am.r_agg hq3
  refine (Am.calls_of (E := Am.Ytmlagocbphoedaa.env) (Am.Ytmlagocbphoedaa.law7 v0 hv0 a1 w1 a2 w2 v3 hv3) (Am.rl_list [.agg v0, .int .u64 a1, .int .u64 a2, .agg v3] #[.agg c0, .int .u64 a1, .int .u64 a2, .agg c3] (.cons hr0 (.cons (.int _ _) (.cons (.int _ _) (.cons hr3 .nil)))))).mono fun e w' hh => ?_
  obtain ⟨v, h, n, x, ρ', rfl, rfl, hx, hb⟩ := hh
  exact ⟨by rw [hx.bool_inv], hb⟩
set_option maxRecDepth 100000 in
theorem targetScaledLifted (os : Os) (started : os.Started) (H : Type) (enc : TypeId × Value → H) :
    ReturnsInHanded {} Try.checked os 7 .any (Rows.targetScaledSpec.pre6 enc Try.prog Try.f7 Rows.targetScaledRow.domain false) (Rows.targetScaledSpec.post enc Try.prog Try.f7 false true false false) := by
  refine returnsInHanded_of_change (C := Try.checked) targetScaledOwn started (by kernel_rfl) Try.func7
    (ChangeSpec.witness6 (enc := enc) (C := Try.checked) false ⟨#[], #[.agg #[.int .u64 0, .int .u64 0, .int .u64 0, .int .u64 0], .int .u64 0, .int .u64 0, .agg #[.int .u64 0, .int .u64 0, .int .u64 0, .int .u64 0]], []⟩ 8 (by kernel_rfl) (by kernel_rfl) (by kernel_rfl) (by kernel_rfl)) ?_
  intro W base args ds gs before hval0 hW hcnd _
  have hval : ∀ (j : Nat) t v, Try.f7.params[j]? = some t → args[j]? = some v → Value.okWide Try.prog W .any base t v := hval0
  have hW' := hW
  obtain ⟨p, q, hA0, hV, rfl, hfz, hnd⟩ := hW
  have hA : DataW.TrodAll enc Try.prog W 0 (fun _ => true) true Try.f7.params.toList args.toList ds p := hA0
  rw [Try.params7] at hA hval
  obtain ⟨v0, vs0, d0, ds0, p0, q0, hargs, rfl, rfl, h0, r0⟩ := trodAll_cons hA
  obtain ⟨v1, vs1, d1, ds1, p1, q1, rfl, rfl, rfl, h1, r1⟩ := trodAll_cons r0
  obtain ⟨v2, vs2, d2, ds2, p2, q2, rfl, rfl, rfl, h2, r2⟩ := trodAll_cons r1
  obtain ⟨v3, vs3, d3, ds3, p3, q3, rfl, rfl, rfl, h3, r3⟩ := trodAll_cons r2
  obtain ⟨rfl, rfl, rfl⟩ := trodAll_nil r3
  obtain rfl : args = #[v0, v1, v2, v3] := by cases args; simp_all
  obtain ⟨rfl, rfl⟩ := trodVars_none hV
  obtain ⟨c0, rfl⟩ := Am.okWide_agg (by rw [Try.underlying25]) (hval 0 25 v0 rfl rfl)
  have k0 := h0
  have lt0 : ∀ x ∈ p0, x.block < W.heap.size := by obtain ⟨m, hm⟩ := k0; exact DataW.trod_lt m _ _ _ hm
  have w0 : ∃ x, Am.RV (fun _ => none) (Am.oldMem W) x c0.toList ∧ Am.Arg Try.prog 25 x := by
    obtain ⟨fuel, hf⟩ := h0
    exact Am.arg_of_trod targetScaledLaid fuel 25 _ _ (by kernel_rfl) hf
  obtain ⟨a1, rfl, rfl, rfl, w1⟩ := open_int Try.underlying23 (hval 1 23 v1 rfl rfl) h1
  obtain ⟨a2, rfl, rfl, rfl, w2⟩ := open_int Try.underlying23 (hval 2 23 v2 rfl rfl) h2
  obtain ⟨c3, rfl⟩ := Am.okWide_agg (by rw [Try.underlying25]) (hval 3 25 v3 rfl rfl)
  have k3 := h3
  have lt3 : ∀ x ∈ p3, x.block < W.heap.size := by obtain ⟨m, hm⟩ := k3; exact DataW.trod_lt m _ _ _ hm
  have w3 : ∃ x, Am.RV (fun _ => none) (Am.oldMem W) x c3.toList ∧ Am.Arg Try.prog 25 x := by
    obtain ⟨fuel, hf⟩ := h3
    exact Am.arg_of_trod targetScaledLaid fuel 25 _ _ (by kernel_rfl) hf
  clear hA0 hval0
  refine (targetScaledWalk c0 a1 a2 c3 W w0 w1 w2 w3).mono fun e W' ⟨he, bel⟩ => ?_
  subst he
  exact ⟨_, rfl, _, _, _, [], _, [], hW', trodAll_mk1 (shut_bool Try.underlying4 _), (trodAll_cons_mk (Below.trod targetScaledLaid (by kernel_rfl) (of_decide_eq_true (by kernel_rfl)) k0 bel lt0) (trodAll_cons_mk (shut_int Try.underlying23 w1) (trodAll_cons_mk (shut_int Try.underlying23 w2) (trodAll_cons_mk (Below.trod targetScaledLaid (by kernel_rfl) (of_decide_eq_true (by kernel_rfl)) k3 bel lt3) trodAll_mk0)))), rfl, bel.frame _, fun h => by cases h⟩
theorem targetScaledProved : Rows.TargetScaledSaid :=
  OpenClaim.holds_of_wide 7 Try.f7 rfl rfl rfl rfl rfl rfl rfl ⟨rfl, rfl, rfl, rfl, rfl⟩ rfl rfl rfl rfl rfl (by kernel_rfl) Try.func7 (by kernel_rfl)
    (of_decide_eq_true (by kernel_rfl)) (by unfold Func.isWrapper; first | (rw [if_pos (by decide +kernel)]; kernel_rfl) | (rw [if_neg (by decide +kernel)]; exact ⟨rfl, rfl⟩))
    (fun os started H enc _ => targetScaledLifted os started H enc)
#print axioms targetScaledProved
end Go.Proofs.Ytmlagocbphoedaa
