/- 'TargetScales' is true of the given program, whatever the arguments: each function was gone through once, on a machine that is proved to do what the model does. No condition. -/
import Derived.Test.YtmlagocbphoedaaRows
import Derived.Test.YtmlagocbphoedaaTgScD
import Derived.WalkKit
import Derived.ProofKit
import Derived.OpenShut
import Derived.ShutString
import Derived.ChangeOld
import Derived.Below
namespace Go.Proofs.Ytmlagocbphoedaa
open Go.ChangeShapes Go.WideShapes Go.ChangeAt Go.RowKit
open Go.ChangeMaps (open_string shut_string)
set_option linter.unusedVariables false
theorem targetScalesOwn : ownKnob Try.prog.godebug = none := by kernel_rfl
theorem targetScalesLaid : laidOutB Try.prog = true := by kernel_rfl
theorem targetScalesWalk (a0 : Option Addr) (len0 cap0 : Nat) (c1 : Array Value) (a2 : Int) (a3 : Int) (c4 : Array Value) (w : World) (w0 : ∃ x, Am.R (fun _ => none) (Am.oldMem w) x (.slice a0 len0 cap0) ∧ Am.Arg Try.prog 22 [x]) (w1 : ∃ x, Am.RV (fun _ => none) (Am.oldMem w) x c1.toList ∧ Am.Arg Try.prog 25 x) (w2 : (Lit.int .u64 a2).wf = true) (w3 : (Lit.int .u64 a3).wf = true) (w4 : ∃ x, Am.RV (fun _ => none) (Am.oldMem w) x c4.toList ∧ Am.Arg Try.prog 25 x) : Calls Try.prog 3 #[.slice a0 len0 cap0, .agg c1, .int .u64 a2, .int .u64 a3, .agg c4] w fun e w' => e = .returned (.bool true) ∧ Below w.heap.size w w' := by
  obtain ⟨v0, hr0, hv0⟩ := w0
  obtain ⟨v1, hq1, hv1⟩ := w1
  have hr1 := Am.r_agg hq1
  obtain ⟨v4, hq4, hv4⟩ := w4
  have hr4 := Am.r_agg hq4
  refine (Am.calls_of (E := Am.Ytmlagocbphoedaa.env) (Am.Ytmlagocbphoedaa.law3 v0 hv0 v1 hv1 a2 w2 a3 w3 v4 hv4) (Am.rl_list [v0, .agg v1, .int .u64 a2, .int .u64 a3, .agg v4] #[.slice a0 len0 cap0, .agg c1, .int .u64 a2, .int .u64 a3, .agg c4] (.cons hr0 (.cons hr1 (.cons (.int _ _) (.cons (.int _ _) (.cons hr4 .nil))))))).mono fun e w' hh => ?_
  obtain ⟨v, h, n, x, ρ', rfl, rfl, hx, hb⟩ := hh
  exact ⟨by rw [hx.bool_inv], hb⟩
set_option maxRecDepth 100000 in
theorem targetScalesLifted (os : Os) (started : os.Started) (H : Type) (enc : TypeId × Value → H) :
    ReturnsInHanded {} Try.checked os 3 .any (Rows.targetScalesSpec.pre6 enc Try.prog Try.f3 Rows.targetScalesRow.domain false) (Rows.targetScalesSpec.post enc Try.prog Try.f3 false true false false) := by
  refine returnsInHanded_of_change (C := Try.checked) targetScalesOwn started (by kernel_rfl) Try.func3
    (ChangeSpec.witness6 (enc := enc) (C := Try.checked) false ⟨#[], #[.slice none 0 0, .agg #[.int .u64 0, .int .u64 0, .int .u64 0, .int .u64 0], .int .u64 0, .int .u64 0, .agg #[.int .u64 0, .int .u64 0, .int .u64 0, .int .u64 0]], []⟩ 8 (by kernel_rfl) (by kernel_rfl) (by kernel_rfl) (by kernel_rfl)) ?_
  intro W base args ds gs before hval0 hW hcnd _
  have hval : ∀ (j : Nat) t v, Try.f3.params[j]? = some t → args[j]? = some v → Value.okWide Try.prog W .any base t v := hval0
  have hW' := hW
  obtain ⟨p, q, hA0, hV, rfl, hfz, hnd⟩ := hW
  have hA : DataW.TrodAll enc Try.prog W 0 (fun _ => true) true Try.f3.params.toList args.toList ds p := hA0
  rw [Try.params3] at hA hval
  obtain ⟨v0, vs0, d0, ds0, p0, q0, hargs, rfl, rfl, h0, r0⟩ := trodAll_cons hA
  obtain ⟨v1, vs1, d1, ds1, p1, q1, rfl, rfl, rfl, h1, r1⟩ := trodAll_cons r0
  obtain ⟨v2, vs2, d2, ds2, p2, q2, rfl, rfl, rfl, h2, r2⟩ := trodAll_cons r1
  obtain ⟨v3, vs3, d3, ds3, p3, q3, rfl, rfl, rfl, h3, r3⟩ := trodAll_cons r2
  obtain ⟨v4, vs4, d4, ds4, p4, q4, rfl, rfl, rfl, h4, r4⟩ := trodAll_cons r3
  obtain ⟨rfl, rfl, rfl⟩ := trodAll_nil r4
  obtain rfl : args = #[v0, v1, v2, v3, v4] := by cases args; simp_all
  obtain ⟨rfl, rfl⟩ := trodVars_none hV
  obtain ⟨a0, len0, cap0, rfl⟩ := okWide_slice Try.underlying22 (hval 0 22 v0 rfl rfl)
  have k0 := h0
  have lt0 : ∀ x ∈ p0, x.block < W.heap.size := by obtain ⟨m, hm⟩ := k0; exact DataW.trod_lt m _ _ _ hm
  have w0 : ∃ x, Am.R (fun _ => none) (Am.oldMem W) x (.slice a0 len0 cap0) ∧ Am.Arg Try.prog 22 [x] := by
    obtain ⟨fuel, hf⟩ := h0
    obtain ⟨vs, r, g⟩ := Am.arg_of_trod targetScalesLaid fuel 22 _ _ (by kernel_rfl) hf
    simp [Value.cells] at r
    cases r with
    | cons r1 r2 => cases r2; exact ⟨_, r1, g⟩
  obtain ⟨c1, rfl⟩ := Am.okWide_agg (by rw [Try.underlying25]) (hval 1 25 v1 rfl rfl)
  have k1 := h1
  have lt1 : ∀ x ∈ p1, x.block < W.heap.size := by obtain ⟨m, hm⟩ := k1; exact DataW.trod_lt m _ _ _ hm
  have w1 : ∃ x, Am.RV (fun _ => none) (Am.oldMem W) x c1.toList ∧ Am.Arg Try.prog 25 x := by
    obtain ⟨fuel, hf⟩ := h1
    exact Am.arg_of_trod targetScalesLaid fuel 25 _ _ (by kernel_rfl) hf
  obtain ⟨a2, rfl, rfl, rfl, w2⟩ := open_int Try.underlying23 (hval 2 23 v2 rfl rfl) h2
  obtain ⟨a3, rfl, rfl, rfl, w3⟩ := open_int Try.underlying23 (hval 3 23 v3 rfl rfl) h3
  obtain ⟨c4, rfl⟩ := Am.okWide_agg (by rw [Try.underlying25]) (hval 4 25 v4 rfl rfl)
  have k4 := h4
  have lt4 : ∀ x ∈ p4, x.block < W.heap.size := by obtain ⟨m, hm⟩ := k4; exact DataW.trod_lt m _ _ _ hm
  have w4 : ∃ x, Am.RV (fun _ => none) (Am.oldMem W) x c4.toList ∧ Am.Arg Try.prog 25 x := by
    obtain ⟨fuel, hf⟩ := h4
    exact Am.arg_of_trod targetScalesLaid fuel 25 _ _ (by kernel_rfl) hf
  clear hA0 hval0
  refine (targetScalesWalk a0 len0 cap0 c1 a2 a3 c4 W w0 w1 w2 w3 w4).mono fun e W' ⟨he, bel⟩ => ?_
  subst he
  exact ⟨_, rfl, _, _, _, [], _, [], hW', trodAll_mk1 (shut_bool Try.underlying4 _), (trodAll_cons_mk (Below.trod targetScalesLaid (by kernel_rfl) (of_decide_eq_true (by kernel_rfl)) k0 bel lt0) (trodAll_cons_mk (Below.trod targetScalesLaid (by kernel_rfl) (of_decide_eq_true (by kernel_rfl)) k1 bel lt1) (trodAll_cons_mk (shut_int Try.underlying23 w2) (trodAll_cons_mk (shut_int Try.underlying23 w3) (trodAll_cons_mk (Below.trod targetScalesLaid (by kernel_rfl) (of_decide_eq_true (by kernel_rfl)) k4 bel lt4) trodAll_mk0))))), rfl, bel.frame _, fun h => by cases h⟩
theorem targetScalesProved : Rows.TargetScalesSaid :=
  OpenClaim.holds_of_wide 3 Try.f3 rfl rfl rfl rfl rfl rfl rfl ⟨rfl, rfl, rfl, rfl, rfl⟩ rfl rfl rfl rfl rfl (by kernel_rfl) Try.func3 (by kernel_rfl)
    (of_decide_eq_true (by kernel_rfl)) (by unfold Func.isWrapper; first | (rw [if_pos (by decide +kernel)]; kernel_rfl) | (rw [if_neg (by decide +kernel)]; exact ⟨rfl, rfl⟩))
    (fun os started H enc _ => targetScalesLifted os started H enc)
#print axioms targetScalesProved
end Go.Proofs.Ytmlagocbphoedaa
