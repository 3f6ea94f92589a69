/- 'TargetForms' is true of the given program, whatever the arguments: each function was gone through once, on a machine that is proved to do what the model does. No condition. -/
import Derived.Test.YtmlagocbphoedaaRows
import Derived.Test.YtmlagocbphoedaaTgFoE
import Derived.WalkKit
import Derived.ProofKit
import Derived.OpenShut
import Derived.ShutString
import Derived.ChangeOld
import Derived.Below
namespace Go.Proofs.Ytmlagocbphoedaa
open Go.ChangeShapes Go.WideShapes Go.ChangeAt Go.RowKit
open Go.ChangeMaps (open_string shut_string)
set_option linter.unusedVariables false
theorem targetFormsOwn : ownKnob Try.prog.godebug = none := by kernel_rfl
theorem targetFormsLaid : laidOutB Try.prog = true := by kernel_rfl
theorem targetFormsWalk (a0 : Int) (c1 : Array Value) (c2 : Array Value) (w : World) (w0 : (Lit.int .u32 a0).wf = true) (w1 : ∃ x, Am.RV (fun _ => none) (Am.oldMem w) x c1.toList ∧ Am.Arg Try.prog 25 x) (w2 : ∃ x, Am.RV (fun _ => none) (Am.oldMem w) x c2.toList ∧ Am.Arg Try.prog 47 x) : Calls Try.prog 5 #[.int .u32 a0, .agg c1, .agg c2] w fun e w' => e = .returned (.bool true) ∧ Below w.heap.size w w' := by
  obtain ⟨v1, hq1, hv1⟩ := w1
  have hr1 := Am.r_agg hq1
  obtain ⟨v2, hq2, hv2⟩ := w2
  have hr2 := Am.r_agg hq2
  refine (Am.calls_of (E := Am.Ytmlagocbphoedaa.env) (Am.Ytmlagocbphoedaa.law5 a0 w0 v1 hv1 v2 hv2) (Am.rl_list [.int .u32 a0, .agg v1, .agg v2] #[.int .u32 a0, .agg c1, .agg c2] (.cons (.int _ _) (.cons hr1 (.cons hr2 .nil))))).mono fun e w' hh => ?_
  obtain ⟨v, h, n, x, ρ', rfl, rfl, hx, hb⟩ := hh
  exact ⟨by rw [hx.bool_inv], hb⟩
set_option maxRecDepth 100000 in
theorem targetFormsLifted (os : Os) (started : os.Started) (H : Type) (enc : TypeId × Value → H) :
    ReturnsInHanded {} Try.checked os 5 .any (Rows.targetFormsSpec.pre6 enc Try.prog Try.f5 Rows.targetFormsRow.domain false) (Rows.targetFormsSpec.post enc Try.prog Try.f5 false true false false) := by
  refine returnsInHanded_of_change (C := Try.checked) targetFormsOwn started (by kernel_rfl) Try.func5
    (ChangeSpec.witness6 (enc := enc) (C := Try.checked) false ⟨#[], #[.int .u32 0, .agg #[.int .u64 0, .int .u64 0, .int .u64 0, .int .u64 0], .agg #[.int .u8 0, .int .u8 0, .int .u8 0, .int .u8 0, .int .u8 0, .int .u8 0, .int .u8 0, .int .u8 0, .int .u8 0, .int .u8 0, .int .u8 0, .int .u8 0, .int .u8 0, .int .u8 0, .int .u8 0, .int .u8 0, .int .u8 0, .int .u8 0, .int .u8 0, .int .u8 0, .int .u8 0, .int .u8 0, .int .u8 0, .int .u8 0, .int .u8 0, .int .u8 0, .int .u8 0, .int .u8 0, .int .u8 0, .int .u8 0, .int .u8 0, .int .u8 0]], []⟩ 8 (by kernel_rfl) (by kernel_rfl) (by kernel_rfl) (by kernel_rfl)) ?_
  intro W base args ds gs before hval0 hW hcnd _
  have hval : ∀ (j : Nat) t v, Try.f5.params[j]? = some t → args[j]? = some v → Value.okWide Try.prog W .any base t v := hval0
  have hW' := hW
  obtain ⟨p, q, hA0, hV, rfl, hfz, hnd⟩ := hW
  have hA : DataW.TrodAll enc Try.prog W 0 (fun _ => true) true Try.f5.params.toList args.toList ds p := hA0
  rw [Try.params5] at hA hval
  obtain ⟨v0, vs0, d0, ds0, p0, q0, hargs, rfl, rfl, h0, r0⟩ := trodAll_cons hA
  obtain ⟨v1, vs1, d1, ds1, p1, q1, rfl, rfl, rfl, h1, r1⟩ := trodAll_cons r0
  obtain ⟨v2, vs2, d2, ds2, p2, q2, rfl, rfl, rfl, h2, r2⟩ := trodAll_cons r1
  obtain ⟨rfl, rfl, rfl⟩ := trodAll_nil r2
  obtain rfl : args = #[v0, v1, v2] := by cases args; simp_all
  obtain ⟨rfl, rfl⟩ := trodVars_none hV
  obtain ⟨a0, rfl, rfl, rfl, w0⟩ := open_int Try.underlying35 (hval 0 35 v0 rfl rfl) h0
  obtain ⟨c1, rfl⟩ := Am.okWide_agg (by rw [Try.underlying25]) (hval 1 25 v1 rfl rfl)
  have k1 := h1
  have lt1 : ∀ x ∈ p1, x.block < W.heap.size := by obtain ⟨m, hm⟩ := k1; exact DataW.trod_lt m _ _ _ hm
  have w1 : ∃ x, Am.RV (fun _ => none) (Am.oldMem W) x c1.toList ∧ Am.Arg Try.prog 25 x := by
    obtain ⟨fuel, hf⟩ := h1
    exact Am.arg_of_trod targetFormsLaid fuel 25 _ _ (by kernel_rfl) hf
  obtain ⟨c2, rfl⟩ := Am.okWide_agg (by rw [Try.underlying47]) (hval 2 47 v2 rfl rfl)
  have k2 := h2
  have lt2 : ∀ x ∈ p2, x.block < W.heap.size := by obtain ⟨m, hm⟩ := k2; exact DataW.trod_lt m _ _ _ hm
  have w2 : ∃ x, Am.RV (fun _ => none) (Am.oldMem W) x c2.toList ∧ Am.Arg Try.prog 47 x := by
    obtain ⟨fuel, hf⟩ := h2
    exact Am.arg_of_trod targetFormsLaid fuel 47 _ _ (by kernel_rfl) hf
  clear hA0 hval0
  refine (targetFormsWalk a0 c1 c2 W w0 w1 w2).mono fun e W' ⟨he, bel⟩ => ?_
  subst he
  exact ⟨_, rfl, _, _, _, [], _, [], hW', trodAll_mk1 (shut_bool Try.underlying4 _), (trodAll_cons_mk (shut_int Try.underlying35 w0) (trodAll_cons_mk (Below.trod targetFormsLaid (by kernel_rfl) (of_decide_eq_true (by kernel_rfl)) k1 bel lt1) (trodAll_cons_mk (Below.trod targetFormsLaid (by kernel_rfl) (of_decide_eq_true (by kernel_rfl)) k2 bel lt2) trodAll_mk0))), rfl, bel.frame _, fun h => by cases h⟩
theorem targetFormsProved : Rows.TargetFormsSaid :=
  OpenClaim.holds_of_wide 5 Try.f5 rfl rfl rfl rfl rfl rfl rfl ⟨rfl, rfl, rfl, rfl, rfl⟩ rfl rfl rfl rfl rfl (by kernel_rfl) Try.func5 (by kernel_rfl)
    (of_decide_eq_true (by kernel_rfl)) (by unfold Func.isWrapper; first | (rw [if_pos (by decide +kernel)]; kernel_rfl) | (rw [if_neg (by decide +kernel)]; exact ⟨rfl, rfl⟩))
    (fun os started H enc _ => targetFormsLifted os started H enc)
#print axioms targetFormsProved
end Go.Proofs.Ytmlagocbphoedaa
