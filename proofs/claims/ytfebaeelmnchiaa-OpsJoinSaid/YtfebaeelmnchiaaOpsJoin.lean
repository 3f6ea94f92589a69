/- 'OpsJoin' is true of the given program, whatever the arguments: each function was gone through once, on a machine that is proved to do what the model does. No condition. -/
import Derived.Test.YtfebaeelmnchiaaRows
import Derived.Test.YtfebaeelmnchiaaOpsS
import Derived.WalkKit
import Derived.ProofKit
import Derived.OpenShut
import Derived.ShutString
import Derived.ChangeOld
import Derived.Below
namespace Go.Proofs.Ytfebaeelmnchiaa
open Go.ChangeShapes Go.WideShapes Go.ChangeAt Go.RowKit
open Go.ChangeMaps (open_string shut_string)
set_option linter.unusedVariables false
theorem opsJoinOwn : ownKnob Try.prog.godebug = none := by kernel_rfl
theorem opsJoinLaid : laidOutB Try.prog = true := by kernel_rfl
theorem opsJoinWalk (a0 : Option Addr) (len0 cap0 : Nat) (a1 : Option Addr) (len1 cap1 : Nat) (a2 : Option Addr) (len2 cap2 : Nat) (z2 : List Int) (w : World) (w0 : ∃ x, Am.R (fun _ => none) (Am.oldMem w) x (.slice a0 len0 cap0) ∧ Am.Arg Try.prog 22 [x]) (w1 : ∃ x, Am.R (fun _ => none) (Am.oldMem w) x (.slice a1 len1 cap1) ∧ Am.Arg Try.prog 22 [x]) (w2 : Am.IsRow .u8 w a2 len2 cap2 z2) : Calls Try.prog 3 #[.slice a0 len0 cap0, .slice a1 len1 cap1, .slice a2 len2 cap2] w fun e w' => e = .returned (.bool true) ∧ Below w.heap.size w w' := by
  obtain ⟨v0, hr0, hv0⟩ := w0
  obtain ⟨v1, hr1, hv1⟩ := w1
  obtain ⟨v2, hv2, hr2⟩ := Am.isRow_arg w2
  refine (Am.calls_of (E := Am.Ytfebaeelmnchiaa.env) (Am.Ytfebaeelmnchiaa.law3 v0 hv0 v1 hv1 v2 _ hv2) (Am.rl_list [v0, v1, v2] #[.slice a0 len0 cap0, .slice a1 len1 cap1, .slice a2 len2 cap2] (.cons hr0 (.cons hr1 (.cons hr2 .nil))))).mono fun e w' hh => ?_
  obtain ⟨v, h, n, x, ρ', rfl, rfl, hx, hb⟩ := hh
  exact ⟨by rw [hx.bool_inv], hb⟩
set_option maxRecDepth 100000 in
theorem opsJoinLifted (os : Os) (started : os.Started) (H : Type) (enc : TypeId × Value → H) :
    ReturnsInHanded {} Try.checked os 3 .any (Rows.opsJoinSpec.pre6 enc Try.prog Try.f3 Rows.opsJoinRow.domain false) (Rows.opsJoinSpec.post enc Try.prog Try.f3 false true false false) := by
  refine returnsInHanded_of_change (C := Try.checked) opsJoinOwn started (by kernel_rfl) Try.func3
    (ChangeSpec.witness6 (enc := enc) (C := Try.checked) false ⟨#[], #[.slice none 0 0, .slice none 0 0, .slice none 0 0], []⟩ 8 (by kernel_rfl) (by kernel_rfl) (by kernel_rfl) (by kernel_rfl)) ?_
  intro W base args ds gs before hval0 hW hcnd _
  have hval : ∀ (j : Nat) t v, Try.f3.params[j]? = some t → args[j]? = some v → Value.okWide Try.prog W .any base t v := hval0
  have hW' := hW
  obtain ⟨p, q, hA0, hV, rfl, hfz, hnd⟩ := hW
  have hA : DataW.TrodAll enc Try.prog W 0 (fun _ => true) true Try.f3.params.toList args.toList ds p := hA0
  rw [Try.params3] at hA hval
  obtain ⟨v0, vs0, d0, ds0, p0, q0, hargs, rfl, rfl, h0, r0⟩ := trodAll_cons hA
  obtain ⟨v1, vs1, d1, ds1, p1, q1, rfl, rfl, rfl, h1, r1⟩ := trodAll_cons r0
  obtain ⟨v2, vs2, d2, ds2, p2, q2, rfl, rfl, rfl, h2, r2⟩ := trodAll_cons r1
  obtain ⟨rfl, rfl, rfl⟩ := trodAll_nil r2
  obtain rfl : args = #[v0, v1, v2] := by cases args; simp_all
  obtain ⟨rfl, rfl⟩ := trodVars_none hV
  obtain ⟨a0, len0, cap0, rfl⟩ := okWide_slice Try.underlying22 (hval 0 22 v0 rfl rfl)
  have k0 := h0
  have lt0 : ∀ x ∈ p0, x.block < W.heap.size := by obtain ⟨m, hm⟩ := k0; exact DataW.trod_lt m _ _ _ hm
  have w0 : ∃ x, Am.R (fun _ => none) (Am.oldMem W) x (.slice a0 len0 cap0) ∧ Am.Arg Try.prog 22 [x] := by
    obtain ⟨fuel, hf⟩ := h0
    obtain ⟨vs, r, g⟩ := Am.arg_of_trod opsJoinLaid fuel 22 _ _ (by kernel_rfl) hf
    simp [Value.cells] at r
    cases r with
    | cons r1 r2 => cases r2; exact ⟨_, r1, g⟩
  obtain ⟨a1, len1, cap1, rfl⟩ := okWide_slice Try.underlying22 (hval 1 22 v1 rfl rfl)
  have k1 := h1
  have lt1 : ∀ x ∈ p1, x.block < W.heap.size := by obtain ⟨m, hm⟩ := k1; exact DataW.trod_lt m _ _ _ hm
  have w1 : ∃ x, Am.R (fun _ => none) (Am.oldMem W) x (.slice a1 len1 cap1) ∧ Am.Arg Try.prog 22 [x] := by
    obtain ⟨fuel, hf⟩ := h1
    obtain ⟨vs, r, g⟩ := Am.arg_of_trod opsJoinLaid fuel 22 _ _ (by kernel_rfl) hf
    simp [Value.cells] at r
    cases r with
    | cons r1 r2 => cases r2; exact ⟨_, r1, g⟩
  obtain ⟨a2, len2, cap2, rfl⟩ := okWide_slice Try.underlying23 (hval 2 23 v2 rfl rfl)
  have k2 := h2
  have lt2 : ∀ x ∈ p2, x.block < W.heap.size := by obtain ⟨m, hm⟩ := k2; exact DataW.trod_lt m _ _ _ hm
  obtain ⟨z2, w2⟩ : ∃ zs, Am.IsRow .u8 W a2 len2 cap2 zs := by
    obtain ⟨fuel, hf⟩ := h2
    rcases open_ints Try.underlying23 Try.underlying5 (by kernel_rfl) hf with ⟨hcs, _⟩ | ⟨x, l, c, zs, hcs, _, hl, hm, hz, _, hcell, hwz⟩
    · simp [Value.cells] at hcs
      obtain ⟨rfl, rfl, rfl⟩ := hcs
      exact ⟨[], .inl ⟨rfl, rfl, rfl, rfl⟩⟩
    · simp [Value.cells] at hcs
      obtain ⟨rfl, rfl, rfl⟩ := hcs
      exact ⟨zs, .inr ⟨_, rfl, hl, hm, by simpa using hz, hcell, hwz⟩⟩
  clear hA0 hval0
  refine (opsJoinWalk a0 len0 cap0 a1 len1 cap1 a2 len2 cap2 z2 W w0 w1 w2).mono fun e W' ⟨he, bel⟩ => ?_
  subst he
  exact ⟨_, rfl, _, _, _, [], _, [], hW', trodAll_mk1 (shut_bool Try.underlying4 _), (trodAll_cons_mk (Below.trod opsJoinLaid (by kernel_rfl) (of_decide_eq_true (by kernel_rfl)) k0 bel lt0) (trodAll_cons_mk (Below.trod opsJoinLaid (by kernel_rfl) (of_decide_eq_true (by kernel_rfl)) k1 bel lt1) (trodAll_cons_mk (Below.trod opsJoinLaid (by kernel_rfl) (of_decide_eq_true (by kernel_rfl)) k2 bel lt2) trodAll_mk0))), rfl, bel.frame _, fun h => by cases h⟩
theorem opsJoinProved : Rows.OpsJoinSaid :=
  OpenClaim.holds_of_wide 3 Try.f3 rfl rfl rfl rfl rfl rfl rfl ⟨rfl, rfl, rfl, rfl, rfl⟩ rfl rfl rfl rfl rfl (by kernel_rfl) Try.func3 (by kernel_rfl)
    (of_decide_eq_true (by kernel_rfl)) (by unfold Func.isWrapper; first | (rw [if_pos (by decide +kernel)]; kernel_rfl) | (rw [if_neg (by decide +kernel)]; exact ⟨rfl, rfl⟩))
    (fun os started H enc _ => opsJoinLifted os started H enc)
#print axioms opsJoinProved
end Go.Proofs.Ytfebaeelmnchiaa
