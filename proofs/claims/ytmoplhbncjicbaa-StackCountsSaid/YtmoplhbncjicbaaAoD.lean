/- The rules, bound together. -/
import Derived.Test.YtmoplhbncjicbaaAoC
import Derived.IntWalk
set_option linter.unusedSimpArgs false
set_option linter.unusedVariables false
set_option linter.defProp false
namespace Go.Am
open Go
variable {E : Env} {fn : FuncId} {rnd : Option Nat} {Q : Post0} {ks : List Kf} {tm : List AVal} {h : Hp} {n : Nat} {ops rest : List Oper} {d : Option Tmp}
theorem opv_det {m : M AVal} {h1 : Hp} {n1 : Nat} {v : AVal} (hw : Wp m h n fun v' h' n' => v' = v ∧ h' = h1 ∧ n' = n1) :
    ∀ (E : Env) (fn : FuncId) (rnd : Option Nat) (Q : Post0) (ks : List Kf) (ops rest : List Oper) (d : Option Tmp) (tm : List AVal), OpV E fn rnd Q ks ops rest d tm m h n ↔ Ops E fn rnd Q ks ops rest (putT tm d v) h1 n1 := by
  intro E fn rnd Q ks ops rest d tm
  refine ⟨fun hq => ?_, fun hq => opv_same hw hq⟩
  obtain ⟨a, s', he, e1, e2, e3⟩ := wp_iff.1 hw
  obtain ⟨a2, s2, he2, hq2⟩ := wp_iff.1 hq
  have := he.run.symm.trans he2.run
  injection this with q1 q2
  subst q1; subst q2; subst e1; subst e2; subst e3
  exact hq2
theorem wp_det {α : Type} {m : M AVal} {h1 : Hp} {n1 : Nat} {v : AVal} (hw : Wp m h n fun v' h' n' => v' = v ∧ h' = h1 ∧ n' = n1) :
    ∀ (f : AVal → M α) (Q : α → Hp → Nat → Prop), Wp (m.bind f) h n Q ↔ Wp (f v) h1 n1 Q := by
  intro f Q
  rw [wp_bind_iff]
  refine ⟨fun hq => ?_, fun hq => wp_same hw hq⟩
  obtain ⟨a, s', he, e1, e2, e3⟩ := wp_iff.1 hw
  obtain ⟨a2, s2, he2, hq2⟩ := wp_iff.1 hq
  have := he.run.symm.trans he2.run
  injection this with q1 q2
  subst q1; subst q2; subst e1; subst e2; subst e3
  exact hq2
theorem w64 {n : Int} (h1 : -9223372036854775808 ≤ n) (h2 : n ≤ 9223372036854775807) : IntKind.i64.wrap n = n := IntWalk.i64_in n ⟨h1, h2⟩
theorem w32 {n : Int} (h1 : -2147483648 ≤ n) (h2 : n ≤ 2147483647) : IntKind.i32.wrap n = n := IntWalk.i32_in n ⟨h1, h2⟩
theorem wu64 {n : Int} (h1 : 0 ≤ n) (h2 : n ≤ 18446744073709551615) : IntKind.u64.wrap n = n := IntWalk.u64_in n ⟨h1, h2⟩
theorem wu32 {n : Int} (h1 : 0 ≤ n) (h2 : n ≤ 4294967295) : IntKind.u32.wrap n = n := IntWalk.u32_in n ⟨h1, h2⟩
theorem wu8 {n : Int} (h1 : 0 ≤ n) (h2 : n ≤ 255) : IntKind.u8.wrap n = n := IntWalk.u8_in n ⟨h1, h2⟩
theorem nc0 : ((0 : Nat) : Int) = 0 := rfl
theorem nc1 : ((1 : Nat) : Int) = 1 := rfl
theorem int_beq (a b : Int) : (a == b) = decide (a = b) := rfl
theorem int_bne (a b : Int) : (a != b) = decide (¬ a = b) := by by_cases h : a = b <;> simp [h]
theorem str_beq (a b : List UInt8) : (a == b) = decide (a = b) := by by_cases h : a = b <;> simp [h]
/-- Both arms are there. -/
theorem opv_pick {c : Bool} {a b : AVal} : OpV E fn rnd Q ks ops rest d tm (doPick (.bool c) a b) h n ↔ Ops E fn rnd Q ks ops rest (putT tm d (match c with | true => a | false => b)) h n := by
  cases c <;> simp only [doPick, branch, opv_ask, opv_pure]
def core1 := And.intro @run_seq (And.intro @run_region (And.intro @run_skip (And.intro @run_label (And.intro @run_exit (And.intro @run_ret (And.intro @run_scope (And.intro @run_block (And.intro @run_cond
  (And.intro @if_true (And.intro @if_false (And.intro @if_btrue (And.intro @if_bfalse (And.intro @cont_seq (And.intro @cont_seq_ret (And.intro @cont_seq_exit (And.intro @cont_block (And.intro @cont_block_ret
  (And.intro @cont_block_same (And.intro @cont_loop (And.intro @cont_loop_ret (And.intro @cont_loop_exit (And.intro @cont_nil (And.intro @ops_nil (And.intro @ops_cons (And.intro @ops_guard (And.intro @opgo_some
  (And.intro @opg_bool (And.intro @opg_tt (And.intro @opg_ff (And.intro @opg_tf (And.intro @opg_ft (And.intro @opg_undef (And.intro @opv_pure (And.intro @opv_fail (And.intro @opv_get (And.intro @opv_set
  (And.intro @opv_kill (And.intro @opv_new (And.intro @opv_ob (And.intro @opv_ask (And.intro @bind_pure (And.intro @bind_fail @bind_assoc))))))))))))))))))))))))))))))))))))))))))
end Go.Am
