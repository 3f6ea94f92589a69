/- The abstract machine. -/
import Derived.Test.YtlgebaofkolkoaaAoC
import Derived.IntWalk
set_option linter.unusedSimpArgs false
set_option linter.unusedVariables false
set_option linter.defProp false
namespace Go.Am
open Go
variable {E : Env} {fn : FuncId} {rnd : Option Nat} {Q : eB} {ks : List Kf} {tm : List a9} {h : Hp} {n : Nat} {ops rest : List Oper} {d : Option Tmp}
theorem uA {m : M a9} {h1 : Hp} {n1 : Nat} {v : a9} (hw : Wp m h n fun v' h' n' => v' = v ∧ h' = h1 ∧ n' = n1) :
  ∀ (E : Env) (fn : FuncId) (rnd : Option Nat) (Q : eB) (ks : List Kf) (ops rest : List Oper) (d : Option Tmp) (tm : List a9), OpV E fn rnd Q ks ops rest d tm m h n ↔ Ops E fn rnd Q ks ops rest (aC tm d v) h1 n1 := by
 intro E fn rnd Q ks ops rest d tm
 refine ⟨fun hq => ?_, fun hq => dZ hw hq⟩
 obtain ⟨a, s', he, e1, e2, e3⟩ := eQ.1 hw
 obtain ⟨a2, s2, he2, hq2⟩ := eQ.1 hq
 have := he.run.symm.trans he2.run
 injection this with q1 q2
 subst q1; subst q2; subst e1; subst e2; subst e3
 exact hq2
theorem w64 {n : Int} (h1 : -9223372036854775808 ≤ n) (h2 : n ≤ 9223372036854775807) : IntKind.i64.wrap n = n := IntWalk.i64_in n ⟨h1, h2⟩
theorem wu64 {n : Int} (h1 : 0 ≤ n) (h2 : n ≤ 18446744073709551615) : IntKind.u64.wrap n = n := IntWalk.u64_in n ⟨h1, h2⟩
theorem nc0 : ((0 : Nat) : Int) = 0 := rfl
theorem nc1 : ((1 : Nat) : Int) = 1 := rfl
theorem cN (a b : Int) : (a == b) = decide (a = b) := rfl
theorem cM (a b : Int) : (a != b) = decide (¬ a = b) := by by_cases h : a = b <;> simp [h]
theorem cL (a b : List UInt8) : (a == b) = decide (a = b) := by by_cases h : a = b <;> simp [h]
theorem mF {c : Bool} {a b : a9} : OpV E fn rnd Q ks ops rest d tm (aW (.bool c) a b) h n ↔ Ops E fn rnd Q ks ops rest (aC tm d (match c with | true => a | false => b)) h n := by
 cases c <;> simp only [aW, branch, z4, iO]
def aB := And.intro @run_seq (And.intro @CD (And.intro @HY (And.intro @FL (And.intro @HZ (And.intro @MH (And.intro @FK (And.intro @FM (And.intro @I0
 (And.intro @if_true (And.intro @if_false (And.intro @JJ (And.intro @GA (And.intro @KL (And.intro @zS (And.intro @xC (And.intro @DG (And.intro @vS
 (And.intro @tT (And.intro @GQ (And.intro @xD (And.intro @vR (And.intro @KM (And.intro @MN (And.intro @IQ (And.intro @FV (And.intro @FW
 (And.intro @IU (And.intro @IS (And.intro @QQ (And.intro @IT (And.intro @QP (And.intro @xO (And.intro @iO (And.intro @AM (And.intro @E9 (And.intro @MM
 (And.intro @IN (And.intro @qU (And.intro @nR (And.intro @z4 (And.intro @bind_pure (And.intro @GV @bind_assoc))))))))))))))))))))))))))))))))))))))))))
end Go.Am
