/- The abstract machine. -/
import Derived.Test.YtlgebaofkolkoaaAoL
import Derived.Laws.Externs
set_option linter.unusedSimpArgs false
set_option linter.unusedVariables false
set_option linter.defProp false
namespace Go.Am
open Go
def HQ : List a9 → M a9
 | [.int .u64 x, .int .u64 y, .int .u64 c] => (ob (decide (0 ≤ x ∧ 0 ≤ y ∧ 0 ≤ c ∧ c ≤ 1))).bind fun _ => M.pure (.tup [.int .u64 (((x.toNat + 18446744073709551616 - y.toNat - c.toNat) % 18446744073709551616 : Nat) : Int), .int .u64 ((if x.toNat < y.toNat + c.toNat then 1 else 0 : Nat) : Int)])
 | _ => fail "Sub64"
variable {P : Program} {f : FuncId}
def subD (x y c : Nat) : Nat := (x + 18446744073709551616 - y - c) % 18446744073709551616
def subC (x y c : Nat) : Nat := if x < y + c then 1 else 0
theorem sub_eq {x y c : Nat} (hc : c ≤ 1) : HQ [.int .u64 (x : Nat), .int .u64 (y : Nat), .int .u64 (c : Nat)] = (ob true).bind fun _ => M.pure (.tup [.int .u64 (subD x y c : Nat), .int .u64 (subC x y c : Nat)]) := by
 have hd : decide ((0 : Int) ≤ (x : Nat) ∧ (0 : Int) ≤ (y : Nat) ∧ (0 : Int) ≤ (c : Nat) ∧ ((c : Nat) : Int) ≤ 1) = true := decide_eq_true ⟨by omega, by omega, by omega, by omega⟩
 simp only [HQ, hd]
 rfl
end Go.Am
