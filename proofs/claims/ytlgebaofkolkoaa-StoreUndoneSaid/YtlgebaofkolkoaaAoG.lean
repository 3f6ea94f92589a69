/- The abstract machine. -/
import Derived.Test.YtlgebaofkolkoaaAoF
set_option linter.unusedSimpArgs false
set_option linter.unusedVariables false
set_option linter.defProp false
namespace Go.Am
open Go Go.RowKit
variable {E : Env} {fn : FuncId} {rnd : Option Nat} {Q : eB} {ks : List Kf} {tm : List a9} {h : Hp} {n : Nat} {ops rest : List Oper} {d : Option Tmp}
theorem SZ (b : Bool) : (a9.bool b).cells = [.bool b] ∧ bJ (.bool b) = true ∧ dT (.bool b) = false := ⟨rfl, rfl, rfl⟩
theorem T0 (b : Bool) : (a9.blit b).cells = [.blit b] ∧ bJ (.blit b) = true ∧ dT (.blit b) = false := ⟨rfl, rfl, rfl⟩
theorem X8 (k : IntKind) (x : Int) : (a9.int k x).cells = [.int k x] ∧ bJ (.int k x) = true ∧ dT (.int k x) = false := ⟨rfl, rfl, rfl⟩
theorem X4 (l : List UInt8) : (a9.str l).cells = [.str l] ∧ bJ (.str l) = true ∧ dT (.str l) = false := ⟨rfl, rfl, rfl⟩
theorem SV  : (a9.nilp ).cells = [.nilp ] ∧ bJ (.nilp ) = true ∧ dT (.nilp ) = false := ⟨rfl, rfl, rfl⟩
theorem SU  : (a9.nils ).cells = [.nils ] ∧ bJ (.nils ) = true ∧ dT (.nils ) = false := ⟨rfl, rfl, rfl⟩
theorem SW  : (a9.nilm ).cells = [.nilm ] ∧ bJ (.nilm ) = true ∧ dT (.nilm ) = false := ⟨rfl, rfl, rfl⟩
theorem SY  : (a9.nilf ).cells = [.nilf ] ∧ bJ (.nilf ) = true ∧ dT (.nilf ) = false := ⟨rfl, rfl, rfl⟩
theorem SX  : (a9.nili ).cells = [.nili ] ∧ bJ (.nili ) = true ∧ dT (.nili ) = false := ⟨rfl, rfl, rfl⟩
theorem X9  : (a9.emp ).cells = [.emp ] ∧ bJ (.emp ) = true ∧ dT (.emp ) = false := ⟨rfl, rfl, rfl⟩
theorem X5 (i o : Nat) : (a9.ptr i o).cells = [.ptr i o] ∧ bJ (.ptr i o) = true ∧ dT (.ptr i o) = false := ⟨rfl, rfl, rfl⟩
theorem k_sl (i o n : Nat) (c : Option Nat) (s : Nat) : (a9.sl i o n c s).cells = [.sl i o n c s] ∧ bJ (.sl i o n c s) = true ∧ dT (.sl i o n c s) = false := ⟨rfl, rfl, rfl⟩
theorem k_ip (f : Nat → a9) (n o : Nat) : (a9.ip f n o).cells = [.ip f n o] ∧ bJ (.ip f n o) = true ∧ dT (.ip f n o) = false := ⟨rfl, rfl, rfl⟩
theorem X7 (f : Nat → a9) (s o n : Nat) : (a9.isl f s o n).cells = [.isl f s o n] ∧ bJ (.isl f s o n) = true ∧ dT (.isl f s o n) = false := ⟨rfl, rfl, rfl⟩
theorem k_fn (f : Fn) (a b : List a9) : (a9.fn f a b).cells = [.fn f a b] ∧ bJ (.fn f a b) = true ∧ dT (.fn f a b) = false := ⟨rfl, rfl, rfl⟩
theorem X6 (i : Nat) : (a9.map i).cells = [.map i] ∧ bJ (.map i) = true ∧ dT (.map i) = false := ⟨rfl, rfl, rfl⟩
theorem XA (l : List a9) : (a9.agg l).cells = l ∧ dT (.agg l) = false := ⟨rfl, rfl⟩
def cel := (And.intro @SZ (And.intro @T0 (And.intro @X8 (And.intro @X4 (And.intro @SV (And.intro @SU (And.intro @SW (And.intro @SY (And.intro @SX (And.intro @X9 (And.intro @X5 (And.intro @k_sl (And.intro @k_ip (And.intro @X7 (And.intro @k_fn (And.intro @X6 @XA))))))))))))))))
theorem Own.kind {e : TypeId} {sz cnt : Nat} {v : a9} {xs : List a9} (ho : Own h n e sz v cnt xs) : v.cells = [v] ∧ bJ v = true ∧ dT v = false := by cases ho <;> exact ⟨rfl, rfl, rfl⟩
theorem Bytes.kind {v : a9} {l : List UInt8} (hb : Bytes h v l) : v.cells = [v] ∧ bJ v = true ∧ dT v = false := by cases hb <;> exact ⟨rfl, rfl, rfl⟩
theorem bE {i j : Nat} : dL E fn rnd Q (.block i :: ks) (.exit j) tm h n ↔ (match j.beq i with | true => dL E fn rnd Q ks .normal tm h n | false => dL E fn rnd Q ks (.exit j) tm h n) := Iff.rfl
theorem dE {op : Op} {want : Bool} : OpG E fn rnd Q ks ops rest d tm op want undef h n ↔ Ops E fn rnd Q ks ops rest (aC tm d undef) h n := xO
theorem aD {rec : Rec} (g : FuncId) (first cap args : List a9) : jA E rec (.fn (.func g) first cap) args = bT E rec g (first ++ args ++ cap) := rfl
end Go.Am
