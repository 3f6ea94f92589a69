/-
  No cell of these rows narrows 'for every input' (looked for: loops, veiled, ifaces, maps, wideKeys, modest, calm, conditions, laid).
  DERIVED. THE GIVEN ROWS OF THIS SEAT. 6 by the template 'for every input the law returns true; each argument reads behind the call as it read before'; 0 by the template 'total and deterministic' (their statements: YtfebaeelmnchiaaTotals.lean).
  GIVEN WITH THE SEED: the statements are not yours to turn. If you find one false, say at which input.
  Laid BY PROGRAM, IN A SANDBOX (cutbox-rows.mjs): the forced cells as the released guide's own fill.sh prints them over the translation 936726dfbe3475ae… (all of the seat's roots in one cut). By AI agents, Wed Nov 11 2026. No macro, syntax, notation, axiom, sorry.
-/
import Derived.Test.YtfebaeelmnchiaaChecked
import GoSem.Claim
import GoSem.ClaimJoined
import GoSem.ClaimMapViews
import Derived.JoinedTies
import Derived.KernelRfl
namespace Go.Proofs.Ytfebaeelmnchiaa
/- THE CELL 'sum', in the pinned program and in every row, IS THE sha256 OF THE DUMP (.gsa) THAT YtfebaeelmnchiaaProg.lean LOADS. Nothing in Lean hashes anything: it is a label: what it is worth is what the hold of that sum in a sandbox is worth. -/
noncomputable def Try.pinned : Pinned := { name := "ytfebaeelmnchiaa", sum := "936726dfbe3475ae87ecc4b29b32c81c6f3c0b841cdc1e9b332fb26da9559b57", checked := Try.checked }
namespace Rows
def none {H : Type} : Left H := { results := [], args := [] }

/-- 'purserlaw10.OpsJoin': WHATEVER THE INPUT: true; the input reads as it did. -/
def opsJoinSpec : ChangeSpec := { name := "opsJoin", fn := fun _ => fun
  | [d1, d2, d3] => { results := [.lit (.bool true)], args := [d1, d2, d3] }
  | _ => none }
def opsJoinRow : OpenClaim := { program := "ytfebaeelmnchiaa", sum := "936726dfbe3475ae87ecc4b29b32c81c6f3c0b841cdc1e9b332fb26da9559b57", func := "purser/purserlaw10.OpsJoin", spec := "opsJoin", unfollowed := true, recurses := true, apart := false }
def OpsJoinSaid : Prop := opsJoinRow.holds Try.pinned (OpenSpec.ofChange opsJoinSpec)

/-- ITS FALSE NEIGHBOUR: 'it returns false'. Refute it at one input. -/
def opsJoinWrong : ChangeSpec := { name := "opsJoin", fn := fun _ => fun
  | [d1, d2, d3] => { results := [.lit (.bool false)], args := [d1, d2, d3] }
  | _ => none }
def OpsJoinWrongFalsely : Prop := opsJoinRow.holds Try.pinned (OpenSpec.ofChange opsJoinWrong)

/-- 'purserlaw10.OpsBurnt': WHATEVER THE INPUT: true; the input reads as it did. -/
def opsBurntSpec : ChangeSpec := { name := "opsBurnt", fn := fun _ => fun
  | [d] => { results := [.lit (.bool true)], args := [d] }
  | _ => none }
def opsBurntRow : OpenClaim := { program := "ytfebaeelmnchiaa", sum := "936726dfbe3475ae87ecc4b29b32c81c6f3c0b841cdc1e9b332fb26da9559b57", func := "purser/purserlaw10.OpsBurnt", spec := "opsBurnt", unfollowed := true, recurses := true, apart := false }
def OpsBurntSaid : Prop := opsBurntRow.holds Try.pinned (OpenSpec.ofChange opsBurntSpec)

/-- ITS FALSE NEIGHBOUR: 'it returns false'. Refute it at one input. -/
def opsBurntWrong : ChangeSpec := { name := "opsBurnt", fn := fun _ => fun
  | [d] => { results := [.lit (.bool false)], args := [d] }
  | _ => none }
def OpsBurntWrongFalsely : Prop := opsBurntRow.holds Try.pinned (OpenSpec.ofChange opsBurntWrong)

/-- 'purserlaw10.OpsSplit': WHATEVER THE INPUT: true; the input reads as it did. -/
def opsSplitSpec : ChangeSpec := { name := "opsSplit", fn := fun _ => fun
  | [d] => { results := [.lit (.bool true)], args := [d] }
  | _ => none }
def opsSplitRow : OpenClaim := { program := "ytfebaeelmnchiaa", sum := "936726dfbe3475ae87ecc4b29b32c81c6f3c0b841cdc1e9b332fb26da9559b57", func := "purser/purserlaw10.OpsSplit", spec := "opsSplit", unfollowed := true, recurses := true, apart := false }
def OpsSplitSaid : Prop := opsSplitRow.holds Try.pinned (OpenSpec.ofChange opsSplitSpec)

/-- ITS FALSE NEIGHBOUR: 'it returns false'. Refute it at one input. -/
def opsSplitWrong : ChangeSpec := { name := "opsSplit", fn := fun _ => fun
  | [d] => { results := [.lit (.bool false)], args := [d] }
  | _ => none }
def OpsSplitWrongFalsely : Prop := opsSplitRow.holds Try.pinned (OpenSpec.ofChange opsSplitWrong)

/-- 'purserlaw10.OpsBack': WHATEVER THE INPUT: true; the input reads as it did. -/
def opsBackSpec : ChangeSpec := { name := "opsBack", fn := fun _ => fun
  | [d1, d2] => { results := [.lit (.bool true)], args := [d1, d2] }
  | _ => none }
def opsBackRow : OpenClaim := { program := "ytfebaeelmnchiaa", sum := "936726dfbe3475ae87ecc4b29b32c81c6f3c0b841cdc1e9b332fb26da9559b57", func := "purser/purserlaw10.OpsBack", spec := "opsBack", unfollowed := true, recurses := true, apart := false }
def OpsBackSaid : Prop := opsBackRow.holds Try.pinned (OpenSpec.ofChange opsBackSpec)

/-- ITS FALSE NEIGHBOUR: 'it returns false'. Refute it at one input. -/
def opsBackWrong : ChangeSpec := { name := "opsBack", fn := fun _ => fun
  | [d1, d2] => { results := [.lit (.bool false)], args := [d1, d2] }
  | _ => none }
def OpsBackWrongFalsely : Prop := opsBackRow.holds Try.pinned (OpenSpec.ofChange opsBackWrong)

/-- 'purserlaw10.OpsPushed': WHATEVER THE INPUT: true; the input reads as it did. -/
def opsPushedSpec : ChangeSpec := { name := "opsPushed", fn := fun _ => fun
  | [d1, d2] => { results := [.lit (.bool true)], args := [d1, d2] }
  | _ => none }
def opsPushedRow : OpenClaim := { program := "ytfebaeelmnchiaa", sum := "936726dfbe3475ae87ecc4b29b32c81c6f3c0b841cdc1e9b332fb26da9559b57", func := "purser/purserlaw10.OpsPushed", spec := "opsPushed", unfollowed := true, recurses := true, apart := false }
def OpsPushedSaid : Prop := opsPushedRow.holds Try.pinned (OpenSpec.ofChange opsPushedSpec)

/-- ITS FALSE NEIGHBOUR: 'it returns false'. Refute it at one input. -/
def opsPushedWrong : ChangeSpec := { name := "opsPushed", fn := fun _ => fun
  | [d1, d2] => { results := [.lit (.bool false)], args := [d1, d2] }
  | _ => none }
def OpsPushedWrongFalsely : Prop := opsPushedRow.holds Try.pinned (OpenSpec.ofChange opsPushedWrong)

/-- 'purserlaw10.OpsNames': WHATEVER THE INPUT: true; the input reads as it did. -/
def opsNamesSpec : ChangeSpec := { name := "opsNames", fn := fun _ => fun
  | [] => { results := [.lit (.bool true)], args := [] }
  | _ => none }
def opsNamesRow : OpenClaim := { program := "ytfebaeelmnchiaa", sum := "936726dfbe3475ae87ecc4b29b32c81c6f3c0b841cdc1e9b332fb26da9559b57", func := "purser/purserlaw10.OpsNames", spec := "opsNames", unfollowed := true, recurses := true, apart := false }
def OpsNamesSaid : Prop := opsNamesRow.holds Try.pinned (OpenSpec.ofChange opsNamesSpec)

/-- ITS FALSE NEIGHBOUR: 'it returns false'. Refute it at one input. -/
def opsNamesWrong : ChangeSpec := { name := "opsNames", fn := fun _ => fun
  | [] => { results := [.lit (.bool false)], args := [] }
  | _ => none }
def OpsNamesWrongFalsely : Prop := opsNamesRow.holds Try.pinned (OpenSpec.ofChange opsNamesWrong)

/- THE SECOND FORM. 'bulk': how many values and letters a reading holds, each counted each time it is reached (what is shared counts as often as it is met; a slice's spare places count too). A statement '..UptoSaid' is the law's where the arguments, and the package variables that the reading takes, are together of bulk at most 1048576: NARROWER than '..Said'. Prove '..Said' where nothing that the law and all that it calls make is longer than what came in: it says more and counts as full. Else prove '..UptoSaid'. A law counts once. -/
mutual
def uptoBulk {H : Type} : DataW H → Nat
  | .lit (.string bytes) => bytes.length + 1
  | .lit _ => 1
  | .nil => 1
  | .ptr d => uptoBulk d + 1
  | .slice elems spare => uptoBulkAll elems + uptoBulkAll spare + 1
  | .agg parts => uptoBulkAll parts + 1
  | .iface _ d => uptoBulk d + 1
  | .map entries => uptoBulkEntries entries + 1
  | .held _ => 1
def uptoBulkAll {H : Type} : List (DataW H) → Nat
  | [] => 0
  | d :: r => uptoBulk d + uptoBulkAll r
def uptoBulkEntries {H : Type} : List (Lit × DataW H) → Nat
  | [] => 0
  | x :: r => uptoBulkEntry x + uptoBulkEntries r
def uptoBulkEntry {H : Type} : Lit × DataW H → Nat
  | (.string bytes, d) => bytes.length + uptoBulk d + 1
  | (_, d) => uptoBulk d + 1
 end
def uptoSmall : (H : Type) → List (DataW H) → Bool := fun _ ds => decide (uptoBulkAll ds ≤ 1048576)
def OpenSpec.upto (s : _root_.Go.ChangeSpec) : _root_.Go.OpenSpec := { _root_.Go.OpenSpec.ofChange s with cond := some uptoSmall }

/-- 'purserlaw10.OpsJoin', WHERE WHAT IT READS IS OF BULK AT MOST 1048576: true; the input reads as it did. -/
def opsJoinUptoRow : OpenClaim := { program := "ytfebaeelmnchiaa", sum := "936726dfbe3475ae87ecc4b29b32c81c6f3c0b841cdc1e9b332fb26da9559b57", func := "purser/purserlaw10.OpsJoin", spec := "opsJoin", unfollowed := true, recurses := true, apart := false, narrowed := true }
def OpsJoinUptoSaid : Prop := opsJoinUptoRow.holds Try.pinned (OpenSpec.upto opsJoinSpec)

/-- 'purserlaw10.OpsBurnt', WHERE WHAT IT READS IS OF BULK AT MOST 1048576: true; the input reads as it did. -/
def opsBurntUptoRow : OpenClaim := { program := "ytfebaeelmnchiaa", sum := "936726dfbe3475ae87ecc4b29b32c81c6f3c0b841cdc1e9b332fb26da9559b57", func := "purser/purserlaw10.OpsBurnt", spec := "opsBurnt", unfollowed := true, recurses := true, apart := false, narrowed := true }
def OpsBurntUptoSaid : Prop := opsBurntUptoRow.holds Try.pinned (OpenSpec.upto opsBurntSpec)

/-- 'purserlaw10.OpsSplit', WHERE WHAT IT READS IS OF BULK AT MOST 1048576: true; the input reads as it did. -/
def opsSplitUptoRow : OpenClaim := { program := "ytfebaeelmnchiaa", sum := "936726dfbe3475ae87ecc4b29b32c81c6f3c0b841cdc1e9b332fb26da9559b57", func := "purser/purserlaw10.OpsSplit", spec := "opsSplit", unfollowed := true, recurses := true, apart := false, narrowed := true }
def OpsSplitUptoSaid : Prop := opsSplitUptoRow.holds Try.pinned (OpenSpec.upto opsSplitSpec)

/-- 'purserlaw10.OpsBack', WHERE WHAT IT READS IS OF BULK AT MOST 1048576: true; the input reads as it did. -/
def opsBackUptoRow : OpenClaim := { program := "ytfebaeelmnchiaa", sum := "936726dfbe3475ae87ecc4b29b32c81c6f3c0b841cdc1e9b332fb26da9559b57", func := "purser/purserlaw10.OpsBack", spec := "opsBack", unfollowed := true, recurses := true, apart := false, narrowed := true }
def OpsBackUptoSaid : Prop := opsBackUptoRow.holds Try.pinned (OpenSpec.upto opsBackSpec)

/-- 'purserlaw10.OpsPushed', WHERE WHAT IT READS IS OF BULK AT MOST 1048576: true; the input reads as it did. -/
def opsPushedUptoRow : OpenClaim := { program := "ytfebaeelmnchiaa", sum := "936726dfbe3475ae87ecc4b29b32c81c6f3c0b841cdc1e9b332fb26da9559b57", func := "purser/purserlaw10.OpsPushed", spec := "opsPushed", unfollowed := true, recurses := true, apart := false, narrowed := true }
def OpsPushedUptoSaid : Prop := opsPushedUptoRow.holds Try.pinned (OpenSpec.upto opsPushedSpec)

/-- 'purserlaw10.OpsNames', WHERE WHAT IT READS IS OF BULK AT MOST 1048576: true; the input reads as it did. -/
def opsNamesUptoRow : OpenClaim := { program := "ytfebaeelmnchiaa", sum := "936726dfbe3475ae87ecc4b29b32c81c6f3c0b841cdc1e9b332fb26da9559b57", func := "purser/purserlaw10.OpsNames", spec := "opsNames", unfollowed := true, recurses := true, apart := false, narrowed := true }
def OpsNamesUptoSaid : Prop := opsNamesUptoRow.holds Try.pinned (OpenSpec.upto opsNamesSpec)

end Rows
end Go.Proofs.Ytfebaeelmnchiaa
