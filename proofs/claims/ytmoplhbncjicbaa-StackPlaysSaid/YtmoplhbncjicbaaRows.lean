/-
  No cell of these rows narrows 'for every input' (looked for: loops, veiled, ifaces, maps, wideKeys, modest, calm, conditions, laid).
  DERIVED. THE GIVEN ROWS OF THIS SEAT. 13 by the template 'for every input the law returns true; each argument reads behind the call as it read before'; 0 by the template 'total and deterministic' (their statements: YtmoplhbncjicbaaTotals.lean).
  GIVEN WITH THE SEED: the statements are not yours to turn. If you find one false, say at which input.
  Laid BY PROGRAM, IN A SANDBOX (cutbox-rows.mjs): the forced cells as the released guide's own fill.sh prints them over the translation b9e7cdb9a91d418d… (all of the seat's roots in one cut). By AI agents, Wed Nov 11 2026. No macro, syntax, notation, axiom, sorry.
-/
import Derived.Test.YtmoplhbncjicbaaChecked
import GoSem.Claim
import GoSem.ClaimJoined
import GoSem.ClaimMapViews
import Derived.JoinedTies
import Derived.KernelRfl
namespace Go.Proofs.Ytmoplhbncjicbaa
/- THE CELL 'sum', in the pinned program and in every row, IS THE sha256 OF THE DUMP (.gsa) THAT YtmoplhbncjicbaaProg.lean LOADS. Nothing in Lean hashes anything: it is a label: what it is worth is what the hold of that sum in a sandbox is worth. -/
noncomputable def Try.pinned : Pinned := { name := "ytmoplhbncjicbaa", sum := "b9e7cdb9a91d418d9818f66b1b9bb4ff0957b7dcd1b5ae4f8c6e98df5d3211d5", checked := Try.checked }
namespace Rows
def none {H : Type} : Left H := { results := [], args := [] }

/-- 'purserlaw11.NumBack': WHATEVER THE INPUT: true; the input reads as it did. -/
def numBackSpec : ChangeSpec := { name := "numBack", fn := fun _ => fun
  | [d1, d2] => { results := [.lit (.bool true)], args := [d1, d2] }
  | _ => none }
def numBackRow : OpenClaim := { program := "ytmoplhbncjicbaa", sum := "b9e7cdb9a91d418d9818f66b1b9bb4ff0957b7dcd1b5ae4f8c6e98df5d3211d5", func := "purser/purserlaw11.NumBack", spec := "numBack", unfollowed := true, recurses := true, apart := false }
def NumBackSaid : Prop := numBackRow.holds Try.pinned (OpenSpec.ofChange numBackSpec)

/-- ITS FALSE NEIGHBOUR: 'it returns false'. Refute it at one input. -/
def numBackWrong : ChangeSpec := { name := "numBack", fn := fun _ => fun
  | [d1, d2] => { results := [.lit (.bool false)], args := [d1, d2] }
  | _ => none }
def NumBackWrongFalsely : Prop := numBackRow.holds Try.pinned (OpenSpec.ofChange numBackWrong)

/-- 'purserlaw11.NumForms': WHATEVER THE INPUT: true; the input reads as it did. -/
def numFormsSpec : ChangeSpec := { name := "numForms", fn := fun _ => fun
  | [d1, d2, d3] => { results := [.lit (.bool true)], args := [d1, d2, d3] }
  | _ => none }
def numFormsRow : OpenClaim := { program := "ytmoplhbncjicbaa", sum := "b9e7cdb9a91d418d9818f66b1b9bb4ff0957b7dcd1b5ae4f8c6e98df5d3211d5", func := "purser/purserlaw11.NumForms", spec := "numForms", unfollowed := true, recurses := true, apart := false }
def NumFormsSaid : Prop := numFormsRow.holds Try.pinned (OpenSpec.ofChange numFormsSpec)

/-- ITS FALSE NEIGHBOUR: 'it returns false'. Refute it at one input. -/
def numFormsWrong : ChangeSpec := { name := "numForms", fn := fun _ => fun
  | [d1, d2, d3] => { results := [.lit (.bool false)], args := [d1, d2, d3] }
  | _ => none }
def NumFormsWrongFalsely : Prop := numFormsRow.holds Try.pinned (OpenSpec.ofChange numFormsWrong)

/-- 'purserlaw11.NumMakes': WHATEVER THE INPUT: true; the input reads as it did. -/
def numMakesSpec : ChangeSpec := { name := "numMakes", fn := fun _ => fun
  | [d1, d2, d3, d4] => { results := [.lit (.bool true)], args := [d1, d2, d3, d4] }
  | _ => none }
def numMakesRow : OpenClaim := { program := "ytmoplhbncjicbaa", sum := "b9e7cdb9a91d418d9818f66b1b9bb4ff0957b7dcd1b5ae4f8c6e98df5d3211d5", func := "purser/purserlaw11.NumMakes", spec := "numMakes", unfollowed := true, recurses := true, apart := false }
def NumMakesSaid : Prop := numMakesRow.holds Try.pinned (OpenSpec.ofChange numMakesSpec)

/-- ITS FALSE NEIGHBOUR: 'it returns false'. Refute it at one input. -/
def numMakesWrong : ChangeSpec := { name := "numMakes", fn := fun _ => fun
  | [d1, d2, d3, d4] => { results := [.lit (.bool false)], args := [d1, d2, d3, d4] }
  | _ => none }
def NumMakesWrongFalsely : Prop := numMakesRow.holds Try.pinned (OpenSpec.ofChange numMakesWrong)

/-- 'purserlaw11.NumOrders': WHATEVER THE INPUT: true; the input reads as it did. -/
def numOrdersSpec : ChangeSpec := { name := "numOrders", fn := fun _ => fun
  | [d1, d2, d3] => { results := [.lit (.bool true)], args := [d1, d2, d3] }
  | _ => none }
def numOrdersRow : OpenClaim := { program := "ytmoplhbncjicbaa", sum := "b9e7cdb9a91d418d9818f66b1b9bb4ff0957b7dcd1b5ae4f8c6e98df5d3211d5", func := "purser/purserlaw11.NumOrders", spec := "numOrders", unfollowed := true, recurses := true, apart := false }
def NumOrdersSaid : Prop := numOrdersRow.holds Try.pinned (OpenSpec.ofChange numOrdersSpec)

/-- ITS FALSE NEIGHBOUR: 'it returns false'. Refute it at one input. -/
def numOrdersWrong : ChangeSpec := { name := "numOrders", fn := fun _ => fun
  | [d1, d2, d3] => { results := [.lit (.bool false)], args := [d1, d2, d3] }
  | _ => none }
def NumOrdersWrongFalsely : Prop := numOrdersRow.holds Try.pinned (OpenSpec.ofChange numOrdersWrong)

/-- 'purserlaw11.NumSums': WHATEVER THE INPUT: true; the input reads as it did. -/
def numSumsSpec : ChangeSpec := { name := "numSums", fn := fun _ => fun
  | [d1, d2] => { results := [.lit (.bool true)], args := [d1, d2] }
  | _ => none }
def numSumsRow : OpenClaim := { program := "ytmoplhbncjicbaa", sum := "b9e7cdb9a91d418d9818f66b1b9bb4ff0957b7dcd1b5ae4f8c6e98df5d3211d5", func := "purser/purserlaw11.NumSums", spec := "numSums", unfollowed := true, recurses := true, apart := false }
def NumSumsSaid : Prop := numSumsRow.holds Try.pinned (OpenSpec.ofChange numSumsSpec)

/-- ITS FALSE NEIGHBOUR: 'it returns false'. Refute it at one input. -/
def numSumsWrong : ChangeSpec := { name := "numSums", fn := fun _ => fun
  | [d1, d2] => { results := [.lit (.bool false)], args := [d1, d2] }
  | _ => none }
def NumSumsWrongFalsely : Prop := numSumsRow.holds Try.pinned (OpenSpec.ofChange numSumsWrong)

/-- 'purserlaw11.NumMade': WHATEVER THE INPUT: true; the input reads as it did. -/
def numMadeSpec : ChangeSpec := { name := "numMade", fn := fun _ => fun
  | [d1, d2, d3] => { results := [.lit (.bool true)], args := [d1, d2, d3] }
  | _ => none }
def numMadeRow : OpenClaim := { program := "ytmoplhbncjicbaa", sum := "b9e7cdb9a91d418d9818f66b1b9bb4ff0957b7dcd1b5ae4f8c6e98df5d3211d5", func := "purser/purserlaw11.NumMade", spec := "numMade", unfollowed := true, recurses := true, apart := false }
def NumMadeSaid : Prop := numMadeRow.holds Try.pinned (OpenSpec.ofChange numMadeSpec)

/-- ITS FALSE NEIGHBOUR: 'it returns false'. Refute it at one input. -/
def numMadeWrong : ChangeSpec := { name := "numMade", fn := fun _ => fun
  | [d1, d2, d3] => { results := [.lit (.bool false)], args := [d1, d2, d3] }
  | _ => none }
def NumMadeWrongFalsely : Prop := numMadeRow.holds Try.pinned (OpenSpec.ofChange numMadeWrong)

/-- 'purserlaw11.NumNames': WHATEVER THE INPUT: true; the input reads as it did. -/
def numNamesSpec : ChangeSpec := { name := "numNames", fn := fun _ => fun
  | [] => { results := [.lit (.bool true)], args := [] }
  | _ => none }
def numNamesRow : OpenClaim := { program := "ytmoplhbncjicbaa", sum := "b9e7cdb9a91d418d9818f66b1b9bb4ff0957b7dcd1b5ae4f8c6e98df5d3211d5", func := "purser/purserlaw11.NumNames", spec := "numNames", unfollowed := true, recurses := true, apart := false }
def NumNamesSaid : Prop := numNamesRow.holds Try.pinned (OpenSpec.ofChange numNamesSpec)

/-- ITS FALSE NEIGHBOUR: 'it returns false'. Refute it at one input. -/
def numNamesWrong : ChangeSpec := { name := "numNames", fn := fun _ => fun
  | [] => { results := [.lit (.bool false)], args := [] }
  | _ => none }
def NumNamesWrongFalsely : Prop := numNamesRow.holds Try.pinned (OpenSpec.ofChange numNamesWrong)

/-- 'purserlaw12.StackUndone': WHATEVER THE INPUT: true; the input reads as it did. -/
def stackUndoneSpec : ChangeSpec := { name := "stackUndone", fn := fun _ => fun
  | [d1, d2] => { results := [.lit (.bool true)], args := [d1, d2] }
  | _ => none }
def stackUndoneRow : OpenClaim := { program := "ytmoplhbncjicbaa", sum := "b9e7cdb9a91d418d9818f66b1b9bb4ff0957b7dcd1b5ae4f8c6e98df5d3211d5", func := "purser/purserlaw12.StackUndone", spec := "stackUndone", unfollowed := true, recurses := true, apart := false }
def StackUndoneSaid : Prop := stackUndoneRow.holds Try.pinned (OpenSpec.ofChange stackUndoneSpec)

/-- ITS FALSE NEIGHBOUR: 'it returns false'. Refute it at one input. -/
def stackUndoneWrong : ChangeSpec := { name := "stackUndone", fn := fun _ => fun
  | [d1, d2] => { results := [.lit (.bool false)], args := [d1, d2] }
  | _ => none }
def StackUndoneWrongFalsely : Prop := stackUndoneRow.holds Try.pinned (OpenSpec.ofChange stackUndoneWrong)

/-- 'purserlaw12.StackCounts': WHATEVER THE INPUT: true; the input reads as it did. -/
def stackCountsSpec : ChangeSpec := { name := "stackCounts", fn := fun _ => fun
  | [d1, d2] => { results := [.lit (.bool true)], args := [d1, d2] }
  | _ => none }
def stackCountsRow : OpenClaim := { program := "ytmoplhbncjicbaa", sum := "b9e7cdb9a91d418d9818f66b1b9bb4ff0957b7dcd1b5ae4f8c6e98df5d3211d5", func := "purser/purserlaw12.StackCounts", spec := "stackCounts", unfollowed := true, recurses := true, apart := false }
def StackCountsSaid : Prop := stackCountsRow.holds Try.pinned (OpenSpec.ofChange stackCountsSpec)

/-- ITS FALSE NEIGHBOUR: 'it returns false'. Refute it at one input. -/
def stackCountsWrong : ChangeSpec := { name := "stackCounts", fn := fun _ => fun
  | [d1, d2] => { results := [.lit (.bool false)], args := [d1, d2] }
  | _ => none }
def StackCountsWrongFalsely : Prop := stackCountsRow.holds Try.pinned (OpenSpec.ofChange stackCountsWrong)

/-- 'purserlaw12.StackFar': WHATEVER THE INPUT: true; the input reads as it did. -/
def stackFarSpec : ChangeSpec := { name := "stackFar", fn := fun _ => fun
  | [d1, d2] => { results := [.lit (.bool true)], args := [d1, d2] }
  | _ => none }
def stackFarRow : OpenClaim := { program := "ytmoplhbncjicbaa", sum := "b9e7cdb9a91d418d9818f66b1b9bb4ff0957b7dcd1b5ae4f8c6e98df5d3211d5", func := "purser/purserlaw12.StackFar", spec := "stackFar", unfollowed := true, recurses := true, apart := false }
def StackFarSaid : Prop := stackFarRow.holds Try.pinned (OpenSpec.ofChange stackFarSpec)

/-- ITS FALSE NEIGHBOUR: 'it returns false'. Refute it at one input. -/
def stackFarWrong : ChangeSpec := { name := "stackFar", fn := fun _ => fun
  | [d1, d2] => { results := [.lit (.bool false)], args := [d1, d2] }
  | _ => none }
def StackFarWrongFalsely : Prop := stackFarRow.holds Try.pinned (OpenSpec.ofChange stackFarWrong)

/-- 'purserlaw12.StackLast': WHATEVER THE INPUT: true; the input reads as it did. -/
def stackLastSpec : ChangeSpec := { name := "stackLast", fn := fun _ => fun
  | [d1, d2] => { results := [.lit (.bool true)], args := [d1, d2] }
  | _ => none }
def stackLastRow : OpenClaim := { program := "ytmoplhbncjicbaa", sum := "b9e7cdb9a91d418d9818f66b1b9bb4ff0957b7dcd1b5ae4f8c6e98df5d3211d5", func := "purser/purserlaw12.StackLast", spec := "stackLast", unfollowed := true, recurses := true, apart := false }
def StackLastSaid : Prop := stackLastRow.holds Try.pinned (OpenSpec.ofChange stackLastSpec)

/-- ITS FALSE NEIGHBOUR: 'it returns false'. Refute it at one input. -/
def stackLastWrong : ChangeSpec := { name := "stackLast", fn := fun _ => fun
  | [d1, d2] => { results := [.lit (.bool false)], args := [d1, d2] }
  | _ => none }
def StackLastWrongFalsely : Prop := stackLastRow.holds Try.pinned (OpenSpec.ofChange stackLastWrong)

/-- 'purserlaw12.StackPlays': WHATEVER THE INPUT: true; the input reads as it did. -/
def stackPlaysSpec : ChangeSpec := { name := "stackPlays", fn := fun _ => fun
  | [d1, d2] => { results := [.lit (.bool true)], args := [d1, d2] }
  | _ => none }
def stackPlaysRow : OpenClaim := { program := "ytmoplhbncjicbaa", sum := "b9e7cdb9a91d418d9818f66b1b9bb4ff0957b7dcd1b5ae4f8c6e98df5d3211d5", func := "purser/purserlaw12.StackPlays", spec := "stackPlays", unfollowed := true, recurses := true, apart := false }
def StackPlaysSaid : Prop := stackPlaysRow.holds Try.pinned (OpenSpec.ofChange stackPlaysSpec)

/-- ITS FALSE NEIGHBOUR: 'it returns false'. Refute it at one input. -/
def stackPlaysWrong : ChangeSpec := { name := "stackPlays", fn := fun _ => fun
  | [d1, d2] => { results := [.lit (.bool false)], args := [d1, d2] }
  | _ => none }
def StackPlaysWrongFalsely : Prop := stackPlaysRow.holds Try.pinned (OpenSpec.ofChange stackPlaysWrong)

/-- 'purserlaw12.StackNames': WHATEVER THE INPUT: true; the input reads as it did. -/
def stackNamesSpec : ChangeSpec := { name := "stackNames", fn := fun _ => fun
  | [] => { results := [.lit (.bool true)], args := [] }
  | _ => none }
def stackNamesRow : OpenClaim := { program := "ytmoplhbncjicbaa", sum := "b9e7cdb9a91d418d9818f66b1b9bb4ff0957b7dcd1b5ae4f8c6e98df5d3211d5", func := "purser/purserlaw12.StackNames", spec := "stackNames", unfollowed := true, recurses := true, apart := false }
def StackNamesSaid : Prop := stackNamesRow.holds Try.pinned (OpenSpec.ofChange stackNamesSpec)

/-- ITS FALSE NEIGHBOUR: 'it returns false'. Refute it at one input. -/
def stackNamesWrong : ChangeSpec := { name := "stackNames", fn := fun _ => fun
  | [] => { results := [.lit (.bool false)], args := [] }
  | _ => none }
def StackNamesWrongFalsely : Prop := stackNamesRow.holds Try.pinned (OpenSpec.ofChange stackNamesWrong)

/- THE SECOND FORM. 'bulk': how many values and letters a reading holds, each counted each time it is reached (what is shared counts as often as it is met; a slice's spare places count too). A statement '..UptoSaid' is the law's where the arguments, and the package variables that the reading takes, are together of bulk at most 1048576: NARROWER than '..Said'. Prove '..Said' where nothing that the law and all that it calls make is longer than what came in: it says more and counts as full. Else prove '..UptoSaid'. A law counts once. -/
mutual
def uptoBulk {H : Type} : DataW H → Nat
  | .lit (.string bytes) => bytes.length + 1
  | .lit _ => 1
  | .nil => 1
  | .ptr d => uptoBulk d + 1
  | .slice elems spare => uptoBulkAll elems + uptoBulkAll spare + 1
  | .agg parts => uptoBulkAll parts + 1
  | .iface _ d => uptoBulk d + 1
  | .map entries => uptoBulkEntries entries + 1
  | .held _ => 1
def uptoBulkAll {H : Type} : List (DataW H) → Nat
  | [] => 0
  | d :: r => uptoBulk d + uptoBulkAll r
def uptoBulkEntries {H : Type} : List (Lit × DataW H) → Nat
  | [] => 0
  | x :: r => uptoBulkEntry x + uptoBulkEntries r
def uptoBulkEntry {H : Type} : Lit × DataW H → Nat
  | (.string bytes, d) => bytes.length + uptoBulk d + 1
  | (_, d) => uptoBulk d + 1
 end
def uptoSmall : (H : Type) → List (DataW H) → Bool := fun _ ds => decide (uptoBulkAll ds ≤ 1048576)
def OpenSpec.upto (s : _root_.Go.ChangeSpec) : _root_.Go.OpenSpec := { _root_.Go.OpenSpec.ofChange s with cond := some uptoSmall }

/-- 'purserlaw11.NumBack', WHERE WHAT IT READS IS OF BULK AT MOST 1048576: true; the input reads as it did. -/
def numBackUptoRow : OpenClaim := { program := "ytmoplhbncjicbaa", sum := "b9e7cdb9a91d418d9818f66b1b9bb4ff0957b7dcd1b5ae4f8c6e98df5d3211d5", func := "purser/purserlaw11.NumBack", spec := "numBack", unfollowed := true, recurses := true, apart := false, narrowed := true }
def NumBackUptoSaid : Prop := numBackUptoRow.holds Try.pinned (OpenSpec.upto numBackSpec)

/-- 'purserlaw11.NumForms', WHERE WHAT IT READS IS OF BULK AT MOST 1048576: true; the input reads as it did. -/
def numFormsUptoRow : OpenClaim := { program := "ytmoplhbncjicbaa", sum := "b9e7cdb9a91d418d9818f66b1b9bb4ff0957b7dcd1b5ae4f8c6e98df5d3211d5", func := "purser/purserlaw11.NumForms", spec := "numForms", unfollowed := true, recurses := true, apart := false, narrowed := true }
def NumFormsUptoSaid : Prop := numFormsUptoRow.holds Try.pinned (OpenSpec.upto numFormsSpec)

/-- 'purserlaw11.NumMakes', WHERE WHAT IT READS IS OF BULK AT MOST 1048576: true; the input reads as it did. -/
def numMakesUptoRow : OpenClaim := { program := "ytmoplhbncjicbaa", sum := "b9e7cdb9a91d418d9818f66b1b9bb4ff0957b7dcd1b5ae4f8c6e98df5d3211d5", func := "purser/purserlaw11.NumMakes", spec := "numMakes", unfollowed := true, recurses := true, apart := false, narrowed := true }
def NumMakesUptoSaid : Prop := numMakesUptoRow.holds Try.pinned (OpenSpec.upto numMakesSpec)

/-- 'purserlaw11.NumOrders', WHERE WHAT IT READS IS OF BULK AT MOST 1048576: true; the input reads as it did. -/
def numOrdersUptoRow : OpenClaim := { program := "ytmoplhbncjicbaa", sum := "b9e7cdb9a91d418d9818f66b1b9bb4ff0957b7dcd1b5ae4f8c6e98df5d3211d5", func := "purser/purserlaw11.NumOrders", spec := "numOrders", unfollowed := true, recurses := true, apart := false, narrowed := true }
def NumOrdersUptoSaid : Prop := numOrdersUptoRow.holds Try.pinned (OpenSpec.upto numOrdersSpec)

/-- 'purserlaw11.NumSums', WHERE WHAT IT READS IS OF BULK AT MOST 1048576: true; the input reads as it did. -/
def numSumsUptoRow : OpenClaim := { program := "ytmoplhbncjicbaa", sum := "b9e7cdb9a91d418d9818f66b1b9bb4ff0957b7dcd1b5ae4f8c6e98df5d3211d5", func := "purser/purserlaw11.NumSums", spec := "numSums", unfollowed := true, recurses := true, apart := false, narrowed := true }
def NumSumsUptoSaid : Prop := numSumsUptoRow.holds Try.pinned (OpenSpec.upto numSumsSpec)

/-- 'purserlaw11.NumMade', WHERE WHAT IT READS IS OF BULK AT MOST 1048576: true; the input reads as it did. -/
def numMadeUptoRow : OpenClaim := { program := "ytmoplhbncjicbaa", sum := "b9e7cdb9a91d418d9818f66b1b9bb4ff0957b7dcd1b5ae4f8c6e98df5d3211d5", func := "purser/purserlaw11.NumMade", spec := "numMade", unfollowed := true, recurses := true, apart := false, narrowed := true }
def NumMadeUptoSaid : Prop := numMadeUptoRow.holds Try.pinned (OpenSpec.upto numMadeSpec)

/-- 'purserlaw11.NumNames', WHERE WHAT IT READS IS OF BULK AT MOST 1048576: true; the input reads as it did. -/
def numNamesUptoRow : OpenClaim := { program := "ytmoplhbncjicbaa", sum := "b9e7cdb9a91d418d9818f66b1b9bb4ff0957b7dcd1b5ae4f8c6e98df5d3211d5", func := "purser/purserlaw11.NumNames", spec := "numNames", unfollowed := true, recurses := true, apart := false, narrowed := true }
def NumNamesUptoSaid : Prop := numNamesUptoRow.holds Try.pinned (OpenSpec.upto numNamesSpec)

/-- 'purserlaw12.StackUndone', WHERE WHAT IT READS IS OF BULK AT MOST 1048576: true; the input reads as it did. -/
def stackUndoneUptoRow : OpenClaim := { program := "ytmoplhbncjicbaa", sum := "b9e7cdb9a91d418d9818f66b1b9bb4ff0957b7dcd1b5ae4f8c6e98df5d3211d5", func := "purser/purserlaw12.StackUndone", spec := "stackUndone", unfollowed := true, recurses := true, apart := false, narrowed := true }
def StackUndoneUptoSaid : Prop := stackUndoneUptoRow.holds Try.pinned (OpenSpec.upto stackUndoneSpec)

/-- 'purserlaw12.StackCounts', WHERE WHAT IT READS IS OF BULK AT MOST 1048576: true; the input reads as it did. -/
def stackCountsUptoRow : OpenClaim := { program := "ytmoplhbncjicbaa", sum := "b9e7cdb9a91d418d9818f66b1b9bb4ff0957b7dcd1b5ae4f8c6e98df5d3211d5", func := "purser/purserlaw12.StackCounts", spec := "stackCounts", unfollowed := true, recurses := true, apart := false, narrowed := true }
def StackCountsUptoSaid : Prop := stackCountsUptoRow.holds Try.pinned (OpenSpec.upto stackCountsSpec)

/-- 'purserlaw12.StackFar', WHERE WHAT IT READS IS OF BULK AT MOST 1048576: true; the input reads as it did. -/
def stackFarUptoRow : OpenClaim := { program := "ytmoplhbncjicbaa", sum := "b9e7cdb9a91d418d9818f66b1b9bb4ff0957b7dcd1b5ae4f8c6e98df5d3211d5", func := "purser/purserlaw12.StackFar", spec := "stackFar", unfollowed := true, recurses := true, apart := false, narrowed := true }
def StackFarUptoSaid : Prop := stackFarUptoRow.holds Try.pinned (OpenSpec.upto stackFarSpec)

/-- 'purserlaw12.StackLast', WHERE WHAT IT READS IS OF BULK AT MOST 1048576: true; the input reads as it did. -/
def stackLastUptoRow : OpenClaim := { program := "ytmoplhbncjicbaa", sum := "b9e7cdb9a91d418d9818f66b1b9bb4ff0957b7dcd1b5ae4f8c6e98df5d3211d5", func := "purser/purserlaw12.StackLast", spec := "stackLast", unfollowed := true, recurses := true, apart := false, narrowed := true }
def StackLastUptoSaid : Prop := stackLastUptoRow.holds Try.pinned (OpenSpec.upto stackLastSpec)

/-- 'purserlaw12.StackPlays', WHERE WHAT IT READS IS OF BULK AT MOST 1048576: true; the input reads as it did. -/
def stackPlaysUptoRow : OpenClaim := { program := "ytmoplhbncjicbaa", sum := "b9e7cdb9a91d418d9818f66b1b9bb4ff0957b7dcd1b5ae4f8c6e98df5d3211d5", func := "purser/purserlaw12.StackPlays", spec := "stackPlays", unfollowed := true, recurses := true, apart := false, narrowed := true }
def StackPlaysUptoSaid : Prop := stackPlaysUptoRow.holds Try.pinned (OpenSpec.upto stackPlaysSpec)

/-- 'purserlaw12.StackNames', WHERE WHAT IT READS IS OF BULK AT MOST 1048576: true; the input reads as it did. -/
def stackNamesUptoRow : OpenClaim := { program := "ytmoplhbncjicbaa", sum := "b9e7cdb9a91d418d9818f66b1b9bb4ff0957b7dcd1b5ae4f8c6e98df5d3211d5", func := "purser/purserlaw12.StackNames", spec := "stackNames", unfollowed := true, recurses := true, apart := false, narrowed := true }
def StackNamesUptoSaid : Prop := stackNamesUptoRow.holds Try.pinned (OpenSpec.upto stackNamesSpec)

end Rows
end Go.Proofs.Ytmoplhbncjicbaa
