/-
  No cell of these rows narrows 'for every input' (looked for: loops, veiled, ifaces, maps, wideKeys, modest, calm, conditions, laid).
  DERIVED. THE GIVEN ROWS OF THIS SEAT. 7 by the template 'for every input the law returns true; each argument reads behind the call as it read before'; 0 by the template 'total and deterministic' (their statements: YtmlagocbphoedaaTotals.lean).
  GIVEN WITH THE SEED: the statements are not yours to turn. If you find one false, say at which input.
  Laid BY PROGRAM, IN A SANDBOX (cutbox-rows.mjs): the forced cells as the released guide's own fill.sh prints them over the translation e29d8196dbd36c6e… (all of the seat's roots in one cut). By AI agents, Wed Nov 11 2026. No macro, syntax, notation, axiom, sorry.
-/
import Derived.Test.YtmlagocbphoedaaChecked
import GoSem.Claim
import GoSem.ClaimJoined
import GoSem.ClaimMapViews
import Derived.JoinedTies
import Derived.KernelRfl
namespace Go.Proofs.Ytmlagocbphoedaa
/- THE CELL 'sum', in the pinned program and in every row, IS THE sha256 OF THE DUMP (.gsa) THAT YtmlagocbphoedaaProg.lean LOADS. Nothing in Lean hashes anything: it is a label: what it is worth is what the hold of that sum in a sandbox is worth. -/
noncomputable def Try.pinned : Pinned := { name := "ytmlagocbphoedaa", sum := "e29d8196dbd36c6e5d302aca99b8a8fcab017287d0d1954e243ab6ed1ca5f436", checked := Try.checked }
namespace Rows
def none {H : Type} : Left H := { results := [], args := [] }

/-- 'purserlaw05.TargetScales': WHATEVER THE INPUT: true; the input reads as it did. -/
def targetScalesSpec : ChangeSpec := { name := "targetScales", fn := fun _ => fun
  | [d1, d2, d3, d4, d5] => { results := [.lit (.bool true)], args := [d1, d2, d3, d4, d5] }
  | _ => none }
def targetScalesRow : OpenClaim := { program := "ytmlagocbphoedaa", sum := "e29d8196dbd36c6e5d302aca99b8a8fcab017287d0d1954e243ab6ed1ca5f436", func := "purser/purserlaw05.TargetScales", spec := "targetScales", inPlace := ["math/bits.Sub64", "math/bits.Add64"], unfollowed := true, recurses := true, apart := false }
def TargetScalesSaid : Prop := targetScalesRow.holds Try.pinned (OpenSpec.ofChange targetScalesSpec)

/-- ITS FALSE NEIGHBOUR: 'it returns false'. Refute it at one input. -/
def targetScalesWrong : ChangeSpec := { name := "targetScales", fn := fun _ => fun
  | [d1, d2, d3, d4, d5] => { results := [.lit (.bool false)], args := [d1, d2, d3, d4, d5] }
  | _ => none }
def TargetScalesWrongFalsely : Prop := targetScalesRow.holds Try.pinned (OpenSpec.ofChange targetScalesWrong)

/-- 'purserlaw05.TargetNear': WHATEVER THE INPUT: true; the input reads as it did. -/
def targetNearSpec : ChangeSpec := { name := "targetNear", fn := fun _ => fun
  | [d] => { results := [.lit (.bool true)], args := [d] }
  | _ => none }
def targetNearRow : OpenClaim := { program := "ytmlagocbphoedaa", sum := "e29d8196dbd36c6e5d302aca99b8a8fcab017287d0d1954e243ab6ed1ca5f436", func := "purser/purserlaw05.TargetNear", spec := "targetNear", inPlace := ["math/bits.Add64", "math/bits.Sub64"], unfollowed := true, recurses := true, apart := false }
def TargetNearSaid : Prop := targetNearRow.holds Try.pinned (OpenSpec.ofChange targetNearSpec)

/-- ITS FALSE NEIGHBOUR: 'it returns false'. Refute it at one input. -/
def targetNearWrong : ChangeSpec := { name := "targetNear", fn := fun _ => fun
  | [d] => { results := [.lit (.bool false)], args := [d] }
  | _ => none }
def TargetNearWrongFalsely : Prop := targetNearRow.holds Try.pinned (OpenSpec.ofChange targetNearWrong)

/-- 'purserlaw05.TargetForms': WHATEVER THE INPUT: true; the input reads as it did. -/
def targetFormsSpec : ChangeSpec := { name := "targetForms", fn := fun _ => fun
  | [d1, d2, d3] => { results := [.lit (.bool true)], args := [d1, d2, d3] }
  | _ => none }
def targetFormsRow : OpenClaim := { program := "ytmlagocbphoedaa", sum := "e29d8196dbd36c6e5d302aca99b8a8fcab017287d0d1954e243ab6ed1ca5f436", func := "purser/purserlaw05.TargetForms", spec := "targetForms", inPlace := ["math/bits.Add64", "math/bits.Sub64"], unfollowed := true, recurses := true, apart := false }
def TargetFormsSaid : Prop := targetFormsRow.holds Try.pinned (OpenSpec.ofChange targetFormsSpec)

/-- ITS FALSE NEIGHBOUR: 'it returns false'. Refute it at one input. -/
def targetFormsWrong : ChangeSpec := { name := "targetForms", fn := fun _ => fun
  | [d1, d2, d3] => { results := [.lit (.bool false)], args := [d1, d2, d3] }
  | _ => none }
def TargetFormsWrongFalsely : Prop := targetFormsRow.holds Try.pinned (OpenSpec.ofChange targetFormsWrong)

/-- 'purserlaw05.TargetWork': WHATEVER THE INPUT: true; the input reads as it did. -/
def targetWorkSpec : ChangeSpec := { name := "targetWork", fn := fun _ => fun
  | [d1, d2] => { results := [.lit (.bool true)], args := [d1, d2] }
  | _ => none }
def targetWorkRow : OpenClaim := { program := "ytmlagocbphoedaa", sum := "e29d8196dbd36c6e5d302aca99b8a8fcab017287d0d1954e243ab6ed1ca5f436", func := "purser/purserlaw05.TargetWork", spec := "targetWork", inPlace := ["math/bits.Add64", "math/bits.Sub64"], unfollowed := true, recurses := true, apart := false }
def TargetWorkSaid : Prop := targetWorkRow.holds Try.pinned (OpenSpec.ofChange targetWorkSpec)

/-- ITS FALSE NEIGHBOUR: 'it returns false'. Refute it at one input. -/
def targetWorkWrong : ChangeSpec := { name := "targetWork", fn := fun _ => fun
  | [d1, d2] => { results := [.lit (.bool false)], args := [d1, d2] }
  | _ => none }
def TargetWorkWrongFalsely : Prop := targetWorkRow.holds Try.pinned (OpenSpec.ofChange targetWorkWrong)

/-- 'purserlaw05.TargetScaled': WHATEVER THE INPUT: true; the input reads as it did. -/
def targetScaledSpec : ChangeSpec := { name := "targetScaled", fn := fun _ => fun
  | [d1, d2, d3, d4] => { results := [.lit (.bool true)], args := [d1, d2, d3, d4] }
  | _ => none }
def targetScaledRow : OpenClaim := { program := "ytmlagocbphoedaa", sum := "e29d8196dbd36c6e5d302aca99b8a8fcab017287d0d1954e243ab6ed1ca5f436", func := "purser/purserlaw05.TargetScaled", spec := "targetScaled", inPlace := ["math/bits.Add64", "math/bits.Sub64"], unfollowed := true, recurses := true, apart := false }
def TargetScaledSaid : Prop := targetScaledRow.holds Try.pinned (OpenSpec.ofChange targetScaledSpec)

/-- ITS FALSE NEIGHBOUR: 'it returns false'. Refute it at one input. -/
def targetScaledWrong : ChangeSpec := { name := "targetScaled", fn := fun _ => fun
  | [d1, d2, d3, d4] => { results := [.lit (.bool false)], args := [d1, d2, d3, d4] }
  | _ => none }
def TargetScaledWrongFalsely : Prop := targetScaledRow.holds Try.pinned (OpenSpec.ofChange targetScaledWrong)

/-- 'purserlaw23.PowBounds': WHATEVER THE INPUT: true; the input reads as it did. -/
def powBoundsSpec : ChangeSpec := { name := "powBounds", fn := fun _ => fun
  | [d1, d2, d3, d4] => { results := [.lit (.bool true)], args := [d1, d2, d3, d4] }
  | _ => none }
def powBoundsRow : OpenClaim := { program := "ytmlagocbphoedaa", sum := "e29d8196dbd36c6e5d302aca99b8a8fcab017287d0d1954e243ab6ed1ca5f436", func := "purser/purserlaw23.PowBounds", spec := "powBounds", inPlace := ["math/bits.Sub64", "math/bits.Add64"], unfollowed := true, recurses := true, apart := false }
def PowBoundsSaid : Prop := powBoundsRow.holds Try.pinned (OpenSpec.ofChange powBoundsSpec)

/-- ITS FALSE NEIGHBOUR: 'it returns false'. Refute it at one input. -/
def powBoundsWrong : ChangeSpec := { name := "powBounds", fn := fun _ => fun
  | [d1, d2, d3, d4] => { results := [.lit (.bool false)], args := [d1, d2, d3, d4] }
  | _ => none }
def PowBoundsWrongFalsely : Prop := powBoundsRow.holds Try.pinned (OpenSpec.ofChange powBoundsWrong)

/-- 'purserlaw05.TargetNames': WHATEVER THE INPUT: true; the input reads as it did. -/
def targetNamesSpec : ChangeSpec := { name := "targetNames", fn := fun _ => fun
  | [] => { results := [.lit (.bool true)], args := [] }
  | _ => none }
def targetNamesRow : OpenClaim := { program := "ytmlagocbphoedaa", sum := "e29d8196dbd36c6e5d302aca99b8a8fcab017287d0d1954e243ab6ed1ca5f436", func := "purser/purserlaw05.TargetNames", spec := "targetNames", inPlace := ["math/bits.Add64", "math/bits.Sub64"], unfollowed := true, recurses := true, apart := false }
def TargetNamesSaid : Prop := targetNamesRow.holds Try.pinned (OpenSpec.ofChange targetNamesSpec)

/-- ITS FALSE NEIGHBOUR: 'it returns false'. Refute it at one input. -/
def targetNamesWrong : ChangeSpec := { name := "targetNames", fn := fun _ => fun
  | [] => { results := [.lit (.bool false)], args := [] }
  | _ => none }
def TargetNamesWrongFalsely : Prop := targetNamesRow.holds Try.pinned (OpenSpec.ofChange targetNamesWrong)

/- THE SECOND FORM. 'bulk': how many values and letters a reading holds, each counted each time it is reached (what is shared counts as often as it is met; a slice's spare places count too). A statement '..UptoSaid' is the law's where the arguments, and the package variables that the reading takes, are together of bulk at most 1048576: NARROWER than '..Said'. Prove '..Said' where nothing that the law and all that it calls make is longer than what came in: it says more and counts as full. Else prove '..UptoSaid'. A law counts once. -/
mutual
def uptoBulk {H : Type} : DataW H → Nat
  | .lit (.string bytes) => bytes.length + 1
  | .lit _ => 1
  | .nil => 1
  | .ptr d => uptoBulk d + 1
  | .slice elems spare => uptoBulkAll elems + uptoBulkAll spare + 1
  | .agg parts => uptoBulkAll parts + 1
  | .iface _ d => uptoBulk d + 1
  | .map entries => uptoBulkEntries entries + 1
  | .held _ => 1
def uptoBulkAll {H : Type} : List (DataW H) → Nat
  | [] => 0
  | d :: r => uptoBulk d + uptoBulkAll r
def uptoBulkEntries {H : Type} : List (Lit × DataW H) → Nat
  | [] => 0
  | x :: r => uptoBulkEntry x + uptoBulkEntries r
def uptoBulkEntry {H : Type} : Lit × DataW H → Nat
  | (.string bytes, d) => bytes.length + uptoBulk d + 1
  | (_, d) => uptoBulk d + 1
 end
def uptoSmall : (H : Type) → List (DataW H) → Bool := fun _ ds => decide (uptoBulkAll ds ≤ 1048576)
def OpenSpec.upto (s : _root_.Go.ChangeSpec) : _root_.Go.OpenSpec := { _root_.Go.OpenSpec.ofChange s with cond := some uptoSmall }

/-- 'purserlaw05.TargetScales', WHERE WHAT IT READS IS OF BULK AT MOST 1048576: true; the input reads as it did. -/
def targetScalesUptoRow : OpenClaim := { program := "ytmlagocbphoedaa", sum := "e29d8196dbd36c6e5d302aca99b8a8fcab017287d0d1954e243ab6ed1ca5f436", func := "purser/purserlaw05.TargetScales", spec := "targetScales", inPlace := ["math/bits.Sub64", "math/bits.Add64"], unfollowed := true, recurses := true, apart := false, narrowed := true }
def TargetScalesUptoSaid : Prop := targetScalesUptoRow.holds Try.pinned (OpenSpec.upto targetScalesSpec)

/-- 'purserlaw05.TargetNear', WHERE WHAT IT READS IS OF BULK AT MOST 1048576: true; the input reads as it did. -/
def targetNearUptoRow : OpenClaim := { program := "ytmlagocbphoedaa", sum := "e29d8196dbd36c6e5d302aca99b8a8fcab017287d0d1954e243ab6ed1ca5f436", func := "purser/purserlaw05.TargetNear", spec := "targetNear", inPlace := ["math/bits.Add64", "math/bits.Sub64"], unfollowed := true, recurses := true, apart := false, narrowed := true }
def TargetNearUptoSaid : Prop := targetNearUptoRow.holds Try.pinned (OpenSpec.upto targetNearSpec)

/-- 'purserlaw05.TargetForms', WHERE WHAT IT READS IS OF BULK AT MOST 1048576: true; the input reads as it did. -/
def targetFormsUptoRow : OpenClaim := { program := "ytmlagocbphoedaa", sum := "e29d8196dbd36c6e5d302aca99b8a8fcab017287d0d1954e243ab6ed1ca5f436", func := "purser/purserlaw05.TargetForms", spec := "targetForms", inPlace := ["math/bits.Add64", "math/bits.Sub64"], unfollowed := true, recurses := true, apart := false, narrowed := true }
def TargetFormsUptoSaid : Prop := targetFormsUptoRow.holds Try.pinned (OpenSpec.upto targetFormsSpec)

/-- 'purserlaw05.TargetWork', WHERE WHAT IT READS IS OF BULK AT MOST 1048576: true; the input reads as it did. -/
def targetWorkUptoRow : OpenClaim := { program := "ytmlagocbphoedaa", sum := "e29d8196dbd36c6e5d302aca99b8a8fcab017287d0d1954e243ab6ed1ca5f436", func := "purser/purserlaw05.TargetWork", spec := "targetWork", inPlace := ["math/bits.Add64", "math/bits.Sub64"], unfollowed := true, recurses := true, apart := false, narrowed := true }
def TargetWorkUptoSaid : Prop := targetWorkUptoRow.holds Try.pinned (OpenSpec.upto targetWorkSpec)

/-- 'purserlaw05.TargetScaled', WHERE WHAT IT READS IS OF BULK AT MOST 1048576: true; the input reads as it did. -/
def targetScaledUptoRow : OpenClaim := { program := "ytmlagocbphoedaa", sum := "e29d8196dbd36c6e5d302aca99b8a8fcab017287d0d1954e243ab6ed1ca5f436", func := "purser/purserlaw05.TargetScaled", spec := "targetScaled", inPlace := ["math/bits.Add64", "math/bits.Sub64"], unfollowed := true, recurses := true, apart := false, narrowed := true }
def TargetScaledUptoSaid : Prop := targetScaledUptoRow.holds Try.pinned (OpenSpec.upto targetScaledSpec)

/-- 'purserlaw23.PowBounds', WHERE WHAT IT READS IS OF BULK AT MOST 1048576: true; the input reads as it did. -/
def powBoundsUptoRow : OpenClaim := { program := "ytmlagocbphoedaa", sum := "e29d8196dbd36c6e5d302aca99b8a8fcab017287d0d1954e243ab6ed1ca5f436", func := "purser/purserlaw23.PowBounds", spec := "powBounds", inPlace := ["math/bits.Sub64", "math/bits.Add64"], unfollowed := true, recurses := true, apart := false, narrowed := true }
def PowBoundsUptoSaid : Prop := powBoundsUptoRow.holds Try.pinned (OpenSpec.upto powBoundsSpec)

/-- 'purserlaw05.TargetNames', WHERE WHAT IT READS IS OF BULK AT MOST 1048576: true; the input reads as it did. -/
def targetNamesUptoRow : OpenClaim := { program := "ytmlagocbphoedaa", sum := "e29d8196dbd36c6e5d302aca99b8a8fcab017287d0d1954e243ab6ed1ca5f436", func := "purser/purserlaw05.TargetNames", spec := "targetNames", inPlace := ["math/bits.Add64", "math/bits.Sub64"], unfollowed := true, recurses := true, apart := false, narrowed := true }
def TargetNamesUptoSaid : Prop := targetNamesUptoRow.holds Try.pinned (OpenSpec.upto targetNamesSpec)

end Rows
end Go.Proofs.Ytmlagocbphoedaa
