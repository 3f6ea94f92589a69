/-
  No cell of these rows narrows 'for every input' (looked for: loops, veiled, ifaces, maps, wideKeys, modest, calm, conditions, laid).
  DERIVED. THE GIVEN ROWS OF THIS SEAT. 11 by the template 'for every input the law returns true; each argument reads behind the call as it read before'; 0 by the template 'total and deterministic' (their statements: YtlgebaofkolkoaaTotals.lean).
  GIVEN WITH THE SEED: the statements are not yours to turn. If you find one false, say at which input.
  Laid BY PROGRAM, IN A SANDBOX (cutbox-rows.mjs): the forced cells as the released guide's own fill.sh prints them over the translation 9869573f13804f63… (all of the seat's roots in one cut). By AI agents, Wed Nov 11 2026. No macro, syntax, notation, axiom, sorry.
-/
import Derived.Test.YtlgebaofkolkoaaChecked
import GoSem.Claim
import GoSem.ClaimJoined
import GoSem.ClaimMapViews
import Derived.JoinedTies
import Derived.KernelRfl
namespace Go.Proofs.Ytlgebaofkolkoaa
/- THE CELL 'sum', in the pinned program and in every row, IS THE sha256 OF THE DUMP (.gsa) THAT YtlgebaofkolkoaaProg.lean LOADS. Nothing in Lean hashes anything: it is a label: what it is worth is what the hold of that sum in a sandbox is worth. -/
noncomputable def Try.pinned : Pinned := { name := "ytlgebaofkolkoaa", sum := "9869573f13804f63e59df6ac57f0818512eb5452d061dbcd8104b1cf48ec13a8", checked := Try.checked }
namespace Rows
def none {H : Type} : Left H := { results := [], args := [] }

/-- 'purserlaw22.StoreNames': WHATEVER THE INPUT: true; the input reads as it did. -/
def storeNamesSpec : ChangeSpec := { name := "storeNames", fn := fun _ => fun
  | [] => { results := [.lit (.bool true)], args := [] }
  | _ => none }
def storeNamesRow : OpenClaim := { program := "ytlgebaofkolkoaa", sum := "9869573f13804f63e59df6ac57f0818512eb5452d061dbcd8104b1cf48ec13a8", func := "purser/purserlaw22.StoreNames", spec := "storeNames", inPlace := ["internal/bytealg.Compare", "slices.overlaps[*purser/api.Version]", "internal/bytealg.abigen_runtime_cmpstring"], unfollowed := true, recurses := true, plainKeys := false, apart := false }
def StoreNamesSaid : Prop := storeNamesRow.holds Try.pinned (OpenSpec.ofChange storeNamesSpec)

/-- ITS FALSE NEIGHBOUR: 'it returns false'. Refute it at one input. -/
def storeNamesWrong : ChangeSpec := { name := "storeNames", fn := fun _ => fun
  | [] => { results := [.lit (.bool false)], args := [] }
  | _ => none }
def StoreNamesWrongFalsely : Prop := storeNamesRow.holds Try.pinned (OpenSpec.ofChange storeNamesWrong)

/-- 'purserlaw21.IndexUndone': WHATEVER THE INPUT: true; the input reads as it did. -/
def indexUndoneSpec : ChangeSpec := { name := "indexUndone", fn := fun _ => fun
  | [d1, d2, d3] => { results := [.lit (.bool true)], args := [d1, d2, d3] }
  | _ => none }
def indexUndoneRow : OpenClaim := { program := "ytlgebaofkolkoaa", sum := "9869573f13804f63e59df6ac57f0818512eb5452d061dbcd8104b1cf48ec13a8", func := "purser/purserlaw21.IndexUndone", spec := "indexUndone", inPlace := ["internal/bytealg.Compare", "slices.overlaps[*purser/api.Version]"], unfollowed := true, recurses := true, plainKeys := false, apart := false }
def IndexUndoneSaid : Prop := indexUndoneRow.holds Try.pinned (OpenSpec.ofChange indexUndoneSpec)

/-- ITS FALSE NEIGHBOUR: 'it returns false'. Refute it at one input. -/
def indexUndoneWrong : ChangeSpec := { name := "indexUndone", fn := fun _ => fun
  | [d1, d2, d3] => { results := [.lit (.bool false)], args := [d1, d2, d3] }
  | _ => none }
def IndexUndoneWrongFalsely : Prop := indexUndoneRow.holds Try.pinned (OpenSpec.ofChange indexUndoneWrong)

/-- 'purserlaw21.IndexLater': WHATEVER THE INPUT: true; the input reads as it did. -/
def indexLaterSpec : ChangeSpec := { name := "indexLater", fn := fun _ => fun
  | [d1, d2, d3] => { results := [.lit (.bool true)], args := [d1, d2, d3] }
  | _ => none }
def indexLaterRow : OpenClaim := { program := "ytlgebaofkolkoaa", sum := "9869573f13804f63e59df6ac57f0818512eb5452d061dbcd8104b1cf48ec13a8", func := "purser/purserlaw21.IndexLater", spec := "indexLater", inPlace := ["internal/bytealg.Compare", "slices.overlaps[*purser/api.Version]"], unfollowed := true, recurses := true, plainKeys := false, apart := false }
def IndexLaterSaid : Prop := indexLaterRow.holds Try.pinned (OpenSpec.ofChange indexLaterSpec)

/-- ITS FALSE NEIGHBOUR: 'it returns false'. Refute it at one input. -/
def indexLaterWrong : ChangeSpec := { name := "indexLater", fn := fun _ => fun
  | [d1, d2, d3] => { results := [.lit (.bool false)], args := [d1, d2, d3] }
  | _ => none }
def IndexLaterWrongFalsely : Prop := indexLaterRow.holds Try.pinned (OpenSpec.ofChange indexLaterWrong)

/-- 'purserlaw21.IndexOrder': WHATEVER THE INPUT: true; the input reads as it did. -/
def indexOrderSpec : ChangeSpec := { name := "indexOrder", fn := fun _ => fun
  | [d1, d2] => { results := [.lit (.bool true)], args := [d1, d2] }
  | _ => none }
def indexOrderRow : OpenClaim := { program := "ytlgebaofkolkoaa", sum := "9869573f13804f63e59df6ac57f0818512eb5452d061dbcd8104b1cf48ec13a8", func := "purser/purserlaw21.IndexOrder", spec := "indexOrder", inPlace := ["internal/bytealg.Compare", "slices.overlaps[*purser/api.Version]"], unfollowed := true, recurses := true, plainKeys := false, apart := false }
def IndexOrderSaid : Prop := indexOrderRow.holds Try.pinned (OpenSpec.ofChange indexOrderSpec)

/-- ITS FALSE NEIGHBOUR: 'it returns false'. Refute it at one input. -/
def indexOrderWrong : ChangeSpec := { name := "indexOrder", fn := fun _ => fun
  | [d1, d2] => { results := [.lit (.bool false)], args := [d1, d2] }
  | _ => none }
def IndexOrderWrongFalsely : Prop := indexOrderRow.holds Try.pinned (OpenSpec.ofChange indexOrderWrong)

/-- 'purserlaw21.IndexScripts': WHATEVER THE INPUT: true; the input reads as it did. -/
def indexScriptsSpec : ChangeSpec := { name := "indexScripts", fn := fun _ => fun
  | [d1, d2] => { results := [.lit (.bool true)], args := [d1, d2] }
  | _ => none }
def indexScriptsRow : OpenClaim := { program := "ytlgebaofkolkoaa", sum := "9869573f13804f63e59df6ac57f0818512eb5452d061dbcd8104b1cf48ec13a8", func := "purser/purserlaw21.IndexScripts", spec := "indexScripts", inPlace := ["internal/bytealg.Compare", "slices.overlaps[*purser/api.Version]"], unfollowed := true, recurses := true, plainKeys := false, apart := false }
def IndexScriptsSaid : Prop := indexScriptsRow.holds Try.pinned (OpenSpec.ofChange indexScriptsSpec)

/-- ITS FALSE NEIGHBOUR: 'it returns false'. Refute it at one input. -/
def indexScriptsWrong : ChangeSpec := { name := "indexScripts", fn := fun _ => fun
  | [d1, d2] => { results := [.lit (.bool false)], args := [d1, d2] }
  | _ => none }
def IndexScriptsWrongFalsely : Prop := indexScriptsRow.holds Try.pinned (OpenSpec.ofChange indexScriptsWrong)

/-- 'purserlaw21.IndexPlays': WHATEVER THE INPUT: true; the input reads as it did. -/
def indexPlaysSpec : ChangeSpec := { name := "indexPlays", fn := fun _ => fun
  | [d1, d2] => { results := [.lit (.bool true)], args := [d1, d2] }
  | _ => none }
def indexPlaysRow : OpenClaim := { program := "ytlgebaofkolkoaa", sum := "9869573f13804f63e59df6ac57f0818512eb5452d061dbcd8104b1cf48ec13a8", func := "purser/purserlaw21.IndexPlays", spec := "indexPlays", inPlace := ["internal/bytealg.Compare", "slices.overlaps[*purser/api.Version]"], unfollowed := true, recurses := true, plainKeys := false, apart := false }
def IndexPlaysSaid : Prop := indexPlaysRow.holds Try.pinned (OpenSpec.ofChange indexPlaysSpec)

/-- ITS FALSE NEIGHBOUR: 'it returns false'. Refute it at one input. -/
def indexPlaysWrong : ChangeSpec := { name := "indexPlays", fn := fun _ => fun
  | [d1, d2] => { results := [.lit (.bool false)], args := [d1, d2] }
  | _ => none }
def IndexPlaysWrongFalsely : Prop := indexPlaysRow.holds Try.pinned (OpenSpec.ofChange indexPlaysWrong)

/-- 'purserlaw21.IndexNames': WHATEVER THE INPUT: true; the input reads as it did. -/
def indexNamesSpec : ChangeSpec := { name := "indexNames", fn := fun _ => fun
  | [] => { results := [.lit (.bool true)], args := [] }
  | _ => none }
def indexNamesRow : OpenClaim := { program := "ytlgebaofkolkoaa", sum := "9869573f13804f63e59df6ac57f0818512eb5452d061dbcd8104b1cf48ec13a8", func := "purser/purserlaw21.IndexNames", spec := "indexNames", inPlace := ["internal/bytealg.Compare", "slices.overlaps[*purser/api.Version]"], unfollowed := true, recurses := true, plainKeys := false, apart := false }
def IndexNamesSaid : Prop := indexNamesRow.holds Try.pinned (OpenSpec.ofChange indexNamesSpec)

/-- ITS FALSE NEIGHBOUR: 'it returns false'. Refute it at one input. -/
def indexNamesWrong : ChangeSpec := { name := "indexNames", fn := fun _ => fun
  | [] => { results := [.lit (.bool false)], args := [] }
  | _ => none }
def IndexNamesWrongFalsely : Prop := indexNamesRow.holds Try.pinned (OpenSpec.ofChange indexNamesWrong)

/-- 'purserlaw22.StoreUndone': WHATEVER THE INPUT: true; the input reads as it did. -/
def storeUndoneSpec : ChangeSpec := { name := "storeUndone", fn := fun _ => fun
  | [d1, d2] => { results := [.lit (.bool true)], args := [d1, d2] }
  | _ => none }
def storeUndoneRow : OpenClaim := { program := "ytlgebaofkolkoaa", sum := "9869573f13804f63e59df6ac57f0818512eb5452d061dbcd8104b1cf48ec13a8", func := "purser/purserlaw22.StoreUndone", spec := "storeUndone", inPlace := ["internal/bytealg.Compare", "slices.overlaps[*purser/api.Version]"], unfollowed := true, recurses := true, plainKeys := false, apart := false }
def StoreUndoneSaid : Prop := storeUndoneRow.holds Try.pinned (OpenSpec.ofChange storeUndoneSpec)

/-- ITS FALSE NEIGHBOUR: 'it returns false'. Refute it at one input. -/
def storeUndoneWrong : ChangeSpec := { name := "storeUndone", fn := fun _ => fun
  | [d1, d2] => { results := [.lit (.bool false)], args := [d1, d2] }
  | _ => none }
def StoreUndoneWrongFalsely : Prop := storeUndoneRow.holds Try.pinned (OpenSpec.ofChange storeUndoneWrong)

/-- 'purserlaw22.StoreSums': WHATEVER THE INPUT: true; the input reads as it did. -/
def storeSumsSpec : ChangeSpec := { name := "storeSums", fn := fun _ => fun
  | [d] => { results := [.lit (.bool true)], args := [d] }
  | _ => none }
def storeSumsRow : OpenClaim := { program := "ytlgebaofkolkoaa", sum := "9869573f13804f63e59df6ac57f0818512eb5452d061dbcd8104b1cf48ec13a8", func := "purser/purserlaw22.StoreSums", spec := "storeSums", inPlace := ["internal/bytealg.Compare", "slices.overlaps[*purser/api.Version]", "internal/bytealg.abigen_runtime_cmpstring"], unfollowed := true, recurses := true, plainKeys := false, apart := false }
def StoreSumsSaid : Prop := storeSumsRow.holds Try.pinned (OpenSpec.ofChange storeSumsSpec)

/-- ITS FALSE NEIGHBOUR: 'it returns false'. Refute it at one input. -/
def storeSumsWrong : ChangeSpec := { name := "storeSums", fn := fun _ => fun
  | [d] => { results := [.lit (.bool false)], args := [d] }
  | _ => none }
def StoreSumsWrongFalsely : Prop := storeSumsRow.holds Try.pinned (OpenSpec.ofChange storeSumsWrong)

/-- 'purserlaw22.StoreTold': WHATEVER THE INPUT: true; the input reads as it did. -/
def storeToldSpec : ChangeSpec := { name := "storeTold", fn := fun _ => fun
  | [d1, d2] => { results := [.lit (.bool true)], args := [d1, d2] }
  | _ => none }
def storeToldRow : OpenClaim := { program := "ytlgebaofkolkoaa", sum := "9869573f13804f63e59df6ac57f0818512eb5452d061dbcd8104b1cf48ec13a8", func := "purser/purserlaw22.StoreTold", spec := "storeTold", inPlace := ["internal/bytealg.Compare", "slices.overlaps[*purser/api.Version]"], unfollowed := true, recurses := true, plainKeys := false, apart := false }
def StoreToldSaid : Prop := storeToldRow.holds Try.pinned (OpenSpec.ofChange storeToldSpec)

/-- ITS FALSE NEIGHBOUR: 'it returns false'. Refute it at one input. -/
def storeToldWrong : ChangeSpec := { name := "storeTold", fn := fun _ => fun
  | [d1, d2] => { results := [.lit (.bool false)], args := [d1, d2] }
  | _ => none }
def StoreToldWrongFalsely : Prop := storeToldRow.holds Try.pinned (OpenSpec.ofChange storeToldWrong)

/-- 'purserlaw22.StorePast': WHATEVER THE INPUT: true; the input reads as it did. -/
def storePastSpec : ChangeSpec := { name := "storePast", fn := fun _ => fun
  | [d1, d2, d3, d4] => { results := [.lit (.bool true)], args := [d1, d2, d3, d4] }
  | _ => none }
def storePastRow : OpenClaim := { program := "ytlgebaofkolkoaa", sum := "9869573f13804f63e59df6ac57f0818512eb5452d061dbcd8104b1cf48ec13a8", func := "purser/purserlaw22.StorePast", spec := "storePast", inPlace := ["internal/bytealg.Compare", "slices.overlaps[*purser/api.Version]", "internal/bytealg.abigen_runtime_cmpstring"], unfollowed := true, recurses := true, plainKeys := false, apart := false }
def StorePastSaid : Prop := storePastRow.holds Try.pinned (OpenSpec.ofChange storePastSpec)

/-- ITS FALSE NEIGHBOUR: 'it returns false'. Refute it at one input. -/
def storePastWrong : ChangeSpec := { name := "storePast", fn := fun _ => fun
  | [d1, d2, d3, d4] => { results := [.lit (.bool false)], args := [d1, d2, d3, d4] }
  | _ => none }
def StorePastWrongFalsely : Prop := storePastRow.holds Try.pinned (OpenSpec.ofChange storePastWrong)

/- THE SECOND FORM. 'bulk': how many values and letters a reading holds, each counted each time it is reached (what is shared counts as often as it is met; a slice's spare places count too). A statement '..UptoSaid' is the law's where the arguments, and the package variables that the reading takes, are together of bulk at most 1048576: NARROWER than '..Said'. Prove '..Said' where nothing that the law and all that it calls make is longer than what came in: it says more and counts as full. Else prove '..UptoSaid'. A law counts once. -/
mutual
def uptoBulk {H : Type} : DataW H → Nat
  | .lit (.string bytes) => bytes.length + 1
  | .lit _ => 1
  | .nil => 1
  | .ptr d => uptoBulk d + 1
  | .slice elems spare => uptoBulkAll elems + uptoBulkAll spare + 1
  | .agg parts => uptoBulkAll parts + 1
  | .iface _ d => uptoBulk d + 1
  | .map entries => uptoBulkEntries entries + 1
  | .held _ => 1
def uptoBulkAll {H : Type} : List (DataW H) → Nat
  | [] => 0
  | d :: r => uptoBulk d + uptoBulkAll r
def uptoBulkEntries {H : Type} : List (Lit × DataW H) → Nat
  | [] => 0
  | x :: r => uptoBulkEntry x + uptoBulkEntries r
def uptoBulkEntry {H : Type} : Lit × DataW H → Nat
  | (.string bytes, d) => bytes.length + uptoBulk d + 1
  | (_, d) => uptoBulk d + 1
 end
def uptoSmall : (H : Type) → List (DataW H) → Bool := fun _ ds => decide (uptoBulkAll ds ≤ 1048576)
def OpenSpec.upto (s : _root_.Go.ChangeSpec) : _root_.Go.OpenSpec := { _root_.Go.OpenSpec.ofChange s with cond := some uptoSmall }

/-- 'purserlaw22.StoreNames', WHERE WHAT IT READS IS OF BULK AT MOST 1048576: true; the input reads as it did. -/
def storeNamesUptoRow : OpenClaim := { program := "ytlgebaofkolkoaa", sum := "9869573f13804f63e59df6ac57f0818512eb5452d061dbcd8104b1cf48ec13a8", func := "purser/purserlaw22.StoreNames", spec := "storeNames", inPlace := ["internal/bytealg.Compare", "slices.overlaps[*purser/api.Version]", "internal/bytealg.abigen_runtime_cmpstring"], unfollowed := true, recurses := true, plainKeys := false, apart := false, narrowed := true }
def StoreNamesUptoSaid : Prop := storeNamesUptoRow.holds Try.pinned (OpenSpec.upto storeNamesSpec)

/-- 'purserlaw21.IndexUndone', WHERE WHAT IT READS IS OF BULK AT MOST 1048576: true; the input reads as it did. -/
def indexUndoneUptoRow : OpenClaim := { program := "ytlgebaofkolkoaa", sum := "9869573f13804f63e59df6ac57f0818512eb5452d061dbcd8104b1cf48ec13a8", func := "purser/purserlaw21.IndexUndone", spec := "indexUndone", inPlace := ["internal/bytealg.Compare", "slices.overlaps[*purser/api.Version]"], unfollowed := true, recurses := true, plainKeys := false, apart := false, narrowed := true }
def IndexUndoneUptoSaid : Prop := indexUndoneUptoRow.holds Try.pinned (OpenSpec.upto indexUndoneSpec)

/-- 'purserlaw21.IndexLater', WHERE WHAT IT READS IS OF BULK AT MOST 1048576: true; the input reads as it did. -/
def indexLaterUptoRow : OpenClaim := { program := "ytlgebaofkolkoaa", sum := "9869573f13804f63e59df6ac57f0818512eb5452d061dbcd8104b1cf48ec13a8", func := "purser/purserlaw21.IndexLater", spec := "indexLater", inPlace := ["internal/bytealg.Compare", "slices.overlaps[*purser/api.Version]"], unfollowed := true, recurses := true, plainKeys := false, apart := false, narrowed := true }
def IndexLaterUptoSaid : Prop := indexLaterUptoRow.holds Try.pinned (OpenSpec.upto indexLaterSpec)

/-- 'purserlaw21.IndexOrder', WHERE WHAT IT READS IS OF BULK AT MOST 1048576: true; the input reads as it did. -/
def indexOrderUptoRow : OpenClaim := { program := "ytlgebaofkolkoaa", sum := "9869573f13804f63e59df6ac57f0818512eb5452d061dbcd8104b1cf48ec13a8", func := "purser/purserlaw21.IndexOrder", spec := "indexOrder", inPlace := ["internal/bytealg.Compare", "slices.overlaps[*purser/api.Version]"], unfollowed := true, recurses := true, plainKeys := false, apart := false, narrowed := true }
def IndexOrderUptoSaid : Prop := indexOrderUptoRow.holds Try.pinned (OpenSpec.upto indexOrderSpec)

/-- 'purserlaw21.IndexScripts', WHERE WHAT IT READS IS OF BULK AT MOST 1048576: true; the input reads as it did. -/
def indexScriptsUptoRow : OpenClaim := { program := "ytlgebaofkolkoaa", sum := "9869573f13804f63e59df6ac57f0818512eb5452d061dbcd8104b1cf48ec13a8", func := "purser/purserlaw21.IndexScripts", spec := "indexScripts", inPlace := ["internal/bytealg.Compare", "slices.overlaps[*purser/api.Version]"], unfollowed := true, recurses := true, plainKeys := false, apart := false, narrowed := true }
def IndexScriptsUptoSaid : Prop := indexScriptsUptoRow.holds Try.pinned (OpenSpec.upto indexScriptsSpec)

/-- 'purserlaw21.IndexPlays', WHERE WHAT IT READS IS OF BULK AT MOST 1048576: true; the input reads as it did. -/
def indexPlaysUptoRow : OpenClaim := { program := "ytlgebaofkolkoaa", sum := "9869573f13804f63e59df6ac57f0818512eb5452d061dbcd8104b1cf48ec13a8", func := "purser/purserlaw21.IndexPlays", spec := "indexPlays", inPlace := ["internal/bytealg.Compare", "slices.overlaps[*purser/api.Version]"], unfollowed := true, recurses := true, plainKeys := false, apart := false, narrowed := true }
def IndexPlaysUptoSaid : Prop := indexPlaysUptoRow.holds Try.pinned (OpenSpec.upto indexPlaysSpec)

/-- 'purserlaw21.IndexNames', WHERE WHAT IT READS IS OF BULK AT MOST 1048576: true; the input reads as it did. -/
def indexNamesUptoRow : OpenClaim := { program := "ytlgebaofkolkoaa", sum := "9869573f13804f63e59df6ac57f0818512eb5452d061dbcd8104b1cf48ec13a8", func := "purser/purserlaw21.IndexNames", spec := "indexNames", inPlace := ["internal/bytealg.Compare", "slices.overlaps[*purser/api.Version]"], unfollowed := true, recurses := true, plainKeys := false, apart := false, narrowed := true }
def IndexNamesUptoSaid : Prop := indexNamesUptoRow.holds Try.pinned (OpenSpec.upto indexNamesSpec)

/-- 'purserlaw22.StoreUndone', WHERE WHAT IT READS IS OF BULK AT MOST 1048576: true; the input reads as it did. -/
def storeUndoneUptoRow : OpenClaim := { program := "ytlgebaofkolkoaa", sum := "9869573f13804f63e59df6ac57f0818512eb5452d061dbcd8104b1cf48ec13a8", func := "purser/purserlaw22.StoreUndone", spec := "storeUndone", inPlace := ["internal/bytealg.Compare", "slices.overlaps[*purser/api.Version]"], unfollowed := true, recurses := true, plainKeys := false, apart := false, narrowed := true }
def StoreUndoneUptoSaid : Prop := storeUndoneUptoRow.holds Try.pinned (OpenSpec.upto storeUndoneSpec)

/-- 'purserlaw22.StoreSums', WHERE WHAT IT READS IS OF BULK AT MOST 1048576: true; the input reads as it did. -/
def storeSumsUptoRow : OpenClaim := { program := "ytlgebaofkolkoaa", sum := "9869573f13804f63e59df6ac57f0818512eb5452d061dbcd8104b1cf48ec13a8", func := "purser/purserlaw22.StoreSums", spec := "storeSums", inPlace := ["internal/bytealg.Compare", "slices.overlaps[*purser/api.Version]", "internal/bytealg.abigen_runtime_cmpstring"], unfollowed := true, recurses := true, plainKeys := false, apart := false, narrowed := true }
def StoreSumsUptoSaid : Prop := storeSumsUptoRow.holds Try.pinned (OpenSpec.upto storeSumsSpec)

/-- 'purserlaw22.StoreTold', WHERE WHAT IT READS IS OF BULK AT MOST 1048576: true; the input reads as it did. -/
def storeToldUptoRow : OpenClaim := { program := "ytlgebaofkolkoaa", sum := "9869573f13804f63e59df6ac57f0818512eb5452d061dbcd8104b1cf48ec13a8", func := "purser/purserlaw22.StoreTold", spec := "storeTold", inPlace := ["internal/bytealg.Compare", "slices.overlaps[*purser/api.Version]"], unfollowed := true, recurses := true, plainKeys := false, apart := false, narrowed := true }
def StoreToldUptoSaid : Prop := storeToldUptoRow.holds Try.pinned (OpenSpec.upto storeToldSpec)

/-- 'purserlaw22.StorePast', WHERE WHAT IT READS IS OF BULK AT MOST 1048576: true; the input reads as it did. -/
def storePastUptoRow : OpenClaim := { program := "ytlgebaofkolkoaa", sum := "9869573f13804f63e59df6ac57f0818512eb5452d061dbcd8104b1cf48ec13a8", func := "purser/purserlaw22.StorePast", spec := "storePast", inPlace := ["internal/bytealg.Compare", "slices.overlaps[*purser/api.Version]", "internal/bytealg.abigen_runtime_cmpstring"], unfollowed := true, recurses := true, plainKeys := false, apart := false, narrowed := true }
def StorePastUptoSaid : Prop := storePastUptoRow.holds Try.pinned (OpenSpec.upto storePastSpec)

end Rows
end Go.Proofs.Ytlgebaofkolkoaa
