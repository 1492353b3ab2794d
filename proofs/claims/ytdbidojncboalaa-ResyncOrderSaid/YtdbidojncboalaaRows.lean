/-
  No cell of these rows narrows 'for every input' (looked for: loops, veiled, ifaces, maps, wideKeys, modest, calm, conditions, laid).
  DERIVED. THE GIVEN ROWS OF THIS SEAT. 7 by the template 'for every input the law returns true; each argument reads behind the call as it read before'; 0 by the template 'total and deterministic' (their statements: YtdbidojncboalaaTotals.lean).
  GIVEN WITH THE SEED: the statements are not yours to turn. If you find one false, say at which input.
  Laid BY PROGRAM, IN A SANDBOX (cutbox-rows.mjs): the forced cells as the released guide's own fill.sh prints them over the translation 52aea8388b9d65f7… (all of the seat's roots in one cut). By AI agents, Wed Nov 11 2026. No macro, syntax, notation, axiom, sorry.
-/
import Derived.Test.YtdbidojncboalaaChecked
import GoSem.Claim
import GoSem.ClaimJoined
import GoSem.ClaimMapViews
import Derived.JoinedTies
import Derived.KernelRfl
namespace Go.Proofs.Ytdbidojncboalaa
/- THE CELL 'sum', in the pinned program and in every row, IS THE sha256 OF THE DUMP (.gsa) THAT YtdbidojncboalaaProg.lean LOADS. Nothing in Lean hashes anything: it is a label: what it is worth is what the hold of that sum in a sandbox is worth. -/
noncomputable def Try.pinned : Pinned := { name := "ytdbidojncboalaa", sum := "52aea8388b9d65f7e05c45beb61cb0a18242ae7156de2c5d07bd66a6ed9e5d6a", checked := Try.checked }
namespace Rows
def none {H : Type} : Left H := { results := [], args := [] }

/-- 'mosaiclaw20.ResyncTakes': WHATEVER THE INPUT: true; the input reads as it did. -/
def resyncTakesSpec : ChangeSpec := { name := "resyncTakes", fn := fun _ => fun
  | [d1, d2, d3] => { results := [.lit (.bool true)], args := [d1, d2, d3] }
  | _ => none }
def resyncTakesRow : OpenClaim := { program := "ytdbidojncboalaa", sum := "52aea8388b9d65f7e05c45beb61cb0a18242ae7156de2c5d07bd66a6ed9e5d6a", func := "mosaic/mosaiclaw20.ResyncTakes", spec := "resyncTakes", apart := false }
def ResyncTakesSaid : Prop := resyncTakesRow.holds Try.pinned (OpenSpec.ofChange resyncTakesSpec)

/-- ITS FALSE NEIGHBOUR: 'it returns false'. Refute it at one input. -/
def resyncTakesWrong : ChangeSpec := { name := "resyncTakes", fn := fun _ => fun
  | [d1, d2, d3] => { results := [.lit (.bool false)], args := [d1, d2, d3] }
  | _ => none }
def ResyncTakesWrongFalsely : Prop := resyncTakesRow.holds Try.pinned (OpenSpec.ofChange resyncTakesWrong)

/-- 'mosaiclaw20.ResyncNames': WHATEVER THE INPUT: true; the input reads as it did. -/
def resyncNamesSpec : ChangeSpec := { name := "resyncNames", fn := fun _ => fun
  | [] => { results := [.lit (.bool true)], args := [] }
  | _ => none }
def resyncNamesRow : OpenClaim := { program := "ytdbidojncboalaa", sum := "52aea8388b9d65f7e05c45beb61cb0a18242ae7156de2c5d07bd66a6ed9e5d6a", func := "mosaic/mosaiclaw20.ResyncNames", spec := "resyncNames", apart := false }
def ResyncNamesSaid : Prop := resyncNamesRow.holds Try.pinned (OpenSpec.ofChange resyncNamesSpec)

/-- ITS FALSE NEIGHBOUR: 'it returns false'. Refute it at one input. -/
def resyncNamesWrong : ChangeSpec := { name := "resyncNames", fn := fun _ => fun
  | [] => { results := [.lit (.bool false)], args := [] }
  | _ => none }
def ResyncNamesWrongFalsely : Prop := resyncNamesRow.holds Try.pinned (OpenSpec.ofChange resyncNamesWrong)

/-- 'mosaiclaw20.ResyncPlace': WHATEVER THE INPUT: true; the input reads as it did. -/
def resyncPlaceSpec : ChangeSpec := { name := "resyncPlace", fn := fun _ => fun
  | [d1, d2] => { results := [.lit (.bool true)], args := [d1, d2] }
  | _ => none }
def resyncPlaceRow : OpenClaim := { program := "ytdbidojncboalaa", sum := "52aea8388b9d65f7e05c45beb61cb0a18242ae7156de2c5d07bd66a6ed9e5d6a", func := "mosaic/mosaiclaw20.ResyncPlace", spec := "resyncPlace", apart := false }
def ResyncPlaceSaid : Prop := resyncPlaceRow.holds Try.pinned (OpenSpec.ofChange resyncPlaceSpec)

/-- ITS FALSE NEIGHBOUR: 'it returns false'. Refute it at one input. -/
def resyncPlaceWrong : ChangeSpec := { name := "resyncPlace", fn := fun _ => fun
  | [d1, d2] => { results := [.lit (.bool false)], args := [d1, d2] }
  | _ => none }
def ResyncPlaceWrongFalsely : Prop := resyncPlaceRow.holds Try.pinned (OpenSpec.ofChange resyncPlaceWrong)

/-- 'mosaiclaw20.ResyncGroups': WHATEVER THE INPUT: true; the input reads as it did. -/
def resyncGroupsSpec : ChangeSpec := { name := "resyncGroups", fn := fun _ => fun
  | [d1, d2] => { results := [.lit (.bool true)], args := [d1, d2] }
  | _ => none }
def resyncGroupsRow : OpenClaim := { program := "ytdbidojncboalaa", sum := "52aea8388b9d65f7e05c45beb61cb0a18242ae7156de2c5d07bd66a6ed9e5d6a", func := "mosaic/mosaiclaw20.ResyncGroups", spec := "resyncGroups", apart := false }
def ResyncGroupsSaid : Prop := resyncGroupsRow.holds Try.pinned (OpenSpec.ofChange resyncGroupsSpec)

/-- ITS FALSE NEIGHBOUR: 'it returns false'. Refute it at one input. -/
def resyncGroupsWrong : ChangeSpec := { name := "resyncGroups", fn := fun _ => fun
  | [d1, d2] => { results := [.lit (.bool false)], args := [d1, d2] }
  | _ => none }
def ResyncGroupsWrongFalsely : Prop := resyncGroupsRow.holds Try.pinned (OpenSpec.ofChange resyncGroupsWrong)

/-- 'mosaiclaw20.ResyncCut': WHATEVER THE INPUT: true; the input reads as it did. -/
def resyncCutSpec : ChangeSpec := { name := "resyncCut", fn := fun _ => fun
  | [d1, d2] => { results := [.lit (.bool true)], args := [d1, d2] }
  | _ => none }
def resyncCutRow : OpenClaim := { program := "ytdbidojncboalaa", sum := "52aea8388b9d65f7e05c45beb61cb0a18242ae7156de2c5d07bd66a6ed9e5d6a", func := "mosaic/mosaiclaw20.ResyncCut", spec := "resyncCut", apart := false }
def ResyncCutSaid : Prop := resyncCutRow.holds Try.pinned (OpenSpec.ofChange resyncCutSpec)

/-- ITS FALSE NEIGHBOUR: 'it returns false'. Refute it at one input. -/
def resyncCutWrong : ChangeSpec := { name := "resyncCut", fn := fun _ => fun
  | [d1, d2] => { results := [.lit (.bool false)], args := [d1, d2] }
  | _ => none }
def ResyncCutWrongFalsely : Prop := resyncCutRow.holds Try.pinned (OpenSpec.ofChange resyncCutWrong)

/-- 'mosaiclaw20.ResyncOrder': WHATEVER THE INPUT: true; the input reads as it did. -/
def resyncOrderSpec : ChangeSpec := { name := "resyncOrder", fn := fun _ => fun
  | [d1, d2] => { results := [.lit (.bool true)], args := [d1, d2] }
  | _ => none }
def resyncOrderRow : OpenClaim := { program := "ytdbidojncboalaa", sum := "52aea8388b9d65f7e05c45beb61cb0a18242ae7156de2c5d07bd66a6ed9e5d6a", func := "mosaic/mosaiclaw20.ResyncOrder", spec := "resyncOrder", apart := false }
def ResyncOrderSaid : Prop := resyncOrderRow.holds Try.pinned (OpenSpec.ofChange resyncOrderSpec)

/-- ITS FALSE NEIGHBOUR: 'it returns false'. Refute it at one input. -/
def resyncOrderWrong : ChangeSpec := { name := "resyncOrder", fn := fun _ => fun
  | [d1, d2] => { results := [.lit (.bool false)], args := [d1, d2] }
  | _ => none }
def ResyncOrderWrongFalsely : Prop := resyncOrderRow.holds Try.pinned (OpenSpec.ofChange resyncOrderWrong)

/-- 'mosaiclaw20.ResyncSplit': WHATEVER THE INPUT: true; the input reads as it did. -/
def resyncSplitSpec : ChangeSpec := { name := "resyncSplit", fn := fun _ => fun
  | [d1, d2] => { results := [.lit (.bool true)], args := [d1, d2] }
  | _ => none }
def resyncSplitRow : OpenClaim := { program := "ytdbidojncboalaa", sum := "52aea8388b9d65f7e05c45beb61cb0a18242ae7156de2c5d07bd66a6ed9e5d6a", func := "mosaic/mosaiclaw20.ResyncSplit", spec := "resyncSplit", apart := false }
def ResyncSplitSaid : Prop := resyncSplitRow.holds Try.pinned (OpenSpec.ofChange resyncSplitSpec)

/-- ITS FALSE NEIGHBOUR: 'it returns false'. Refute it at one input. -/
def resyncSplitWrong : ChangeSpec := { name := "resyncSplit", fn := fun _ => fun
  | [d1, d2] => { results := [.lit (.bool false)], args := [d1, d2] }
  | _ => none }
def ResyncSplitWrongFalsely : Prop := resyncSplitRow.holds Try.pinned (OpenSpec.ofChange resyncSplitWrong)

/- THE SECOND FORM. 'bulk': how many values and letters a reading holds, each counted each time it is reached (what is shared counts as often as it is met; a slice's spare places count too). A statement '..UptoSaid' is the law's where the arguments, and the package variables that the reading takes, are together of bulk at most 1048576: NARROWER than '..Said'. Prove '..Said' where nothing that the law and all that it calls make is longer than what came in: it says more and counts as full. Else prove '..UptoSaid'. A law counts once. -/
mutual
def uptoBulk {H : Type} : DataW H → Nat
  | .lit (.string bytes) => bytes.length + 1
  | .lit _ => 1
  | .nil => 1
  | .ptr d => uptoBulk d + 1
  | .slice elems spare => uptoBulkAll elems + uptoBulkAll spare + 1
  | .agg parts => uptoBulkAll parts + 1
  | .iface _ d => uptoBulk d + 1
  | .map entries => uptoBulkEntries entries + 1
  | .held _ => 1
def uptoBulkAll {H : Type} : List (DataW H) → Nat
  | [] => 0
  | d :: r => uptoBulk d + uptoBulkAll r
def uptoBulkEntries {H : Type} : List (Lit × DataW H) → Nat
  | [] => 0
  | x :: r => uptoBulkEntry x + uptoBulkEntries r
def uptoBulkEntry {H : Type} : Lit × DataW H → Nat
  | (.string bytes, d) => bytes.length + uptoBulk d + 1
  | (_, d) => uptoBulk d + 1
 end
def uptoSmall : (H : Type) → List (DataW H) → Bool := fun _ ds => decide (uptoBulkAll ds ≤ 1048576)
def OpenSpec.upto (s : _root_.Go.ChangeSpec) : _root_.Go.OpenSpec := { _root_.Go.OpenSpec.ofChange s with cond := some uptoSmall }

/-- 'mosaiclaw20.ResyncTakes', WHERE WHAT IT READS IS OF BULK AT MOST 1048576: true; the input reads as it did. -/
def resyncTakesUptoRow : OpenClaim := { program := "ytdbidojncboalaa", sum := "52aea8388b9d65f7e05c45beb61cb0a18242ae7156de2c5d07bd66a6ed9e5d6a", func := "mosaic/mosaiclaw20.ResyncTakes", spec := "resyncTakes", apart := false, narrowed := true }
def ResyncTakesUptoSaid : Prop := resyncTakesUptoRow.holds Try.pinned (OpenSpec.upto resyncTakesSpec)

/-- 'mosaiclaw20.ResyncNames', WHERE WHAT IT READS IS OF BULK AT MOST 1048576: true; the input reads as it did. -/
def resyncNamesUptoRow : OpenClaim := { program := "ytdbidojncboalaa", sum := "52aea8388b9d65f7e05c45beb61cb0a18242ae7156de2c5d07bd66a6ed9e5d6a", func := "mosaic/mosaiclaw20.ResyncNames", spec := "resyncNames", apart := false, narrowed := true }
def ResyncNamesUptoSaid : Prop := resyncNamesUptoRow.holds Try.pinned (OpenSpec.upto resyncNamesSpec)

/-- 'mosaiclaw20.ResyncPlace', WHERE WHAT IT READS IS OF BULK AT MOST 1048576: true; the input reads as it did. -/
def resyncPlaceUptoRow : OpenClaim := { program := "ytdbidojncboalaa", sum := "52aea8388b9d65f7e05c45beb61cb0a18242ae7156de2c5d07bd66a6ed9e5d6a", func := "mosaic/mosaiclaw20.ResyncPlace", spec := "resyncPlace", apart := false, narrowed := true }
def ResyncPlaceUptoSaid : Prop := resyncPlaceUptoRow.holds Try.pinned (OpenSpec.upto resyncPlaceSpec)

/-- 'mosaiclaw20.ResyncGroups', WHERE WHAT IT READS IS OF BULK AT MOST 1048576: true; the input reads as it did. -/
def resyncGroupsUptoRow : OpenClaim := { program := "ytdbidojncboalaa", sum := "52aea8388b9d65f7e05c45beb61cb0a18242ae7156de2c5d07bd66a6ed9e5d6a", func := "mosaic/mosaiclaw20.ResyncGroups", spec := "resyncGroups", apart := false, narrowed := true }
def ResyncGroupsUptoSaid : Prop := resyncGroupsUptoRow.holds Try.pinned (OpenSpec.upto resyncGroupsSpec)

/-- 'mosaiclaw20.ResyncCut', WHERE WHAT IT READS IS OF BULK AT MOST 1048576: true; the input reads as it did. -/
def resyncCutUptoRow : OpenClaim := { program := "ytdbidojncboalaa", sum := "52aea8388b9d65f7e05c45beb61cb0a18242ae7156de2c5d07bd66a6ed9e5d6a", func := "mosaic/mosaiclaw20.ResyncCut", spec := "resyncCut", apart := false, narrowed := true }
def ResyncCutUptoSaid : Prop := resyncCutUptoRow.holds Try.pinned (OpenSpec.upto resyncCutSpec)

/-- 'mosaiclaw20.ResyncOrder', WHERE WHAT IT READS IS OF BULK AT MOST 1048576: true; the input reads as it did. -/
def resyncOrderUptoRow : OpenClaim := { program := "ytdbidojncboalaa", sum := "52aea8388b9d65f7e05c45beb61cb0a18242ae7156de2c5d07bd66a6ed9e5d6a", func := "mosaic/mosaiclaw20.ResyncOrder", spec := "resyncOrder", apart := false, narrowed := true }
def ResyncOrderUptoSaid : Prop := resyncOrderUptoRow.holds Try.pinned (OpenSpec.upto resyncOrderSpec)

/-- 'mosaiclaw20.ResyncSplit', WHERE WHAT IT READS IS OF BULK AT MOST 1048576: true; the input reads as it did. -/
def resyncSplitUptoRow : OpenClaim := { program := "ytdbidojncboalaa", sum := "52aea8388b9d65f7e05c45beb61cb0a18242ae7156de2c5d07bd66a6ed9e5d6a", func := "mosaic/mosaiclaw20.ResyncSplit", spec := "resyncSplit", apart := false, narrowed := true }
def ResyncSplitUptoSaid : Prop := resyncSplitUptoRow.holds Try.pinned (OpenSpec.upto resyncSplitSpec)

end Rows
end Go.Proofs.Ytdbidojncboalaa
