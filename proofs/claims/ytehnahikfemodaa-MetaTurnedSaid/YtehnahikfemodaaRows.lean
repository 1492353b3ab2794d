/-
  No cell of these rows narrows 'for every input' (looked for: loops, veiled, ifaces, maps, wideKeys, modest, calm, conditions, laid).
  DERIVED. THE GIVEN ROWS OF THIS SEAT. 7 by the template 'for every input the law returns true; each argument reads behind the call as it read before'; 0 by the template 'total and deterministic' (their statements: YtehnahikfemodaaTotals.lean).
  GIVEN WITH THE SEED: the statements are not yours to turn. If you find one false, say at which input.
  Laid BY PROGRAM, IN A SANDBOX (cutbox-rows.mjs): the forced cells as the released guide's own fill.sh prints them over the translation 077e1edd406e079b… (all of the seat's roots in one cut). By AI agents, Wed Nov 11 2026. No macro, syntax, notation, axiom, sorry.
-/
import Derived.Test.YtehnahikfemodaaChecked
import GoSem.Claim
import GoSem.ClaimJoined
import GoSem.ClaimMapViews
import Derived.JoinedTies
import Derived.KernelRfl
namespace Go.Proofs.Ytehnahikfemodaa
/- THE CELL 'sum', in the pinned program and in every row, IS THE sha256 OF THE DUMP (.gsa) THAT YtehnahikfemodaaProg.lean LOADS. Nothing in Lean hashes anything: it is a label: what it is worth is what the hold of that sum in a sandbox is worth. -/
noncomputable def Try.pinned : Pinned := { name := "ytehnahikfemodaa", sum := "077e1edd406e079b7786249bcb556730579c0698ba6b100349860cbf50b7a915", checked := Try.checked }
namespace Rows
def none {H : Type} : Left H := { results := [], args := [] }

/-- 'mosaiclaw16.MetaComments': WHATEVER THE INPUT: true; the input reads as it did. -/
def metaCommentsSpec : ChangeSpec := { name := "metaComments", fn := fun _ => fun
  | [d1, d2] => { results := [.lit (.bool true)], args := [d1, d2] }
  | _ => none }
def metaCommentsRow : OpenClaim := { program := "ytehnahikfemodaa", sum := "077e1edd406e079b7786249bcb556730579c0698ba6b100349860cbf50b7a915", func := "mosaic/mosaiclaw16.MetaComments", spec := "metaComments", apart := false }
def MetaCommentsSaid : Prop := metaCommentsRow.holds Try.pinned (OpenSpec.ofChange metaCommentsSpec)

/-- ITS FALSE NEIGHBOUR: 'it returns false'. Refute it at one input. -/
def metaCommentsWrong : ChangeSpec := { name := "metaComments", fn := fun _ => fun
  | [d1, d2] => { results := [.lit (.bool false)], args := [d1, d2] }
  | _ => none }
def MetaCommentsWrongFalsely : Prop := metaCommentsRow.holds Try.pinned (OpenSpec.ofChange metaCommentsWrong)

/-- 'mosaiclaw16.MetaMade': WHATEVER THE INPUT: true; the input reads as it did. -/
def metaMadeSpec : ChangeSpec := { name := "metaMade", fn := fun _ => fun
  | [d1, d2, d3] => { results := [.lit (.bool true)], args := [d1, d2, d3] }
  | _ => none }
def metaMadeRow : OpenClaim := { program := "ytehnahikfemodaa", sum := "077e1edd406e079b7786249bcb556730579c0698ba6b100349860cbf50b7a915", func := "mosaic/mosaiclaw16.MetaMade", spec := "metaMade", apart := false }
def MetaMadeSaid : Prop := metaMadeRow.holds Try.pinned (OpenSpec.ofChange metaMadeSpec)

/-- ITS FALSE NEIGHBOUR: 'it returns false'. Refute it at one input. -/
def metaMadeWrong : ChangeSpec := { name := "metaMade", fn := fun _ => fun
  | [d1, d2, d3] => { results := [.lit (.bool false)], args := [d1, d2, d3] }
  | _ => none }
def MetaMadeWrongFalsely : Prop := metaMadeRow.holds Try.pinned (OpenSpec.ofChange metaMadeWrong)

/-- 'mosaiclaw16.MetaAsked': WHATEVER THE INPUT: true; the input reads as it did. -/
def metaAskedSpec : ChangeSpec := { name := "metaAsked", fn := fun _ => fun
  | [d] => { results := [.lit (.bool true)], args := [d] }
  | _ => none }
def metaAskedRow : OpenClaim := { program := "ytehnahikfemodaa", sum := "077e1edd406e079b7786249bcb556730579c0698ba6b100349860cbf50b7a915", func := "mosaic/mosaiclaw16.MetaAsked", spec := "metaAsked", inPlace := ["internal/abi.NoEscape"], unfollowed := true, recurses := true, apart := false }
def MetaAskedSaid : Prop := metaAskedRow.holds Try.pinned (OpenSpec.ofChange metaAskedSpec)

/-- ITS FALSE NEIGHBOUR: 'it returns false'. Refute it at one input. -/
def metaAskedWrong : ChangeSpec := { name := "metaAsked", fn := fun _ => fun
  | [d] => { results := [.lit (.bool false)], args := [d] }
  | _ => none }
def MetaAskedWrongFalsely : Prop := metaAskedRow.holds Try.pinned (OpenSpec.ofChange metaAskedWrong)

/-- 'mosaiclaw16.MetaTurned': WHATEVER THE INPUT: true; the input reads as it did. -/
def metaTurnedSpec : ChangeSpec := { name := "metaTurned", fn := fun _ => fun
  | [d1, d2, d3, d4, d5, d6, d7] => { results := [.lit (.bool true)], args := [d1, d2, d3, d4, d5, d6, d7] }
  | _ => none }
def metaTurnedRow : OpenClaim := { program := "ytehnahikfemodaa", sum := "077e1edd406e079b7786249bcb556730579c0698ba6b100349860cbf50b7a915", func := "mosaic/mosaiclaw16.MetaTurned", spec := "metaTurned", inPlace := ["internal/abi.NoEscape"], unfollowed := true, recurses := true, apart := false }
def MetaTurnedSaid : Prop := metaTurnedRow.holds Try.pinned (OpenSpec.ofChange metaTurnedSpec)

/-- ITS FALSE NEIGHBOUR: 'it returns false'. Refute it at one input. -/
def metaTurnedWrong : ChangeSpec := { name := "metaTurned", fn := fun _ => fun
  | [d1, d2, d3, d4, d5, d6, d7] => { results := [.lit (.bool false)], args := [d1, d2, d3, d4, d5, d6, d7] }
  | _ => none }
def MetaTurnedWrongFalsely : Prop := metaTurnedRow.holds Try.pinned (OpenSpec.ofChange metaTurnedWrong)

/-- 'mosaiclaw16.MetaNames': WHATEVER THE INPUT: true; the input reads as it did. -/
def metaNamesSpec : ChangeSpec := { name := "metaNames", fn := fun _ => fun
  | [] => { results := [.lit (.bool true)], args := [] }
  | _ => none }
def metaNamesRow : OpenClaim := { program := "ytehnahikfemodaa", sum := "077e1edd406e079b7786249bcb556730579c0698ba6b100349860cbf50b7a915", func := "mosaic/mosaiclaw16.MetaNames", spec := "metaNames", inPlace := ["internal/abi.NoEscape"], unfollowed := true, recurses := true, apart := false }
def MetaNamesSaid : Prop := metaNamesRow.holds Try.pinned (OpenSpec.ofChange metaNamesSpec)

/-- ITS FALSE NEIGHBOUR: 'it returns false'. Refute it at one input. -/
def metaNamesWrong : ChangeSpec := { name := "metaNames", fn := fun _ => fun
  | [] => { results := [.lit (.bool false)], args := [] }
  | _ => none }
def MetaNamesWrongFalsely : Prop := metaNamesRow.holds Try.pinned (OpenSpec.ofChange metaNamesWrong)

/-- 'mosaiclaw16.MetaBack': WHATEVER THE INPUT: true; the input reads as it did. -/
def metaBackSpec : ChangeSpec := { name := "metaBack", fn := fun _ => fun
  | [d1, d2, d3, d4, d5] => { results := [.lit (.bool true)], args := [d1, d2, d3, d4, d5] }
  | _ => none }
def metaBackRow : OpenClaim := { program := "ytehnahikfemodaa", sum := "077e1edd406e079b7786249bcb556730579c0698ba6b100349860cbf50b7a915", func := "mosaic/mosaiclaw16.MetaBack", spec := "metaBack", inPlace := ["internal/abi.NoEscape"], unfollowed := true, recurses := true, apart := false }
def MetaBackSaid : Prop := metaBackRow.holds Try.pinned (OpenSpec.ofChange metaBackSpec)

/-- ITS FALSE NEIGHBOUR: 'it returns false'. Refute it at one input. -/
def metaBackWrong : ChangeSpec := { name := "metaBack", fn := fun _ => fun
  | [d1, d2, d3, d4, d5] => { results := [.lit (.bool false)], args := [d1, d2, d3, d4, d5] }
  | _ => none }
def MetaBackWrongFalsely : Prop := metaBackRow.holds Try.pinned (OpenSpec.ofChange metaBackWrong)

/-- 'mosaiclaw16.MetaOther': WHATEVER THE INPUT: true; the input reads as it did. -/
def metaOtherSpec : ChangeSpec := { name := "metaOther", fn := fun _ => fun
  | [d1, d2, d3] => { results := [.lit (.bool true)], args := [d1, d2, d3] }
  | _ => none }
def metaOtherRow : OpenClaim := { program := "ytehnahikfemodaa", sum := "077e1edd406e079b7786249bcb556730579c0698ba6b100349860cbf50b7a915", func := "mosaic/mosaiclaw16.MetaOther", spec := "metaOther", inPlace := ["internal/abi.NoEscape"], unfollowed := true, recurses := true, apart := false }
def MetaOtherSaid : Prop := metaOtherRow.holds Try.pinned (OpenSpec.ofChange metaOtherSpec)

/-- ITS FALSE NEIGHBOUR: 'it returns false'. Refute it at one input. -/
def metaOtherWrong : ChangeSpec := { name := "metaOther", fn := fun _ => fun
  | [d1, d2, d3] => { results := [.lit (.bool false)], args := [d1, d2, d3] }
  | _ => none }
def MetaOtherWrongFalsely : Prop := metaOtherRow.holds Try.pinned (OpenSpec.ofChange metaOtherWrong)

/- THE SECOND FORM. 'bulk': how many values and letters a reading holds, each counted each time it is reached (what is shared counts as often as it is met; a slice's spare places count too). A statement '..UptoSaid' is the law's where the arguments, and the package variables that the reading takes, are together of bulk at most 1048576: NARROWER than '..Said'. Prove '..Said' where nothing that the law and all that it calls make is longer than what came in: it says more and counts as full. Else prove '..UptoSaid'. A law counts once. -/
mutual
def uptoBulk {H : Type} : DataW H → Nat
  | .lit (.string bytes) => bytes.length + 1
  | .lit _ => 1
  | .nil => 1
  | .ptr d => uptoBulk d + 1
  | .slice elems spare => uptoBulkAll elems + uptoBulkAll spare + 1
  | .agg parts => uptoBulkAll parts + 1
  | .iface _ d => uptoBulk d + 1
  | .map entries => uptoBulkEntries entries + 1
  | .held _ => 1
def uptoBulkAll {H : Type} : List (DataW H) → Nat
  | [] => 0
  | d :: r => uptoBulk d + uptoBulkAll r
def uptoBulkEntries {H : Type} : List (Lit × DataW H) → Nat
  | [] => 0
  | x :: r => uptoBulkEntry x + uptoBulkEntries r
def uptoBulkEntry {H : Type} : Lit × DataW H → Nat
  | (.string bytes, d) => bytes.length + uptoBulk d + 1
  | (_, d) => uptoBulk d + 1
 end
def uptoSmall : (H : Type) → List (DataW H) → Bool := fun _ ds => decide (uptoBulkAll ds ≤ 1048576)
def OpenSpec.upto (s : _root_.Go.ChangeSpec) : _root_.Go.OpenSpec := { _root_.Go.OpenSpec.ofChange s with cond := some uptoSmall }

/-- 'mosaiclaw16.MetaComments', WHERE WHAT IT READS IS OF BULK AT MOST 1048576: true; the input reads as it did. -/
def metaCommentsUptoRow : OpenClaim := { program := "ytehnahikfemodaa", sum := "077e1edd406e079b7786249bcb556730579c0698ba6b100349860cbf50b7a915", func := "mosaic/mosaiclaw16.MetaComments", spec := "metaComments", apart := false, narrowed := true }
def MetaCommentsUptoSaid : Prop := metaCommentsUptoRow.holds Try.pinned (OpenSpec.upto metaCommentsSpec)

/-- 'mosaiclaw16.MetaMade', WHERE WHAT IT READS IS OF BULK AT MOST 1048576: true; the input reads as it did. -/
def metaMadeUptoRow : OpenClaim := { program := "ytehnahikfemodaa", sum := "077e1edd406e079b7786249bcb556730579c0698ba6b100349860cbf50b7a915", func := "mosaic/mosaiclaw16.MetaMade", spec := "metaMade", apart := false, narrowed := true }
def MetaMadeUptoSaid : Prop := metaMadeUptoRow.holds Try.pinned (OpenSpec.upto metaMadeSpec)

/-- 'mosaiclaw16.MetaAsked', WHERE WHAT IT READS IS OF BULK AT MOST 1048576: true; the input reads as it did. -/
def metaAskedUptoRow : OpenClaim := { program := "ytehnahikfemodaa", sum := "077e1edd406e079b7786249bcb556730579c0698ba6b100349860cbf50b7a915", func := "mosaic/mosaiclaw16.MetaAsked", spec := "metaAsked", inPlace := ["internal/abi.NoEscape"], unfollowed := true, recurses := true, apart := false, narrowed := true }
def MetaAskedUptoSaid : Prop := metaAskedUptoRow.holds Try.pinned (OpenSpec.upto metaAskedSpec)

/-- 'mosaiclaw16.MetaTurned', WHERE WHAT IT READS IS OF BULK AT MOST 1048576: true; the input reads as it did. -/
def metaTurnedUptoRow : OpenClaim := { program := "ytehnahikfemodaa", sum := "077e1edd406e079b7786249bcb556730579c0698ba6b100349860cbf50b7a915", func := "mosaic/mosaiclaw16.MetaTurned", spec := "metaTurned", inPlace := ["internal/abi.NoEscape"], unfollowed := true, recurses := true, apart := false, narrowed := true }
def MetaTurnedUptoSaid : Prop := metaTurnedUptoRow.holds Try.pinned (OpenSpec.upto metaTurnedSpec)

/-- 'mosaiclaw16.MetaNames', WHERE WHAT IT READS IS OF BULK AT MOST 1048576: true; the input reads as it did. -/
def metaNamesUptoRow : OpenClaim := { program := "ytehnahikfemodaa", sum := "077e1edd406e079b7786249bcb556730579c0698ba6b100349860cbf50b7a915", func := "mosaic/mosaiclaw16.MetaNames", spec := "metaNames", inPlace := ["internal/abi.NoEscape"], unfollowed := true, recurses := true, apart := false, narrowed := true }
def MetaNamesUptoSaid : Prop := metaNamesUptoRow.holds Try.pinned (OpenSpec.upto metaNamesSpec)

/-- 'mosaiclaw16.MetaBack', WHERE WHAT IT READS IS OF BULK AT MOST 1048576: true; the input reads as it did. -/
def metaBackUptoRow : OpenClaim := { program := "ytehnahikfemodaa", sum := "077e1edd406e079b7786249bcb556730579c0698ba6b100349860cbf50b7a915", func := "mosaic/mosaiclaw16.MetaBack", spec := "metaBack", inPlace := ["internal/abi.NoEscape"], unfollowed := true, recurses := true, apart := false, narrowed := true }
def MetaBackUptoSaid : Prop := metaBackUptoRow.holds Try.pinned (OpenSpec.upto metaBackSpec)

/-- 'mosaiclaw16.MetaOther', WHERE WHAT IT READS IS OF BULK AT MOST 1048576: true; the input reads as it did. -/
def metaOtherUptoRow : OpenClaim := { program := "ytehnahikfemodaa", sum := "077e1edd406e079b7786249bcb556730579c0698ba6b100349860cbf50b7a915", func := "mosaic/mosaiclaw16.MetaOther", spec := "metaOther", inPlace := ["internal/abi.NoEscape"], unfollowed := true, recurses := true, apart := false, narrowed := true }
def MetaOtherUptoSaid : Prop := metaOtherUptoRow.holds Try.pinned (OpenSpec.upto metaOtherSpec)

end Rows
end Go.Proofs.Ytehnahikfemodaa
