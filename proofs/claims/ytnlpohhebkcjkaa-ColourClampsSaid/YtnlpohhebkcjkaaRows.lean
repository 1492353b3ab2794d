/-
  No cell of these rows narrows 'for every input' (looked for: loops, veiled, ifaces, maps, wideKeys, modest, calm, conditions, laid).
  DERIVED. THE GIVEN ROWS OF THIS SEAT. 10 by the template 'for every input the law returns true; each argument reads behind the call as it read before'; 0 by the template 'total and deterministic' (their statements: YtnlpohhebkcjkaaTotals.lean).
  GIVEN WITH THE SEED: the statements are not yours to turn. If you find one false, say at which input.
  Laid BY PROGRAM, IN A SANDBOX (cutbox-rows.mjs): the forced cells as the released guide's own fill.sh prints them over the translation 2c3a74e0c9a84567… (all of the seat's roots in one cut). By AI agents, Wed Nov 11 2026. No macro, syntax, notation, axiom, sorry.
-/
import Derived.Test.YtnlpohhebkcjkaaChecked
import GoSem.Claim
import GoSem.ClaimJoined
import GoSem.ClaimMapViews
import Derived.JoinedTies
import Derived.KernelRfl
namespace Go.Proofs.Ytnlpohhebkcjkaa
/- THE CELL 'sum', in the pinned program and in every row, IS THE sha256 OF THE DUMP (.gsa) THAT YtnlpohhebkcjkaaProg.lean LOADS. Nothing in Lean hashes anything: it is a label: what it is worth is what the hold of that sum in a sandbox is worth. -/
noncomputable def Try.pinned : Pinned := { name := "ytnlpohhebkcjkaa", sum := "2c3a74e0c9a84567b0a9a43fa72ef000f237d22fc467150b737dc28b98954fd6", checked := Try.checked }
namespace Rows
def none {H : Type} : Left H := { results := [], args := [] }

/-- 'mosaiclaw11.ColourClamps': WHATEVER THE INPUT: true; the input reads as it did. -/
def colourClampsSpec : ChangeSpec := { name := "colourClamps", fn := fun _ => fun
  | [d1, d2] => { results := [.lit (.bool true)], args := [d1, d2] }
  | _ => none }
def colourClampsRow : OpenClaim := { program := "ytnlpohhebkcjkaa", sum := "2c3a74e0c9a84567b0a9a43fa72ef000f237d22fc467150b737dc28b98954fd6", func := "mosaic/mosaiclaw11.ColourClamps", spec := "colourClamps", apart := false }
def ColourClampsSaid : Prop := colourClampsRow.holds Try.pinned (OpenSpec.ofChange colourClampsSpec)

/-- ITS FALSE NEIGHBOUR: 'it returns false'. Refute it at one input. -/
def colourClampsWrong : ChangeSpec := { name := "colourClamps", fn := fun _ => fun
  | [d1, d2] => { results := [.lit (.bool false)], args := [d1, d2] }
  | _ => none }
def ColourClampsWrongFalsely : Prop := colourClampsRow.holds Try.pinned (OpenSpec.ofChange colourClampsWrong)

/-- 'mosaiclaw11.ColourRGB': WHATEVER THE INPUT: true; the input reads as it did. -/
def colourRGBSpec : ChangeSpec := { name := "colourRGB", fn := fun _ => fun
  | [d1, d2, d3] => { results := [.lit (.bool true)], args := [d1, d2, d3] }
  | _ => none }
def colourRGBRow : OpenClaim := { program := "ytnlpohhebkcjkaa", sum := "2c3a74e0c9a84567b0a9a43fa72ef000f237d22fc467150b737dc28b98954fd6", func := "mosaic/mosaiclaw11.ColourRGB", spec := "colourRGB", apart := false }
def ColourRGBSaid : Prop := colourRGBRow.holds Try.pinned (OpenSpec.ofChange colourRGBSpec)

/-- ITS FALSE NEIGHBOUR: 'it returns false'. Refute it at one input. -/
def colourRGBWrong : ChangeSpec := { name := "colourRGB", fn := fun _ => fun
  | [d1, d2, d3] => { results := [.lit (.bool false)], args := [d1, d2, d3] }
  | _ => none }
def ColourRGBWrongFalsely : Prop := colourRGBRow.holds Try.pinned (OpenSpec.ofChange colourRGBWrong)

/-- 'mosaiclaw11.ColourYCC': WHATEVER THE INPUT: true; the input reads as it did. -/
def colourYCCSpec : ChangeSpec := { name := "colourYCC", fn := fun _ => fun
  | [d1, d2, d3] => { results := [.lit (.bool true)], args := [d1, d2, d3] }
  | _ => none }
def colourYCCRow : OpenClaim := { program := "ytnlpohhebkcjkaa", sum := "2c3a74e0c9a84567b0a9a43fa72ef000f237d22fc467150b737dc28b98954fd6", func := "mosaic/mosaiclaw11.ColourYCC", spec := "colourYCC", apart := false }
def ColourYCCSaid : Prop := colourYCCRow.holds Try.pinned (OpenSpec.ofChange colourYCCSpec)

/-- ITS FALSE NEIGHBOUR: 'it returns false'. Refute it at one input. -/
def colourYCCWrong : ChangeSpec := { name := "colourYCC", fn := fun _ => fun
  | [d1, d2, d3] => { results := [.lit (.bool false)], args := [d1, d2, d3] }
  | _ => none }
def ColourYCCWrongFalsely : Prop := colourYCCRow.holds Try.pinned (OpenSpec.ofChange colourYCCWrong)

/-- 'mosaiclaw11.ColourInks': WHATEVER THE INPUT: true; the input reads as it did. -/
def colourInksSpec : ChangeSpec := { name := "colourInks", fn := fun _ => fun
  | [d1, d2] => { results := [.lit (.bool true)], args := [d1, d2] }
  | _ => none }
def colourInksRow : OpenClaim := { program := "ytnlpohhebkcjkaa", sum := "2c3a74e0c9a84567b0a9a43fa72ef000f237d22fc467150b737dc28b98954fd6", func := "mosaic/mosaiclaw11.ColourInks", spec := "colourInks", apart := false }
def ColourInksSaid : Prop := colourInksRow.holds Try.pinned (OpenSpec.ofChange colourInksSpec)

/-- ITS FALSE NEIGHBOUR: 'it returns false'. Refute it at one input. -/
def colourInksWrong : ChangeSpec := { name := "colourInks", fn := fun _ => fun
  | [d1, d2] => { results := [.lit (.bool false)], args := [d1, d2] }
  | _ => none }
def ColourInksWrongFalsely : Prop := colourInksRow.holds Try.pinned (OpenSpec.ofChange colourInksWrong)

/-- 'mosaiclaw11.ColourReal': WHATEVER THE INPUT: true; the input reads as it did. -/
def colourRealSpec : ChangeSpec := { name := "colourReal", fn := fun _ => fun
  | [d1, d2, d3] => { results := [.lit (.bool true)], args := [d1, d2, d3] }
  | _ => none }
def colourRealRow : OpenClaim := { program := "ytnlpohhebkcjkaa", sum := "2c3a74e0c9a84567b0a9a43fa72ef000f237d22fc467150b737dc28b98954fd6", func := "mosaic/mosaiclaw11.ColourReal", spec := "colourReal", inPlace := ["math.Float64bits", "math.Float64frombits"], apart := false }
def ColourRealSaid : Prop := colourRealRow.holds Try.pinned (OpenSpec.ofChange colourRealSpec)

/-- ITS FALSE NEIGHBOUR: 'it returns false'. Refute it at one input. -/
def colourRealWrong : ChangeSpec := { name := "colourReal", fn := fun _ => fun
  | [d1, d2, d3] => { results := [.lit (.bool false)], args := [d1, d2, d3] }
  | _ => none }
def ColourRealWrongFalsely : Prop := colourRealRow.holds Try.pinned (OpenSpec.ofChange colourRealWrong)

/-- 'mosaiclaw11.ColourBack': WHATEVER THE INPUT: true; the input reads as it did. -/
def colourBackSpec : ChangeSpec := { name := "colourBack", fn := fun _ => fun
  | [d1, d2, d3] => { results := [.lit (.bool true)], args := [d1, d2, d3] }
  | _ => none }
def colourBackRow : OpenClaim := { program := "ytnlpohhebkcjkaa", sum := "2c3a74e0c9a84567b0a9a43fa72ef000f237d22fc467150b737dc28b98954fd6", func := "mosaic/mosaiclaw11.ColourBack", spec := "colourBack", inPlace := ["math.Float64bits", "math.Float64frombits"], apart := false }
def ColourBackSaid : Prop := colourBackRow.holds Try.pinned (OpenSpec.ofChange colourBackSpec)

/-- ITS FALSE NEIGHBOUR: 'it returns false'. Refute it at one input. -/
def colourBackWrong : ChangeSpec := { name := "colourBack", fn := fun _ => fun
  | [d1, d2, d3] => { results := [.lit (.bool false)], args := [d1, d2, d3] }
  | _ => none }
def ColourBackWrongFalsely : Prop := colourBackRow.holds Try.pinned (OpenSpec.ofChange colourBackWrong)

/-- 'mosaiclaw11.ColourByte': WHATEVER THE INPUT: true; the input reads as it did. -/
def colourByteSpec : ChangeSpec := { name := "colourByte", fn := fun _ => fun
  | [d1, d2] => { results := [.lit (.bool true)], args := [d1, d2] }
  | _ => none }
def colourByteRow : OpenClaim := { program := "ytnlpohhebkcjkaa", sum := "2c3a74e0c9a84567b0a9a43fa72ef000f237d22fc467150b737dc28b98954fd6", func := "mosaic/mosaiclaw11.ColourByte", spec := "colourByte", inPlace := ["math.Float64bits", "math.Float64frombits"], apart := false }
def ColourByteSaid : Prop := colourByteRow.holds Try.pinned (OpenSpec.ofChange colourByteSpec)

/-- ITS FALSE NEIGHBOUR: 'it returns false'. Refute it at one input. -/
def colourByteWrong : ChangeSpec := { name := "colourByte", fn := fun _ => fun
  | [d1, d2] => { results := [.lit (.bool false)], args := [d1, d2] }
  | _ => none }
def ColourByteWrongFalsely : Prop := colourByteRow.holds Try.pinned (OpenSpec.ofChange colourByteWrong)

/-- 'mosaiclaw11.ColourNear': WHATEVER THE INPUT: true; the input reads as it did. -/
def colourNearSpec : ChangeSpec := { name := "colourNear", fn := fun _ => fun
  | [d1, d2, d3, d4] => { results := [.lit (.bool true)], args := [d1, d2, d3, d4] }
  | _ => none }
def colourNearRow : OpenClaim := { program := "ytnlpohhebkcjkaa", sum := "2c3a74e0c9a84567b0a9a43fa72ef000f237d22fc467150b737dc28b98954fd6", func := "mosaic/mosaiclaw11.ColourNear", spec := "colourNear", inPlace := ["math.Float64bits", "math.Float64frombits"], apart := false }
def ColourNearSaid : Prop := colourNearRow.holds Try.pinned (OpenSpec.ofChange colourNearSpec)

/-- ITS FALSE NEIGHBOUR: 'it returns false'. Refute it at one input. -/
def colourNearWrong : ChangeSpec := { name := "colourNear", fn := fun _ => fun
  | [d1, d2, d3, d4] => { results := [.lit (.bool false)], args := [d1, d2, d3, d4] }
  | _ => none }
def ColourNearWrongFalsely : Prop := colourNearRow.holds Try.pinned (OpenSpec.ofChange colourNearWrong)

/-- 'mosaiclaw11.ColourAll': WHATEVER THE INPUT: true; the input reads as it did. -/
def colourAllSpec : ChangeSpec := { name := "colourAll", fn := fun _ => fun
  | [] => { results := [.lit (.bool true)], args := [] }
  | _ => none }
def colourAllRow : OpenClaim := { program := "ytnlpohhebkcjkaa", sum := "2c3a74e0c9a84567b0a9a43fa72ef000f237d22fc467150b737dc28b98954fd6", func := "mosaic/mosaiclaw11.ColourAll", spec := "colourAll", inPlace := ["math.Float64bits", "math.Float64frombits"], apart := false }
def ColourAllSaid : Prop := colourAllRow.holds Try.pinned (OpenSpec.ofChange colourAllSpec)

/-- ITS FALSE NEIGHBOUR: 'it returns false'. Refute it at one input. -/
def colourAllWrong : ChangeSpec := { name := "colourAll", fn := fun _ => fun
  | [] => { results := [.lit (.bool false)], args := [] }
  | _ => none }
def ColourAllWrongFalsely : Prop := colourAllRow.holds Try.pinned (OpenSpec.ofChange colourAllWrong)

/-- 'mosaiclaw11.ColourInked': WHATEVER THE INPUT: true; the input reads as it did. -/
def colourInkedSpec : ChangeSpec := { name := "colourInked", fn := fun _ => fun
  | [d1, d2, d3, d4] => { results := [.lit (.bool true)], args := [d1, d2, d3, d4] }
  | _ => none }
def colourInkedRow : OpenClaim := { program := "ytnlpohhebkcjkaa", sum := "2c3a74e0c9a84567b0a9a43fa72ef000f237d22fc467150b737dc28b98954fd6", func := "mosaic/mosaiclaw11.ColourInked", spec := "colourInked", inPlace := ["math.Float64bits", "math.Float64frombits"], apart := false }
def ColourInkedSaid : Prop := colourInkedRow.holds Try.pinned (OpenSpec.ofChange colourInkedSpec)

/-- ITS FALSE NEIGHBOUR: 'it returns false'. Refute it at one input. -/
def colourInkedWrong : ChangeSpec := { name := "colourInked", fn := fun _ => fun
  | [d1, d2, d3, d4] => { results := [.lit (.bool false)], args := [d1, d2, d3, d4] }
  | _ => none }
def ColourInkedWrongFalsely : Prop := colourInkedRow.holds Try.pinned (OpenSpec.ofChange colourInkedWrong)

/- THE SECOND FORM. 'bulk': how many values and letters a reading holds, each counted each time it is reached (what is shared counts as often as it is met; a slice's spare places count too). A statement '..UptoSaid' is the law's where the arguments, and the package variables that the reading takes, are together of bulk at most 1048576: NARROWER than '..Said'. Prove '..Said' where nothing that the law and all that it calls make is longer than what came in: it says more and counts as full. Else prove '..UptoSaid'. A law counts once. -/
mutual
def uptoBulk {H : Type} : DataW H → Nat
  | .lit (.string bytes) => bytes.length + 1
  | .lit _ => 1
  | .nil => 1
  | .ptr d => uptoBulk d + 1
  | .slice elems spare => uptoBulkAll elems + uptoBulkAll spare + 1
  | .agg parts => uptoBulkAll parts + 1
  | .iface _ d => uptoBulk d + 1
  | .map entries => uptoBulkEntries entries + 1
  | .held _ => 1
def uptoBulkAll {H : Type} : List (DataW H) → Nat
  | [] => 0
  | d :: r => uptoBulk d + uptoBulkAll r
def uptoBulkEntries {H : Type} : List (Lit × DataW H) → Nat
  | [] => 0
  | x :: r => uptoBulkEntry x + uptoBulkEntries r
def uptoBulkEntry {H : Type} : Lit × DataW H → Nat
  | (.string bytes, d) => bytes.length + uptoBulk d + 1
  | (_, d) => uptoBulk d + 1
 end
def uptoSmall : (H : Type) → List (DataW H) → Bool := fun _ ds => decide (uptoBulkAll ds ≤ 1048576)
def OpenSpec.upto (s : _root_.Go.ChangeSpec) : _root_.Go.OpenSpec := { _root_.Go.OpenSpec.ofChange s with cond := some uptoSmall }

/-- 'mosaiclaw11.ColourClamps', WHERE WHAT IT READS IS OF BULK AT MOST 1048576: true; the input reads as it did. -/
def colourClampsUptoRow : OpenClaim := { program := "ytnlpohhebkcjkaa", sum := "2c3a74e0c9a84567b0a9a43fa72ef000f237d22fc467150b737dc28b98954fd6", func := "mosaic/mosaiclaw11.ColourClamps", spec := "colourClamps", apart := false, narrowed := true }
def ColourClampsUptoSaid : Prop := colourClampsUptoRow.holds Try.pinned (OpenSpec.upto colourClampsSpec)

/-- 'mosaiclaw11.ColourRGB', WHERE WHAT IT READS IS OF BULK AT MOST 1048576: true; the input reads as it did. -/
def colourRGBUptoRow : OpenClaim := { program := "ytnlpohhebkcjkaa", sum := "2c3a74e0c9a84567b0a9a43fa72ef000f237d22fc467150b737dc28b98954fd6", func := "mosaic/mosaiclaw11.ColourRGB", spec := "colourRGB", apart := false, narrowed := true }
def ColourRGBUptoSaid : Prop := colourRGBUptoRow.holds Try.pinned (OpenSpec.upto colourRGBSpec)

/-- 'mosaiclaw11.ColourYCC', WHERE WHAT IT READS IS OF BULK AT MOST 1048576: true; the input reads as it did. -/
def colourYCCUptoRow : OpenClaim := { program := "ytnlpohhebkcjkaa", sum := "2c3a74e0c9a84567b0a9a43fa72ef000f237d22fc467150b737dc28b98954fd6", func := "mosaic/mosaiclaw11.ColourYCC", spec := "colourYCC", apart := false, narrowed := true }
def ColourYCCUptoSaid : Prop := colourYCCUptoRow.holds Try.pinned (OpenSpec.upto colourYCCSpec)

/-- 'mosaiclaw11.ColourInks', WHERE WHAT IT READS IS OF BULK AT MOST 1048576: true; the input reads as it did. -/
def colourInksUptoRow : OpenClaim := { program := "ytnlpohhebkcjkaa", sum := "2c3a74e0c9a84567b0a9a43fa72ef000f237d22fc467150b737dc28b98954fd6", func := "mosaic/mosaiclaw11.ColourInks", spec := "colourInks", apart := false, narrowed := true }
def ColourInksUptoSaid : Prop := colourInksUptoRow.holds Try.pinned (OpenSpec.upto colourInksSpec)

/-- 'mosaiclaw11.ColourReal', WHERE WHAT IT READS IS OF BULK AT MOST 1048576: true; the input reads as it did. -/
def colourRealUptoRow : OpenClaim := { program := "ytnlpohhebkcjkaa", sum := "2c3a74e0c9a84567b0a9a43fa72ef000f237d22fc467150b737dc28b98954fd6", func := "mosaic/mosaiclaw11.ColourReal", spec := "colourReal", inPlace := ["math.Float64bits", "math.Float64frombits"], apart := false, narrowed := true }
def ColourRealUptoSaid : Prop := colourRealUptoRow.holds Try.pinned (OpenSpec.upto colourRealSpec)

/-- 'mosaiclaw11.ColourBack', WHERE WHAT IT READS IS OF BULK AT MOST 1048576: true; the input reads as it did. -/
def colourBackUptoRow : OpenClaim := { program := "ytnlpohhebkcjkaa", sum := "2c3a74e0c9a84567b0a9a43fa72ef000f237d22fc467150b737dc28b98954fd6", func := "mosaic/mosaiclaw11.ColourBack", spec := "colourBack", inPlace := ["math.Float64bits", "math.Float64frombits"], apart := false, narrowed := true }
def ColourBackUptoSaid : Prop := colourBackUptoRow.holds Try.pinned (OpenSpec.upto colourBackSpec)

/-- 'mosaiclaw11.ColourByte', WHERE WHAT IT READS IS OF BULK AT MOST 1048576: true; the input reads as it did. -/
def colourByteUptoRow : OpenClaim := { program := "ytnlpohhebkcjkaa", sum := "2c3a74e0c9a84567b0a9a43fa72ef000f237d22fc467150b737dc28b98954fd6", func := "mosaic/mosaiclaw11.ColourByte", spec := "colourByte", inPlace := ["math.Float64bits", "math.Float64frombits"], apart := false, narrowed := true }
def ColourByteUptoSaid : Prop := colourByteUptoRow.holds Try.pinned (OpenSpec.upto colourByteSpec)

/-- 'mosaiclaw11.ColourNear', WHERE WHAT IT READS IS OF BULK AT MOST 1048576: true; the input reads as it did. -/
def colourNearUptoRow : OpenClaim := { program := "ytnlpohhebkcjkaa", sum := "2c3a74e0c9a84567b0a9a43fa72ef000f237d22fc467150b737dc28b98954fd6", func := "mosaic/mosaiclaw11.ColourNear", spec := "colourNear", inPlace := ["math.Float64bits", "math.Float64frombits"], apart := false, narrowed := true }
def ColourNearUptoSaid : Prop := colourNearUptoRow.holds Try.pinned (OpenSpec.upto colourNearSpec)

/-- 'mosaiclaw11.ColourAll', WHERE WHAT IT READS IS OF BULK AT MOST 1048576: true; the input reads as it did. -/
def colourAllUptoRow : OpenClaim := { program := "ytnlpohhebkcjkaa", sum := "2c3a74e0c9a84567b0a9a43fa72ef000f237d22fc467150b737dc28b98954fd6", func := "mosaic/mosaiclaw11.ColourAll", spec := "colourAll", inPlace := ["math.Float64bits", "math.Float64frombits"], apart := false, narrowed := true }
def ColourAllUptoSaid : Prop := colourAllUptoRow.holds Try.pinned (OpenSpec.upto colourAllSpec)

/-- 'mosaiclaw11.ColourInked', WHERE WHAT IT READS IS OF BULK AT MOST 1048576: true; the input reads as it did. -/
def colourInkedUptoRow : OpenClaim := { program := "ytnlpohhebkcjkaa", sum := "2c3a74e0c9a84567b0a9a43fa72ef000f237d22fc467150b737dc28b98954fd6", func := "mosaic/mosaiclaw11.ColourInked", spec := "colourInked", inPlace := ["math.Float64bits", "math.Float64frombits"], apart := false, narrowed := true }
def ColourInkedUptoSaid : Prop := colourInkedUptoRow.holds Try.pinned (OpenSpec.upto colourInkedSpec)

end Rows
end Go.Proofs.Ytnlpohhebkcjkaa
