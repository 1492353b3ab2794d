/-
  No cell of these rows narrows 'for every input' (looked for: loops, veiled, ifaces, maps, wideKeys, modest, calm, conditions, laid).
  DERIVED. THE GIVEN ROWS OF THIS SEAT. 9 by the template 'for every input the law returns true; each argument reads behind the call as it read before'; 0 by the template 'total and deterministic' (their statements: YtfaciljklligeaaTotals.lean).
  GIVEN WITH THE SEED: the statements are not yours to turn. If you find one false, say at which input.
  Laid BY PROGRAM, IN A SANDBOX (cutbox-rows.mjs): the forced cells as the released guide's own fill.sh prints them over the translation d5592cf885513386… (all of the seat's roots in one cut). By AI agents, Wed Nov 11 2026. No macro, syntax, notation, axiom, sorry.
-/
import Derived.Test.YtfaciljklligeaaChecked
import GoSem.Claim
import GoSem.ClaimJoined
import GoSem.ClaimMapViews
import Derived.JoinedTies
import Derived.KernelRfl
namespace Go.Proofs.Ytfaciljklligeaa
/- THE CELL 'sum', in the pinned program and in every row, IS THE sha256 OF THE DUMP (.gsa) THAT YtfaciljklligeaaProg.lean LOADS. Nothing in Lean hashes anything: it is a label: what it is worth is what the hold of that sum in a sandbox is worth. -/
noncomputable def Try.pinned : Pinned := { name := "ytfaciljklligeaa", sum := "d5592cf885513386e39fd43ee919001f15b6dbec005359d78f162e1358fe42f7", checked := Try.checked }
namespace Rows
def none {H : Type} : Left H := { results := [], args := [] }

/-- 'mosaiclaw30.MeasureMean': WHATEVER THE INPUT: true; the input reads as it did. -/
def measureMeanSpec : ChangeSpec := { name := "measureMean", fn := fun _ => fun
  | [d1, d2] => { results := [.lit (.bool true)], args := [d1, d2] }
  | _ => none }
def measureMeanRow : OpenClaim := { program := "ytfaciljklligeaa", sum := "d5592cf885513386e39fd43ee919001f15b6dbec005359d78f162e1358fe42f7", func := "mosaic/mosaiclaw30.MeasureMean", spec := "measureMean", inPlace := ["math.archLog", "math.Float64bits", "math.Float64frombits"], unfollowed := true, recurses := true, apart := false }
def MeasureMeanSaid : Prop := measureMeanRow.holds Try.pinned (OpenSpec.ofChange measureMeanSpec)

/-- ITS FALSE NEIGHBOUR: 'it returns false'. Refute it at one input. -/
def measureMeanWrong : ChangeSpec := { name := "measureMean", fn := fun _ => fun
  | [d1, d2] => { results := [.lit (.bool false)], args := [d1, d2] }
  | _ => none }
def MeasureMeanWrongFalsely : Prop := measureMeanRow.holds Try.pinned (OpenSpec.ofChange measureMeanWrong)

/-- 'mosaiclaw30.MeasureImages': WHATEVER THE INPUT: true; the input reads as it did. -/
def measureImagesSpec : ChangeSpec := { name := "measureImages", fn := fun _ => fun
  | [d1, d2, d3] => { results := [.lit (.bool true)], args := [d1, d2, d3] }
  | _ => none }
def measureImagesRow : OpenClaim := { program := "ytfaciljklligeaa", sum := "d5592cf885513386e39fd43ee919001f15b6dbec005359d78f162e1358fe42f7", func := "mosaic/mosaiclaw30.MeasureImages", spec := "measureImages", inPlace := ["math.archLog", "math.Float64bits", "math.Float64frombits"], unfollowed := true, recurses := true, apart := false }
def MeasureImagesSaid : Prop := measureImagesRow.holds Try.pinned (OpenSpec.ofChange measureImagesSpec)

/-- ITS FALSE NEIGHBOUR: 'it returns false'. Refute it at one input. -/
def measureImagesWrong : ChangeSpec := { name := "measureImages", fn := fun _ => fun
  | [d1, d2, d3] => { results := [.lit (.bool false)], args := [d1, d2, d3] }
  | _ => none }
def MeasureImagesWrongFalsely : Prop := measureImagesRow.holds Try.pinned (OpenSpec.ofChange measureImagesWrong)

/-- 'mosaiclaw30.MeasureDecibels': WHATEVER THE INPUT: true; the input reads as it did. -/
def measureDecibelsSpec : ChangeSpec := { name := "measureDecibels", fn := fun _ => fun
  | [d] => { results := [.lit (.bool true)], args := [d] }
  | _ => none }
def measureDecibelsRow : OpenClaim := { program := "ytfaciljklligeaa", sum := "d5592cf885513386e39fd43ee919001f15b6dbec005359d78f162e1358fe42f7", func := "mosaic/mosaiclaw30.MeasureDecibels", spec := "measureDecibels", inPlace := ["math.archLog", "math.Float64bits", "math.Float64frombits"], unfollowed := true, recurses := true, apart := false }
def MeasureDecibelsSaid : Prop := measureDecibelsRow.holds Try.pinned (OpenSpec.ofChange measureDecibelsSpec)

/-- ITS FALSE NEIGHBOUR: 'it returns false'. Refute it at one input. -/
def measureDecibelsWrong : ChangeSpec := { name := "measureDecibels", fn := fun _ => fun
  | [d] => { results := [.lit (.bool false)], args := [d] }
  | _ => none }
def MeasureDecibelsWrongFalsely : Prop := measureDecibelsRow.holds Try.pinned (OpenSpec.ofChange measureDecibelsWrong)

/-- 'mosaiclaw30.MeasureOrder': WHATEVER THE INPUT: true; the input reads as it did. -/
def measureOrderSpec : ChangeSpec := { name := "measureOrder", fn := fun _ => fun
  | [d] => { results := [.lit (.bool true)], args := [d] }
  | _ => none }
def measureOrderRow : OpenClaim := { program := "ytfaciljklligeaa", sum := "d5592cf885513386e39fd43ee919001f15b6dbec005359d78f162e1358fe42f7", func := "mosaic/mosaiclaw30.MeasureOrder", spec := "measureOrder", inPlace := ["math.archLog", "math.Float64bits", "math.Float64frombits"], unfollowed := true, recurses := true, apart := false }
def MeasureOrderSaid : Prop := measureOrderRow.holds Try.pinned (OpenSpec.ofChange measureOrderSpec)

/-- ITS FALSE NEIGHBOUR: 'it returns false'. Refute it at one input. -/
def measureOrderWrong : ChangeSpec := { name := "measureOrder", fn := fun _ => fun
  | [d] => { results := [.lit (.bool false)], args := [d] }
  | _ => none }
def MeasureOrderWrongFalsely : Prop := measureOrderRow.holds Try.pinned (OpenSpec.ofChange measureOrderWrong)

/-- 'mosaiclaw30.MeasureSelf': WHATEVER THE INPUT: true; the input reads as it did. -/
def measureSelfSpec : ChangeSpec := { name := "measureSelf", fn := fun _ => fun
  | [d1, d2, d3, d4, d5, d6] => { results := [.lit (.bool true)], args := [d1, d2, d3, d4, d5, d6] }
  | _ => none }
def measureSelfRow : OpenClaim := { program := "ytfaciljklligeaa", sum := "d5592cf885513386e39fd43ee919001f15b6dbec005359d78f162e1358fe42f7", func := "mosaic/mosaiclaw30.MeasureSelf", spec := "measureSelf", inPlace := ["math.archLog", "math.Float64bits", "math.Float64frombits"], unfollowed := true, recurses := true, apart := false }
def MeasureSelfSaid : Prop := measureSelfRow.holds Try.pinned (OpenSpec.ofChange measureSelfSpec)

/-- ITS FALSE NEIGHBOUR: 'it returns false'. Refute it at one input. -/
def measureSelfWrong : ChangeSpec := { name := "measureSelf", fn := fun _ => fun
  | [d1, d2, d3, d4, d5, d6] => { results := [.lit (.bool false)], args := [d1, d2, d3, d4, d5, d6] }
  | _ => none }
def MeasureSelfWrongFalsely : Prop := measureSelfRow.holds Try.pinned (OpenSpec.ofChange measureSelfWrong)

/-- 'mosaiclaw30.MeasureTen': WHATEVER THE INPUT: true; the input reads as it did. -/
def measureTenSpec : ChangeSpec := { name := "measureTen", fn := fun _ => fun
  | [d1, d2] => { results := [.lit (.bool true)], args := [d1, d2] }
  | _ => none }
def measureTenRow : OpenClaim := { program := "ytfaciljklligeaa", sum := "d5592cf885513386e39fd43ee919001f15b6dbec005359d78f162e1358fe42f7", func := "mosaic/mosaiclaw30.MeasureTen", spec := "measureTen", inPlace := ["math.archLog", "math.Float64bits", "math.Float64frombits"], unfollowed := true, recurses := true, apart := false }
def MeasureTenSaid : Prop := measureTenRow.holds Try.pinned (OpenSpec.ofChange measureTenSpec)

/-- ITS FALSE NEIGHBOUR: 'it returns false'. Refute it at one input. -/
def measureTenWrong : ChangeSpec := { name := "measureTen", fn := fun _ => fun
  | [d1, d2] => { results := [.lit (.bool false)], args := [d1, d2] }
  | _ => none }
def MeasureTenWrongFalsely : Prop := measureTenRow.holds Try.pinned (OpenSpec.ofChange measureTenWrong)

/-- 'mosaiclaw30.MeasureOrdered': WHATEVER THE INPUT: true; the input reads as it did. -/
def measureOrderedSpec : ChangeSpec := { name := "measureOrdered", fn := fun _ => fun
  | [d] => { results := [.lit (.bool true)], args := [d] }
  | _ => none }
def measureOrderedRow : OpenClaim := { program := "ytfaciljklligeaa", sum := "d5592cf885513386e39fd43ee919001f15b6dbec005359d78f162e1358fe42f7", func := "mosaic/mosaiclaw30.MeasureOrdered", spec := "measureOrdered", inPlace := ["math.archLog", "math.Float64bits", "math.Float64frombits"], unfollowed := true, recurses := true, apart := false }
def MeasureOrderedSaid : Prop := measureOrderedRow.holds Try.pinned (OpenSpec.ofChange measureOrderedSpec)

/-- ITS FALSE NEIGHBOUR: 'it returns false'. Refute it at one input. -/
def measureOrderedWrong : ChangeSpec := { name := "measureOrdered", fn := fun _ => fun
  | [d] => { results := [.lit (.bool false)], args := [d] }
  | _ => none }
def MeasureOrderedWrongFalsely : Prop := measureOrderedRow.holds Try.pinned (OpenSpec.ofChange measureOrderedWrong)

/-- 'mosaiclaw30.MeasureTriangle': WHATEVER THE INPUT: true; the input reads as it did. -/
def measureTriangleSpec : ChangeSpec := { name := "measureTriangle", fn := fun _ => fun
  | [d1, d2, d3, d4, d5, d6] => { results := [.lit (.bool true)], args := [d1, d2, d3, d4, d5, d6] }
  | _ => none }
def measureTriangleRow : OpenClaim := { program := "ytfaciljklligeaa", sum := "d5592cf885513386e39fd43ee919001f15b6dbec005359d78f162e1358fe42f7", func := "mosaic/mosaiclaw30.MeasureTriangle", spec := "measureTriangle", inPlace := ["math.archLog", "math.Float64bits", "math.Float64frombits", "math.sqrt"], unfollowed := true, recurses := true, apart := false }
def MeasureTriangleSaid : Prop := measureTriangleRow.holds Try.pinned (OpenSpec.ofChange measureTriangleSpec)

/-- ITS FALSE NEIGHBOUR: 'it returns false'. Refute it at one input. -/
def measureTriangleWrong : ChangeSpec := { name := "measureTriangle", fn := fun _ => fun
  | [d1, d2, d3, d4, d5, d6] => { results := [.lit (.bool false)], args := [d1, d2, d3, d4, d5, d6] }
  | _ => none }
def MeasureTriangleWrongFalsely : Prop := measureTriangleRow.holds Try.pinned (OpenSpec.ofChange measureTriangleWrong)

/-- 'mosaictop.TopApart': WHATEVER THE INPUT: true; the input reads as it did. -/
def topApartSpec : ChangeSpec := { name := "topApart", fn := fun _ => fun
  | [d1, d2] => { results := [.lit (.bool true)], args := [d1, d2] }
  | _ => none }
def topApartRow : OpenClaim := { program := "ytfaciljklligeaa", sum := "d5592cf885513386e39fd43ee919001f15b6dbec005359d78f162e1358fe42f7", func := "mosaic/mosaictop.TopApart", spec := "topApart", apart := false }
def TopApartSaid : Prop := topApartRow.holds Try.pinned (OpenSpec.ofChange topApartSpec)

/-- ITS FALSE NEIGHBOUR: 'it returns false'. Refute it at one input. -/
def topApartWrong : ChangeSpec := { name := "topApart", fn := fun _ => fun
  | [d1, d2] => { results := [.lit (.bool false)], args := [d1, d2] }
  | _ => none }
def TopApartWrongFalsely : Prop := topApartRow.holds Try.pinned (OpenSpec.ofChange topApartWrong)

/- THE SECOND FORM. 'bulk': how many values and letters a reading holds, each counted each time it is reached (what is shared counts as often as it is met; a slice's spare places count too). A statement '..UptoSaid' is the law's where the arguments, and the package variables that the reading takes, are together of bulk at most 1048576: NARROWER than '..Said'. Prove '..Said' where nothing that the law and all that it calls make is longer than what came in: it says more and counts as full. Else prove '..UptoSaid'. A law counts once. -/
mutual
def uptoBulk {H : Type} : DataW H → Nat
  | .lit (.string bytes) => bytes.length + 1
  | .lit _ => 1
  | .nil => 1
  | .ptr d => uptoBulk d + 1
  | .slice elems spare => uptoBulkAll elems + uptoBulkAll spare + 1
  | .agg parts => uptoBulkAll parts + 1
  | .iface _ d => uptoBulk d + 1
  | .map entries => uptoBulkEntries entries + 1
  | .held _ => 1
def uptoBulkAll {H : Type} : List (DataW H) → Nat
  | [] => 0
  | d :: r => uptoBulk d + uptoBulkAll r
def uptoBulkEntries {H : Type} : List (Lit × DataW H) → Nat
  | [] => 0
  | x :: r => uptoBulkEntry x + uptoBulkEntries r
def uptoBulkEntry {H : Type} : Lit × DataW H → Nat
  | (.string bytes, d) => bytes.length + uptoBulk d + 1
  | (_, d) => uptoBulk d + 1
 end
def uptoSmall : (H : Type) → List (DataW H) → Bool := fun _ ds => decide (uptoBulkAll ds ≤ 1048576)
def OpenSpec.upto (s : _root_.Go.ChangeSpec) : _root_.Go.OpenSpec := { _root_.Go.OpenSpec.ofChange s with cond := some uptoSmall }

/-- 'mosaiclaw30.MeasureMean', WHERE WHAT IT READS IS OF BULK AT MOST 1048576: true; the input reads as it did. -/
def measureMeanUptoRow : OpenClaim := { program := "ytfaciljklligeaa", sum := "d5592cf885513386e39fd43ee919001f15b6dbec005359d78f162e1358fe42f7", func := "mosaic/mosaiclaw30.MeasureMean", spec := "measureMean", inPlace := ["math.archLog", "math.Float64bits", "math.Float64frombits"], unfollowed := true, recurses := true, apart := false, narrowed := true }
def MeasureMeanUptoSaid : Prop := measureMeanUptoRow.holds Try.pinned (OpenSpec.upto measureMeanSpec)

/-- 'mosaiclaw30.MeasureImages', WHERE WHAT IT READS IS OF BULK AT MOST 1048576: true; the input reads as it did. -/
def measureImagesUptoRow : OpenClaim := { program := "ytfaciljklligeaa", sum := "d5592cf885513386e39fd43ee919001f15b6dbec005359d78f162e1358fe42f7", func := "mosaic/mosaiclaw30.MeasureImages", spec := "measureImages", inPlace := ["math.archLog", "math.Float64bits", "math.Float64frombits"], unfollowed := true, recurses := true, apart := false, narrowed := true }
def MeasureImagesUptoSaid : Prop := measureImagesUptoRow.holds Try.pinned (OpenSpec.upto measureImagesSpec)

/-- 'mosaiclaw30.MeasureDecibels', WHERE WHAT IT READS IS OF BULK AT MOST 1048576: true; the input reads as it did. -/
def measureDecibelsUptoRow : OpenClaim := { program := "ytfaciljklligeaa", sum := "d5592cf885513386e39fd43ee919001f15b6dbec005359d78f162e1358fe42f7", func := "mosaic/mosaiclaw30.MeasureDecibels", spec := "measureDecibels", inPlace := ["math.archLog", "math.Float64bits", "math.Float64frombits"], unfollowed := true, recurses := true, apart := false, narrowed := true }
def MeasureDecibelsUptoSaid : Prop := measureDecibelsUptoRow.holds Try.pinned (OpenSpec.upto measureDecibelsSpec)

/-- 'mosaiclaw30.MeasureOrder', WHERE WHAT IT READS IS OF BULK AT MOST 1048576: true; the input reads as it did. -/
def measureOrderUptoRow : OpenClaim := { program := "ytfaciljklligeaa", sum := "d5592cf885513386e39fd43ee919001f15b6dbec005359d78f162e1358fe42f7", func := "mosaic/mosaiclaw30.MeasureOrder", spec := "measureOrder", inPlace := ["math.archLog", "math.Float64bits", "math.Float64frombits"], unfollowed := true, recurses := true, apart := false, narrowed := true }
def MeasureOrderUptoSaid : Prop := measureOrderUptoRow.holds Try.pinned (OpenSpec.upto measureOrderSpec)

/-- 'mosaiclaw30.MeasureSelf', WHERE WHAT IT READS IS OF BULK AT MOST 1048576: true; the input reads as it did. -/
def measureSelfUptoRow : OpenClaim := { program := "ytfaciljklligeaa", sum := "d5592cf885513386e39fd43ee919001f15b6dbec005359d78f162e1358fe42f7", func := "mosaic/mosaiclaw30.MeasureSelf", spec := "measureSelf", inPlace := ["math.archLog", "math.Float64bits", "math.Float64frombits"], unfollowed := true, recurses := true, apart := false, narrowed := true }
def MeasureSelfUptoSaid : Prop := measureSelfUptoRow.holds Try.pinned (OpenSpec.upto measureSelfSpec)

/-- 'mosaiclaw30.MeasureTen', WHERE WHAT IT READS IS OF BULK AT MOST 1048576: true; the input reads as it did. -/
def measureTenUptoRow : OpenClaim := { program := "ytfaciljklligeaa", sum := "d5592cf885513386e39fd43ee919001f15b6dbec005359d78f162e1358fe42f7", func := "mosaic/mosaiclaw30.MeasureTen", spec := "measureTen", inPlace := ["math.archLog", "math.Float64bits", "math.Float64frombits"], unfollowed := true, recurses := true, apart := false, narrowed := true }
def MeasureTenUptoSaid : Prop := measureTenUptoRow.holds Try.pinned (OpenSpec.upto measureTenSpec)

/-- 'mosaiclaw30.MeasureOrdered', WHERE WHAT IT READS IS OF BULK AT MOST 1048576: true; the input reads as it did. -/
def measureOrderedUptoRow : OpenClaim := { program := "ytfaciljklligeaa", sum := "d5592cf885513386e39fd43ee919001f15b6dbec005359d78f162e1358fe42f7", func := "mosaic/mosaiclaw30.MeasureOrdered", spec := "measureOrdered", inPlace := ["math.archLog", "math.Float64bits", "math.Float64frombits"], unfollowed := true, recurses := true, apart := false, narrowed := true }
def MeasureOrderedUptoSaid : Prop := measureOrderedUptoRow.holds Try.pinned (OpenSpec.upto measureOrderedSpec)

/-- 'mosaiclaw30.MeasureTriangle', WHERE WHAT IT READS IS OF BULK AT MOST 1048576: true; the input reads as it did. -/
def measureTriangleUptoRow : OpenClaim := { program := "ytfaciljklligeaa", sum := "d5592cf885513386e39fd43ee919001f15b6dbec005359d78f162e1358fe42f7", func := "mosaic/mosaiclaw30.MeasureTriangle", spec := "measureTriangle", inPlace := ["math.archLog", "math.Float64bits", "math.Float64frombits", "math.sqrt"], unfollowed := true, recurses := true, apart := false, narrowed := true }
def MeasureTriangleUptoSaid : Prop := measureTriangleUptoRow.holds Try.pinned (OpenSpec.upto measureTriangleSpec)

/-- 'mosaictop.TopApart', WHERE WHAT IT READS IS OF BULK AT MOST 1048576: true; the input reads as it did. -/
def topApartUptoRow : OpenClaim := { program := "ytfaciljklligeaa", sum := "d5592cf885513386e39fd43ee919001f15b6dbec005359d78f162e1358fe42f7", func := "mosaic/mosaictop.TopApart", spec := "topApart", apart := false, narrowed := true }
def TopApartUptoSaid : Prop := topApartUptoRow.holds Try.pinned (OpenSpec.upto topApartSpec)

end Rows
end Go.Proofs.Ytfaciljklligeaa
