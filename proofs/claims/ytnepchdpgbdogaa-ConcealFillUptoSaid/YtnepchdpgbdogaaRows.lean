/-
  No cell of these rows narrows 'for every input' (looked for: loops, veiled, ifaces, maps, wideKeys, modest, calm, conditions, laid).
  DERIVED. THE GIVEN ROWS OF THIS SEAT. 6 by the template 'for every input the law returns true; each argument reads behind the call as it read before'; 0 by the template 'total and deterministic' (their statements: YtnepchdpgbdogaaTotals.lean).
  GIVEN WITH THE SEED: the statements are not yours to turn. If you find one false, say at which input.
  Laid BY PROGRAM, IN A SANDBOX (cutbox-rows.mjs): the forced cells as the released guide's own fill.sh prints them over the translation 7794d1ef157e4126… (all of the seat's roots in one cut). By AI agents, Wed Nov 11 2026. No macro, syntax, notation, axiom, sorry.
-/
import Derived.Test.YtnepchdpgbdogaaChecked
import GoSem.Claim
import GoSem.ClaimJoined
import GoSem.ClaimMapViews
import Derived.JoinedTies
import Derived.KernelRfl
namespace Go.Proofs.Ytnepchdpgbdogaa
/- THE CELL 'sum', in the pinned program and in every row, IS THE sha256 OF THE DUMP (.gsa) THAT YtnepchdpgbdogaaProg.lean LOADS. Nothing in Lean hashes anything: it is a label: what it is worth is what the hold of that sum in a sandbox is worth. -/
noncomputable def Try.pinned : Pinned := { name := "ytnepchdpgbdogaa", sum := "7794d1ef157e412653c7649f827419be76fe5c6caffd08cfa8ddaa4d9f3f2918", checked := Try.checked }
namespace Rows
def none {H : Type} : Left H := { results := [], args := [] }

/-- 'mosaiclaw22.ConcealDC': WHATEVER THE INPUT: true; the input reads as it did. -/
def concealDCSpec : ChangeSpec := { name := "concealDC", fn := fun _ => fun
  | [d1, d2] => { results := [.lit (.bool true)], args := [d1, d2] }
  | _ => none }
def concealDCRow : OpenClaim := { program := "ytnepchdpgbdogaa", sum := "7794d1ef157e412653c7649f827419be76fe5c6caffd08cfa8ddaa4d9f3f2918", func := "mosaic/mosaiclaw22.ConcealDC", spec := "concealDC", unfollowed := true, recurses := true, apart := false }
def ConcealDCSaid : Prop := concealDCRow.holds Try.pinned (OpenSpec.ofChange concealDCSpec)

/-- ITS FALSE NEIGHBOUR: 'it returns false'. Refute it at one input. -/
def concealDCWrong : ChangeSpec := { name := "concealDC", fn := fun _ => fun
  | [d1, d2] => { results := [.lit (.bool false)], args := [d1, d2] }
  | _ => none }
def ConcealDCWrongFalsely : Prop := concealDCRow.holds Try.pinned (OpenSpec.ofChange concealDCWrong)

/-- 'mosaiclaw22.ConcealFill': WHATEVER THE INPUT: true; the input reads as it did. -/
def concealFillSpec : ChangeSpec := { name := "concealFill", fn := fun _ => fun
  | [d1, d2] => { results := [.lit (.bool true)], args := [d1, d2] }
  | _ => none }
def concealFillRow : OpenClaim := { program := "ytnepchdpgbdogaa", sum := "7794d1ef157e412653c7649f827419be76fe5c6caffd08cfa8ddaa4d9f3f2918", func := "mosaic/mosaiclaw22.ConcealFill", spec := "concealFill", unfollowed := true, recurses := true, apart := false }
def ConcealFillSaid : Prop := concealFillRow.holds Try.pinned (OpenSpec.ofChange concealFillSpec)

/-- ITS FALSE NEIGHBOUR: 'it returns false'. Refute it at one input. -/
def concealFillWrong : ChangeSpec := { name := "concealFill", fn := fun _ => fun
  | [d1, d2] => { results := [.lit (.bool false)], args := [d1, d2] }
  | _ => none }
def ConcealFillWrongFalsely : Prop := concealFillRow.holds Try.pinned (OpenSpec.ofChange concealFillWrong)

/-- 'mosaiclaw22.ConcealNames': WHATEVER THE INPUT: true; the input reads as it did. -/
def concealNamesSpec : ChangeSpec := { name := "concealNames", fn := fun _ => fun
  | [] => { results := [.lit (.bool true)], args := [] }
  | _ => none }
def concealNamesRow : OpenClaim := { program := "ytnepchdpgbdogaa", sum := "7794d1ef157e412653c7649f827419be76fe5c6caffd08cfa8ddaa4d9f3f2918", func := "mosaic/mosaiclaw22.ConcealNames", spec := "concealNames", unfollowed := true, recurses := true, apart := false }
def ConcealNamesSaid : Prop := concealNamesRow.holds Try.pinned (OpenSpec.ofChange concealNamesSpec)

/-- ITS FALSE NEIGHBOUR: 'it returns false'. Refute it at one input. -/
def concealNamesWrong : ChangeSpec := { name := "concealNames", fn := fun _ => fun
  | [] => { results := [.lit (.bool false)], args := [] }
  | _ => none }
def ConcealNamesWrongFalsely : Prop := concealNamesRow.holds Try.pinned (OpenSpec.ofChange concealNamesWrong)

/-- 'mosaiclaw22.ConcealQuiet': WHATEVER THE INPUT: true; the input reads as it did. -/
def concealQuietSpec : ChangeSpec := { name := "concealQuiet", fn := fun _ => fun
  | [d] => { results := [.lit (.bool true)], args := [d] }
  | _ => none }
def concealQuietRow : OpenClaim := { program := "ytnepchdpgbdogaa", sum := "7794d1ef157e412653c7649f827419be76fe5c6caffd08cfa8ddaa4d9f3f2918", func := "mosaic/mosaiclaw22.ConcealQuiet", spec := "concealQuiet", unfollowed := true, recurses := true, apart := false }
def ConcealQuietSaid : Prop := concealQuietRow.holds Try.pinned (OpenSpec.ofChange concealQuietSpec)

/-- ITS FALSE NEIGHBOUR: 'it returns false'. Refute it at one input. -/
def concealQuietWrong : ChangeSpec := { name := "concealQuiet", fn := fun _ => fun
  | [d] => { results := [.lit (.bool false)], args := [d] }
  | _ => none }
def ConcealQuietWrongFalsely : Prop := concealQuietRow.holds Try.pinned (OpenSpec.ofChange concealQuietWrong)

/-- 'mosaiclaw22.ConcealBlind': WHATEVER THE INPUT: true; the input reads as it did. -/
def concealBlindSpec : ChangeSpec := { name := "concealBlind", fn := fun _ => fun
  | [d1, d2] => { results := [.lit (.bool true)], args := [d1, d2] }
  | _ => none }
def concealBlindRow : OpenClaim := { program := "ytnepchdpgbdogaa", sum := "7794d1ef157e412653c7649f827419be76fe5c6caffd08cfa8ddaa4d9f3f2918", func := "mosaic/mosaiclaw22.ConcealBlind", spec := "concealBlind", unfollowed := true, recurses := true, apart := false }
def ConcealBlindSaid : Prop := concealBlindRow.holds Try.pinned (OpenSpec.ofChange concealBlindSpec)

/-- ITS FALSE NEIGHBOUR: 'it returns false'. Refute it at one input. -/
def concealBlindWrong : ChangeSpec := { name := "concealBlind", fn := fun _ => fun
  | [d1, d2] => { results := [.lit (.bool false)], args := [d1, d2] }
  | _ => none }
def ConcealBlindWrongFalsely : Prop := concealBlindRow.holds Try.pinned (OpenSpec.ofChange concealBlindWrong)

/-- 'mosaiclaw22.ConcealMirror': WHATEVER THE INPUT: true; the input reads as it did. -/
def concealMirrorSpec : ChangeSpec := { name := "concealMirror", fn := fun _ => fun
  | [d] => { results := [.lit (.bool true)], args := [d] }
  | _ => none }
def concealMirrorRow : OpenClaim := { program := "ytnepchdpgbdogaa", sum := "7794d1ef157e412653c7649f827419be76fe5c6caffd08cfa8ddaa4d9f3f2918", func := "mosaic/mosaiclaw22.ConcealMirror", spec := "concealMirror", unfollowed := true, recurses := true, apart := false }
def ConcealMirrorSaid : Prop := concealMirrorRow.holds Try.pinned (OpenSpec.ofChange concealMirrorSpec)

/-- ITS FALSE NEIGHBOUR: 'it returns false'. Refute it at one input. -/
def concealMirrorWrong : ChangeSpec := { name := "concealMirror", fn := fun _ => fun
  | [d] => { results := [.lit (.bool false)], args := [d] }
  | _ => none }
def ConcealMirrorWrongFalsely : Prop := concealMirrorRow.holds Try.pinned (OpenSpec.ofChange concealMirrorWrong)

/- THE SECOND FORM. 'bulk': how many values and letters a reading holds, each counted each time it is reached (what is shared counts as often as it is met; a slice's spare places count too). A statement '..UptoSaid' is the law's where the arguments, and the package variables that the reading takes, are together of bulk at most 1048576: NARROWER than '..Said'. Prove '..Said' where nothing that the law and all that it calls make is longer than what came in: it says more and counts as full. Else prove '..UptoSaid'. A law counts once. -/
mutual
def uptoBulk {H : Type} : DataW H → Nat
  | .lit (.string bytes) => bytes.length + 1
  | .lit _ => 1
  | .nil => 1
  | .ptr d => uptoBulk d + 1
  | .slice elems spare => uptoBulkAll elems + uptoBulkAll spare + 1
  | .agg parts => uptoBulkAll parts + 1
  | .iface _ d => uptoBulk d + 1
  | .map entries => uptoBulkEntries entries + 1
  | .held _ => 1
def uptoBulkAll {H : Type} : List (DataW H) → Nat
  | [] => 0
  | d :: r => uptoBulk d + uptoBulkAll r
def uptoBulkEntries {H : Type} : List (Lit × DataW H) → Nat
  | [] => 0
  | x :: r => uptoBulkEntry x + uptoBulkEntries r
def uptoBulkEntry {H : Type} : Lit × DataW H → Nat
  | (.string bytes, d) => bytes.length + uptoBulk d + 1
  | (_, d) => uptoBulk d + 1
 end
def uptoSmall : (H : Type) → List (DataW H) → Bool := fun _ ds => decide (uptoBulkAll ds ≤ 1048576)
def OpenSpec.upto (s : _root_.Go.ChangeSpec) : _root_.Go.OpenSpec := { _root_.Go.OpenSpec.ofChange s with cond := some uptoSmall }

/-- 'mosaiclaw22.ConcealDC', WHERE WHAT IT READS IS OF BULK AT MOST 1048576: true; the input reads as it did. -/
def concealDCUptoRow : OpenClaim := { program := "ytnepchdpgbdogaa", sum := "7794d1ef157e412653c7649f827419be76fe5c6caffd08cfa8ddaa4d9f3f2918", func := "mosaic/mosaiclaw22.ConcealDC", spec := "concealDC", unfollowed := true, recurses := true, apart := false, narrowed := true }
def ConcealDCUptoSaid : Prop := concealDCUptoRow.holds Try.pinned (OpenSpec.upto concealDCSpec)

/-- 'mosaiclaw22.ConcealFill', WHERE WHAT IT READS IS OF BULK AT MOST 1048576: true; the input reads as it did. -/
def concealFillUptoRow : OpenClaim := { program := "ytnepchdpgbdogaa", sum := "7794d1ef157e412653c7649f827419be76fe5c6caffd08cfa8ddaa4d9f3f2918", func := "mosaic/mosaiclaw22.ConcealFill", spec := "concealFill", unfollowed := true, recurses := true, apart := false, narrowed := true }
def ConcealFillUptoSaid : Prop := concealFillUptoRow.holds Try.pinned (OpenSpec.upto concealFillSpec)

/-- 'mosaiclaw22.ConcealNames', WHERE WHAT IT READS IS OF BULK AT MOST 1048576: true; the input reads as it did. -/
def concealNamesUptoRow : OpenClaim := { program := "ytnepchdpgbdogaa", sum := "7794d1ef157e412653c7649f827419be76fe5c6caffd08cfa8ddaa4d9f3f2918", func := "mosaic/mosaiclaw22.ConcealNames", spec := "concealNames", unfollowed := true, recurses := true, apart := false, narrowed := true }
def ConcealNamesUptoSaid : Prop := concealNamesUptoRow.holds Try.pinned (OpenSpec.upto concealNamesSpec)

/-- 'mosaiclaw22.ConcealQuiet', WHERE WHAT IT READS IS OF BULK AT MOST 1048576: true; the input reads as it did. -/
def concealQuietUptoRow : OpenClaim := { program := "ytnepchdpgbdogaa", sum := "7794d1ef157e412653c7649f827419be76fe5c6caffd08cfa8ddaa4d9f3f2918", func := "mosaic/mosaiclaw22.ConcealQuiet", spec := "concealQuiet", unfollowed := true, recurses := true, apart := false, narrowed := true }
def ConcealQuietUptoSaid : Prop := concealQuietUptoRow.holds Try.pinned (OpenSpec.upto concealQuietSpec)

/-- 'mosaiclaw22.ConcealBlind', WHERE WHAT IT READS IS OF BULK AT MOST 1048576: true; the input reads as it did. -/
def concealBlindUptoRow : OpenClaim := { program := "ytnepchdpgbdogaa", sum := "7794d1ef157e412653c7649f827419be76fe5c6caffd08cfa8ddaa4d9f3f2918", func := "mosaic/mosaiclaw22.ConcealBlind", spec := "concealBlind", unfollowed := true, recurses := true, apart := false, narrowed := true }
def ConcealBlindUptoSaid : Prop := concealBlindUptoRow.holds Try.pinned (OpenSpec.upto concealBlindSpec)

/-- 'mosaiclaw22.ConcealMirror', WHERE WHAT IT READS IS OF BULK AT MOST 1048576: true; the input reads as it did. -/
def concealMirrorUptoRow : OpenClaim := { program := "ytnepchdpgbdogaa", sum := "7794d1ef157e412653c7649f827419be76fe5c6caffd08cfa8ddaa4d9f3f2918", func := "mosaic/mosaiclaw22.ConcealMirror", spec := "concealMirror", unfollowed := true, recurses := true, apart := false, narrowed := true }
def ConcealMirrorUptoSaid : Prop := concealMirrorUptoRow.holds Try.pinned (OpenSpec.upto concealMirrorSpec)

end Rows
end Go.Proofs.Ytnepchdpgbdogaa
