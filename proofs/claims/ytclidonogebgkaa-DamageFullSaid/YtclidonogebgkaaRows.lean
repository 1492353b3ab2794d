/-
  No cell of these rows narrows 'for every input' (looked for: loops, veiled, ifaces, maps, wideKeys, modest, calm, conditions, laid).
  DERIVED. THE GIVEN ROWS OF THIS SEAT. 4 by the template 'for every input the law returns true; each argument reads behind the call as it read before'; 0 by the template 'total and deterministic' (their statements: YtclidonogebgkaaTotals.lean).
  GIVEN WITH THE SEED: the statements are not yours to turn. If you find one false, say at which input.
  Laid BY PROGRAM, IN A SANDBOX (cutbox-rows.mjs): the forced cells as the released guide's own fill.sh prints them over the translation d0ef5b24ba0eafa3… (all of the seat's roots in one cut). By AI agents, Wed Nov 11 2026. No macro, syntax, notation, axiom, sorry.
-/
import Derived.Test.YtclidonogebgkaaChecked
import GoSem.Claim
import GoSem.ClaimJoined
import GoSem.ClaimMapViews
import Derived.JoinedTies
import Derived.KernelRfl
namespace Go.Proofs.Ytclidonogebgkaa
/- THE CELL 'sum', in the pinned program and in every row, IS THE sha256 OF THE DUMP (.gsa) THAT YtclidonogebgkaaProg.lean LOADS. Nothing in Lean hashes anything: it is a label: what it is worth is what the hold of that sum in a sandbox is worth. -/
noncomputable def Try.pinned : Pinned := { name := "ytclidonogebgkaa", sum := "d0ef5b24ba0eafa3a7e3dfd529b846370f91d9e697be157cfd4c555bc4b55018", checked := Try.checked }
namespace Rows
def none {H : Type} : Left H := { results := [], args := [] }

/-- 'mosaiclaw21.DamageCover': WHATEVER THE INPUT: true; the input reads as it did. -/
def damageCoverSpec : ChangeSpec := { name := "damageCover", fn := fun _ => fun
  | [d1, d2] => { results := [.lit (.bool true)], args := [d1, d2] }
  | _ => none }
def damageCoverRow : OpenClaim := { program := "ytclidonogebgkaa", sum := "d0ef5b24ba0eafa3a7e3dfd529b846370f91d9e697be157cfd4c555bc4b55018", func := "mosaic/mosaiclaw21.DamageCover", spec := "damageCover", inPlace := ["internal/bytealg.IndexByteString", "internal/abi.NoEscape"], unfollowed := true, recurses := true, apart := false }
def DamageCoverSaid : Prop := damageCoverRow.holds Try.pinned (OpenSpec.ofChange damageCoverSpec)

/-- ITS FALSE NEIGHBOUR: 'it returns false'. Refute it at one input. -/
def damageCoverWrong : ChangeSpec := { name := "damageCover", fn := fun _ => fun
  | [d1, d2] => { results := [.lit (.bool false)], args := [d1, d2] }
  | _ => none }
def DamageCoverWrongFalsely : Prop := damageCoverRow.holds Try.pinned (OpenSpec.ofChange damageCoverWrong)

/-- 'mosaiclaw21.DamageBack': WHATEVER THE INPUT: true; the input reads as it did. -/
def damageBackSpec : ChangeSpec := { name := "damageBack", fn := fun _ => fun
  | [d1, d2] => { results := [.lit (.bool true)], args := [d1, d2] }
  | _ => none }
def damageBackRow : OpenClaim := { program := "ytclidonogebgkaa", sum := "d0ef5b24ba0eafa3a7e3dfd529b846370f91d9e697be157cfd4c555bc4b55018", func := "mosaic/mosaiclaw21.DamageBack", spec := "damageBack", inPlace := ["internal/bytealg.IndexByteString", "internal/abi.NoEscape"], unfollowed := true, recurses := true, apart := false }
def DamageBackSaid : Prop := damageBackRow.holds Try.pinned (OpenSpec.ofChange damageBackSpec)

/-- ITS FALSE NEIGHBOUR: 'it returns false'. Refute it at one input. -/
def damageBackWrong : ChangeSpec := { name := "damageBack", fn := fun _ => fun
  | [d1, d2] => { results := [.lit (.bool false)], args := [d1, d2] }
  | _ => none }
def DamageBackWrongFalsely : Prop := damageBackRow.holds Try.pinned (OpenSpec.ofChange damageBackWrong)

/-- 'mosaiclaw21.DamageFull': WHATEVER THE INPUT: true; the input reads as it did. -/
def damageFullSpec : ChangeSpec := { name := "damageFull", fn := fun _ => fun
  | [] => { results := [.lit (.bool true)], args := [] }
  | _ => none }
def damageFullRow : OpenClaim := { program := "ytclidonogebgkaa", sum := "d0ef5b24ba0eafa3a7e3dfd529b846370f91d9e697be157cfd4c555bc4b55018", func := "mosaic/mosaiclaw21.DamageFull", spec := "damageFull", inPlace := ["internal/bytealg.IndexByteString", "internal/abi.NoEscape"], unfollowed := true, recurses := true, apart := false }
def DamageFullSaid : Prop := damageFullRow.holds Try.pinned (OpenSpec.ofChange damageFullSpec)

/-- ITS FALSE NEIGHBOUR: 'it returns false'. Refute it at one input. -/
def damageFullWrong : ChangeSpec := { name := "damageFull", fn := fun _ => fun
  | [] => { results := [.lit (.bool false)], args := [] }
  | _ => none }
def DamageFullWrongFalsely : Prop := damageFullRow.holds Try.pinned (OpenSpec.ofChange damageFullWrong)

/-- 'mosaiclaw21.DamageJoined': WHATEVER THE INPUT: true; the input reads as it did. -/
def damageJoinedSpec : ChangeSpec := { name := "damageJoined", fn := fun _ => fun
  | [d1, d2, d3] => { results := [.lit (.bool true)], args := [d1, d2, d3] }
  | _ => none }
def damageJoinedRow : OpenClaim := { program := "ytclidonogebgkaa", sum := "d0ef5b24ba0eafa3a7e3dfd529b846370f91d9e697be157cfd4c555bc4b55018", func := "mosaic/mosaiclaw21.DamageJoined", spec := "damageJoined", inPlace := ["internal/bytealg.IndexByteString", "internal/abi.NoEscape"], unfollowed := true, recurses := true, apart := false }
def DamageJoinedSaid : Prop := damageJoinedRow.holds Try.pinned (OpenSpec.ofChange damageJoinedSpec)

/-- ITS FALSE NEIGHBOUR: 'it returns false'. Refute it at one input. -/
def damageJoinedWrong : ChangeSpec := { name := "damageJoined", fn := fun _ => fun
  | [d1, d2, d3] => { results := [.lit (.bool false)], args := [d1, d2, d3] }
  | _ => none }
def DamageJoinedWrongFalsely : Prop := damageJoinedRow.holds Try.pinned (OpenSpec.ofChange damageJoinedWrong)

/- THE SECOND FORM. 'bulk': how many values and letters a reading holds, each counted each time it is reached (what is shared counts as often as it is met; a slice's spare places count too). A statement '..UptoSaid' is the law's where the arguments, and the package variables that the reading takes, are together of bulk at most 1048576: NARROWER than '..Said'. Prove '..Said' where nothing that the law and all that it calls make is longer than what came in: it says more and counts as full. Else prove '..UptoSaid'. A law counts once. -/
mutual
def uptoBulk {H : Type} : DataW H → Nat
  | .lit (.string bytes) => bytes.length + 1
  | .lit _ => 1
  | .nil => 1
  | .ptr d => uptoBulk d + 1
  | .slice elems spare => uptoBulkAll elems + uptoBulkAll spare + 1
  | .agg parts => uptoBulkAll parts + 1
  | .iface _ d => uptoBulk d + 1
  | .map entries => uptoBulkEntries entries + 1
  | .held _ => 1
def uptoBulkAll {H : Type} : List (DataW H) → Nat
  | [] => 0
  | d :: r => uptoBulk d + uptoBulkAll r
def uptoBulkEntries {H : Type} : List (Lit × DataW H) → Nat
  | [] => 0
  | x :: r => uptoBulkEntry x + uptoBulkEntries r
def uptoBulkEntry {H : Type} : Lit × DataW H → Nat
  | (.string bytes, d) => bytes.length + uptoBulk d + 1
  | (_, d) => uptoBulk d + 1
 end
def uptoSmall : (H : Type) → List (DataW H) → Bool := fun _ ds => decide (uptoBulkAll ds ≤ 1048576)
def OpenSpec.upto (s : _root_.Go.ChangeSpec) : _root_.Go.OpenSpec := { _root_.Go.OpenSpec.ofChange s with cond := some uptoSmall }

/-- 'mosaiclaw21.DamageCover', WHERE WHAT IT READS IS OF BULK AT MOST 1048576: true; the input reads as it did. -/
def damageCoverUptoRow : OpenClaim := { program := "ytclidonogebgkaa", sum := "d0ef5b24ba0eafa3a7e3dfd529b846370f91d9e697be157cfd4c555bc4b55018", func := "mosaic/mosaiclaw21.DamageCover", spec := "damageCover", inPlace := ["internal/bytealg.IndexByteString", "internal/abi.NoEscape"], unfollowed := true, recurses := true, apart := false, narrowed := true }
def DamageCoverUptoSaid : Prop := damageCoverUptoRow.holds Try.pinned (OpenSpec.upto damageCoverSpec)

/-- 'mosaiclaw21.DamageBack', WHERE WHAT IT READS IS OF BULK AT MOST 1048576: true; the input reads as it did. -/
def damageBackUptoRow : OpenClaim := { program := "ytclidonogebgkaa", sum := "d0ef5b24ba0eafa3a7e3dfd529b846370f91d9e697be157cfd4c555bc4b55018", func := "mosaic/mosaiclaw21.DamageBack", spec := "damageBack", inPlace := ["internal/bytealg.IndexByteString", "internal/abi.NoEscape"], unfollowed := true, recurses := true, apart := false, narrowed := true }
def DamageBackUptoSaid : Prop := damageBackUptoRow.holds Try.pinned (OpenSpec.upto damageBackSpec)

/-- 'mosaiclaw21.DamageFull', WHERE WHAT IT READS IS OF BULK AT MOST 1048576: true; the input reads as it did. -/
def damageFullUptoRow : OpenClaim := { program := "ytclidonogebgkaa", sum := "d0ef5b24ba0eafa3a7e3dfd529b846370f91d9e697be157cfd4c555bc4b55018", func := "mosaic/mosaiclaw21.DamageFull", spec := "damageFull", inPlace := ["internal/bytealg.IndexByteString", "internal/abi.NoEscape"], unfollowed := true, recurses := true, apart := false, narrowed := true }
def DamageFullUptoSaid : Prop := damageFullUptoRow.holds Try.pinned (OpenSpec.upto damageFullSpec)

/-- 'mosaiclaw21.DamageJoined', WHERE WHAT IT READS IS OF BULK AT MOST 1048576: true; the input reads as it did. -/
def damageJoinedUptoRow : OpenClaim := { program := "ytclidonogebgkaa", sum := "d0ef5b24ba0eafa3a7e3dfd529b846370f91d9e697be157cfd4c555bc4b55018", func := "mosaic/mosaiclaw21.DamageJoined", spec := "damageJoined", inPlace := ["internal/bytealg.IndexByteString", "internal/abi.NoEscape"], unfollowed := true, recurses := true, apart := false, narrowed := true }
def DamageJoinedUptoSaid : Prop := damageJoinedUptoRow.holds Try.pinned (OpenSpec.upto damageJoinedSpec)

end Rows
end Go.Proofs.Ytclidonogebgkaa
