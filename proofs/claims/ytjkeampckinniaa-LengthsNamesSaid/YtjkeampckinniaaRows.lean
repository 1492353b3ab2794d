/-
  No cell of these rows narrows 'for every input' (looked for: loops, veiled, ifaces, maps, wideKeys, modest, calm, conditions, laid).
  DERIVED. THE GIVEN ROWS OF THIS SEAT. 10 by the template 'for every input the law returns true; each argument reads behind the call as it read before'; 0 by the template 'total and deterministic' (their statements: YtjkeampckinniaaTotals.lean).
  GIVEN WITH THE SEED: the statements are not yours to turn. If you find one false, say at which input.
  Laid BY PROGRAM, IN A SANDBOX (cutbox-rows.mjs): the forced cells as the released guide's own fill.sh prints them over the translation bc39bfd40545888d… (all of the seat's roots in one cut). By AI agents, Wed Nov 11 2026. No macro, syntax, notation, axiom, sorry.
-/
import Derived.Test.YtjkeampckinniaaChecked
import GoSem.Claim
import GoSem.ClaimJoined
import GoSem.ClaimMapViews
import Derived.JoinedTies
import Derived.KernelRfl
namespace Go.Proofs.Ytjkeampckinniaa
/- THE CELL 'sum', in the pinned program and in every row, IS THE sha256 OF THE DUMP (.gsa) THAT YtjkeampckinniaaProg.lean LOADS. Nothing in Lean hashes anything: it is a label: what it is worth is what the hold of that sum in a sandbox is worth. -/
noncomputable def Try.pinned : Pinned := { name := "ytjkeampckinniaa", sum := "bc39bfd40545888def9c514177c2b951c8164a89ccb33a3cff005c78feea08cd", checked := Try.checked }
namespace Rows
def none {H : Type} : Left H := { results := [], args := [] }

/-- 'mosaiclaw05.LengthsSums': WHATEVER THE INPUT: true; the input reads as it did. -/
def lengthsSumsSpec : ChangeSpec := { name := "lengthsSums", fn := fun _ => fun
  | [d1, d2] => { results := [.lit (.bool true)], args := [d1, d2] }
  | _ => none }
def lengthsSumsRow : OpenClaim := { program := "ytjkeampckinniaa", sum := "bc39bfd40545888def9c514177c2b951c8164a89ccb33a3cff005c78feea08cd", func := "mosaic/mosaiclaw05.LengthsSums", spec := "lengthsSums", apart := false }
def LengthsSumsSaid : Prop := lengthsSumsRow.holds Try.pinned (OpenSpec.ofChange lengthsSumsSpec)

/-- ITS FALSE NEIGHBOUR: 'it returns false'. Refute it at one input. -/
def lengthsSumsWrong : ChangeSpec := { name := "lengthsSums", fn := fun _ => fun
  | [d1, d2] => { results := [.lit (.bool false)], args := [d1, d2] }
  | _ => none }
def LengthsSumsWrongFalsely : Prop := lengthsSumsRow.holds Try.pinned (OpenSpec.ofChange lengthsSumsWrong)

/-- 'mosaiclaw05.LengthsNames': WHATEVER THE INPUT: true; the input reads as it did. -/
def lengthsNamesSpec : ChangeSpec := { name := "lengthsNames", fn := fun _ => fun
  | [] => { results := [.lit (.bool true)], args := [] }
  | _ => none }
def lengthsNamesRow : OpenClaim := { program := "ytjkeampckinniaa", sum := "bc39bfd40545888def9c514177c2b951c8164a89ccb33a3cff005c78feea08cd", func := "mosaic/mosaiclaw05.LengthsNames", spec := "lengthsNames", unfollowed := true, recurses := true, apart := false }
def LengthsNamesSaid : Prop := lengthsNamesRow.holds Try.pinned (OpenSpec.ofChange lengthsNamesSpec)

/-- ITS FALSE NEIGHBOUR: 'it returns false'. Refute it at one input. -/
def lengthsNamesWrong : ChangeSpec := { name := "lengthsNames", fn := fun _ => fun
  | [] => { results := [.lit (.bool false)], args := [] }
  | _ => none }
def LengthsNamesWrongFalsely : Prop := lengthsNamesRow.holds Try.pinned (OpenSpec.ofChange lengthsNamesWrong)

/-- 'mosaiclaw05.LengthsBest': WHATEVER THE INPUT: true; the input reads as it did. -/
def lengthsBestSpec : ChangeSpec := { name := "lengthsBest", fn := fun _ => fun
  | [d1, d2, d3] => { results := [.lit (.bool true)], args := [d1, d2, d3] }
  | _ => none }
def lengthsBestRow : OpenClaim := { program := "ytjkeampckinniaa", sum := "bc39bfd40545888def9c514177c2b951c8164a89ccb33a3cff005c78feea08cd", func := "mosaic/mosaiclaw05.LengthsBest", spec := "lengthsBest", unfollowed := true, recurses := true, apart := false }
def LengthsBestSaid : Prop := lengthsBestRow.holds Try.pinned (OpenSpec.ofChange lengthsBestSpec)

/-- ITS FALSE NEIGHBOUR: 'it returns false'. Refute it at one input. -/
def lengthsBestWrong : ChangeSpec := { name := "lengthsBest", fn := fun _ => fun
  | [d1, d2, d3] => { results := [.lit (.bool false)], args := [d1, d2, d3] }
  | _ => none }
def LengthsBestWrongFalsely : Prop := lengthsBestRow.holds Try.pinned (OpenSpec.ofChange lengthsBestWrong)

/-- 'mosaiclaw05.LengthsSpec': WHATEVER THE INPUT: true; the input reads as it did. -/
def lengthsSpecSpec : ChangeSpec := { name := "lengthsSpec", fn := fun _ => fun
  | [d] => { results := [.lit (.bool true)], args := [d] }
  | _ => none }
def lengthsSpecRow : OpenClaim := { program := "ytjkeampckinniaa", sum := "bc39bfd40545888def9c514177c2b951c8164a89ccb33a3cff005c78feea08cd", func := "mosaic/mosaiclaw05.LengthsSpec", spec := "lengthsSpec", unfollowed := true, recurses := true, apart := false }
def LengthsSpecSaid : Prop := lengthsSpecRow.holds Try.pinned (OpenSpec.ofChange lengthsSpecSpec)

/-- ITS FALSE NEIGHBOUR: 'it returns false'. Refute it at one input. -/
def lengthsSpecWrong : ChangeSpec := { name := "lengthsSpec", fn := fun _ => fun
  | [d] => { results := [.lit (.bool false)], args := [d] }
  | _ => none }
def LengthsSpecWrongFalsely : Prop := lengthsSpecRow.holds Try.pinned (OpenSpec.ofChange lengthsSpecWrong)

/-- 'mosaiclaw05.LengthsLeast': WHATEVER THE INPUT: true; the input reads as it did. -/
def lengthsLeastSpec : ChangeSpec := { name := "lengthsLeast", fn := fun _ => fun
  | [d1, d2, d3] => { results := [.lit (.bool true)], args := [d1, d2, d3] }
  | _ => none }
def lengthsLeastRow : OpenClaim := { program := "ytjkeampckinniaa", sum := "bc39bfd40545888def9c514177c2b951c8164a89ccb33a3cff005c78feea08cd", func := "mosaic/mosaiclaw05.LengthsLeast", spec := "lengthsLeast", unfollowed := true, recurses := true, apart := false }
def LengthsLeastSaid : Prop := lengthsLeastRow.holds Try.pinned (OpenSpec.ofChange lengthsLeastSpec)

/-- ITS FALSE NEIGHBOUR: 'it returns false'. Refute it at one input. -/
def lengthsLeastWrong : ChangeSpec := { name := "lengthsLeast", fn := fun _ => fun
  | [d1, d2, d3] => { results := [.lit (.bool false)], args := [d1, d2, d3] }
  | _ => none }
def LengthsLeastWrongFalsely : Prop := lengthsLeastRow.holds Try.pinned (OpenSpec.ofChange lengthsLeastWrong)

/-- 'mosaiclaw05.LengthsHuffman': WHATEVER THE INPUT: true; the input reads as it did. -/
def lengthsHuffmanSpec : ChangeSpec := { name := "lengthsHuffman", fn := fun _ => fun
  | [d] => { results := [.lit (.bool true)], args := [d] }
  | _ => none }
def lengthsHuffmanRow : OpenClaim := { program := "ytjkeampckinniaa", sum := "bc39bfd40545888def9c514177c2b951c8164a89ccb33a3cff005c78feea08cd", func := "mosaic/mosaiclaw05.LengthsHuffman", spec := "lengthsHuffman", unfollowed := true, recurses := true, apart := false }
def LengthsHuffmanSaid : Prop := lengthsHuffmanRow.holds Try.pinned (OpenSpec.ofChange lengthsHuffmanSpec)

/-- ITS FALSE NEIGHBOUR: 'it returns false'. Refute it at one input. -/
def lengthsHuffmanWrong : ChangeSpec := { name := "lengthsHuffman", fn := fun _ => fun
  | [d] => { results := [.lit (.bool false)], args := [d] }
  | _ => none }
def LengthsHuffmanWrongFalsely : Prop := lengthsHuffmanRow.holds Try.pinned (OpenSpec.ofChange lengthsHuffmanWrong)

/-- 'mosaiclaw05.LengthsHeap': WHATEVER THE INPUT: true; the input reads as it did. -/
def lengthsHeapSpec : ChangeSpec := { name := "lengthsHeap", fn := fun _ => fun
  | [d1, d2] => { results := [.lit (.bool true)], args := [d1, d2] }
  | _ => none }
def lengthsHeapRow : OpenClaim := { program := "ytjkeampckinniaa", sum := "bc39bfd40545888def9c514177c2b951c8164a89ccb33a3cff005c78feea08cd", func := "mosaic/mosaiclaw05.LengthsHeap", spec := "lengthsHeap", unfollowed := true, recurses := true, apart := false }
def LengthsHeapSaid : Prop := lengthsHeapRow.holds Try.pinned (OpenSpec.ofChange lengthsHeapSpec)

/-- ITS FALSE NEIGHBOUR: 'it returns false'. Refute it at one input. -/
def lengthsHeapWrong : ChangeSpec := { name := "lengthsHeap", fn := fun _ => fun
  | [d1, d2] => { results := [.lit (.bool false)], args := [d1, d2] }
  | _ => none }
def LengthsHeapWrongFalsely : Prop := lengthsHeapRow.holds Try.pinned (OpenSpec.ofChange lengthsHeapWrong)

/-- 'mosaiclaw05.LengthsAny': WHATEVER THE INPUT: true; the input reads as it did. -/
def lengthsAnySpec : ChangeSpec := { name := "lengthsAny", fn := fun _ => fun
  | [d1, d2] => { results := [.lit (.bool true)], args := [d1, d2] }
  | _ => none }
def lengthsAnyRow : OpenClaim := { program := "ytjkeampckinniaa", sum := "bc39bfd40545888def9c514177c2b951c8164a89ccb33a3cff005c78feea08cd", func := "mosaic/mosaiclaw05.LengthsAny", spec := "lengthsAny", unfollowed := true, recurses := true, apart := false }
def LengthsAnySaid : Prop := lengthsAnyRow.holds Try.pinned (OpenSpec.ofChange lengthsAnySpec)

/-- ITS FALSE NEIGHBOUR: 'it returns false'. Refute it at one input. -/
def lengthsAnyWrong : ChangeSpec := { name := "lengthsAny", fn := fun _ => fun
  | [d1, d2] => { results := [.lit (.bool false)], args := [d1, d2] }
  | _ => none }
def LengthsAnyWrongFalsely : Prop := lengthsAnyRow.holds Try.pinned (OpenSpec.ofChange lengthsAnyWrong)

/-- 'mosaiclaw05.LengthsTable': WHATEVER THE INPUT: true; the input reads as it did. -/
def lengthsTableSpec : ChangeSpec := { name := "lengthsTable", fn := fun _ => fun
  | [d1, d2] => { results := [.lit (.bool true)], args := [d1, d2] }
  | _ => none }
def lengthsTableRow : OpenClaim := { program := "ytjkeampckinniaa", sum := "bc39bfd40545888def9c514177c2b951c8164a89ccb33a3cff005c78feea08cd", func := "mosaic/mosaiclaw05.LengthsTable", spec := "lengthsTable", unfollowed := true, recurses := true, apart := false }
def LengthsTableSaid : Prop := lengthsTableRow.holds Try.pinned (OpenSpec.ofChange lengthsTableSpec)

/-- ITS FALSE NEIGHBOUR: 'it returns false'. Refute it at one input. -/
def lengthsTableWrong : ChangeSpec := { name := "lengthsTable", fn := fun _ => fun
  | [d1, d2] => { results := [.lit (.bool false)], args := [d1, d2] }
  | _ => none }
def LengthsTableWrongFalsely : Prop := lengthsTableRow.holds Try.pinned (OpenSpec.ofChange lengthsTableWrong)

/-- 'mosaictop.TopTables': WHATEVER THE INPUT: true; the input reads as it did. -/
def topTablesSpec : ChangeSpec := { name := "topTables", fn := fun _ => fun
  | [d1, d2, d3] => { results := [.lit (.bool true)], args := [d1, d2, d3] }
  | _ => none }
def topTablesRow : OpenClaim := { program := "ytjkeampckinniaa", sum := "bc39bfd40545888def9c514177c2b951c8164a89ccb33a3cff005c78feea08cd", func := "mosaic/mosaictop.TopTables", spec := "topTables", unfollowed := true, recurses := true, apart := false }
def TopTablesSaid : Prop := topTablesRow.holds Try.pinned (OpenSpec.ofChange topTablesSpec)

/-- ITS FALSE NEIGHBOUR: 'it returns false'. Refute it at one input. -/
def topTablesWrong : ChangeSpec := { name := "topTables", fn := fun _ => fun
  | [d1, d2, d3] => { results := [.lit (.bool false)], args := [d1, d2, d3] }
  | _ => none }
def TopTablesWrongFalsely : Prop := topTablesRow.holds Try.pinned (OpenSpec.ofChange topTablesWrong)

/- THE SECOND FORM. 'bulk': how many values and letters a reading holds, each counted each time it is reached (what is shared counts as often as it is met; a slice's spare places count too). A statement '..UptoSaid' is the law's where the arguments, and the package variables that the reading takes, are together of bulk at most 1048576: NARROWER than '..Said'. Prove '..Said' where nothing that the law and all that it calls make is longer than what came in: it says more and counts as full. Else prove '..UptoSaid'. A law counts once. -/
mutual
def uptoBulk {H : Type} : DataW H → Nat
  | .lit (.string bytes) => bytes.length + 1
  | .lit _ => 1
  | .nil => 1
  | .ptr d => uptoBulk d + 1
  | .slice elems spare => uptoBulkAll elems + uptoBulkAll spare + 1
  | .agg parts => uptoBulkAll parts + 1
  | .iface _ d => uptoBulk d + 1
  | .map entries => uptoBulkEntries entries + 1
  | .held _ => 1
def uptoBulkAll {H : Type} : List (DataW H) → Nat
  | [] => 0
  | d :: r => uptoBulk d + uptoBulkAll r
def uptoBulkEntries {H : Type} : List (Lit × DataW H) → Nat
  | [] => 0
  | x :: r => uptoBulkEntry x + uptoBulkEntries r
def uptoBulkEntry {H : Type} : Lit × DataW H → Nat
  | (.string bytes, d) => bytes.length + uptoBulk d + 1
  | (_, d) => uptoBulk d + 1
 end
def uptoSmall : (H : Type) → List (DataW H) → Bool := fun _ ds => decide (uptoBulkAll ds ≤ 1048576)
def OpenSpec.upto (s : _root_.Go.ChangeSpec) : _root_.Go.OpenSpec := { _root_.Go.OpenSpec.ofChange s with cond := some uptoSmall }

/-- 'mosaiclaw05.LengthsSums', WHERE WHAT IT READS IS OF BULK AT MOST 1048576: true; the input reads as it did. -/
def lengthsSumsUptoRow : OpenClaim := { program := "ytjkeampckinniaa", sum := "bc39bfd40545888def9c514177c2b951c8164a89ccb33a3cff005c78feea08cd", func := "mosaic/mosaiclaw05.LengthsSums", spec := "lengthsSums", apart := false, narrowed := true }
def LengthsSumsUptoSaid : Prop := lengthsSumsUptoRow.holds Try.pinned (OpenSpec.upto lengthsSumsSpec)

/-- 'mosaiclaw05.LengthsNames', WHERE WHAT IT READS IS OF BULK AT MOST 1048576: true; the input reads as it did. -/
def lengthsNamesUptoRow : OpenClaim := { program := "ytjkeampckinniaa", sum := "bc39bfd40545888def9c514177c2b951c8164a89ccb33a3cff005c78feea08cd", func := "mosaic/mosaiclaw05.LengthsNames", spec := "lengthsNames", unfollowed := true, recurses := true, apart := false, narrowed := true }
def LengthsNamesUptoSaid : Prop := lengthsNamesUptoRow.holds Try.pinned (OpenSpec.upto lengthsNamesSpec)

/-- 'mosaiclaw05.LengthsBest', WHERE WHAT IT READS IS OF BULK AT MOST 1048576: true; the input reads as it did. -/
def lengthsBestUptoRow : OpenClaim := { program := "ytjkeampckinniaa", sum := "bc39bfd40545888def9c514177c2b951c8164a89ccb33a3cff005c78feea08cd", func := "mosaic/mosaiclaw05.LengthsBest", spec := "lengthsBest", unfollowed := true, recurses := true, apart := false, narrowed := true }
def LengthsBestUptoSaid : Prop := lengthsBestUptoRow.holds Try.pinned (OpenSpec.upto lengthsBestSpec)

/-- 'mosaiclaw05.LengthsSpec', WHERE WHAT IT READS IS OF BULK AT MOST 1048576: true; the input reads as it did. -/
def lengthsSpecUptoRow : OpenClaim := { program := "ytjkeampckinniaa", sum := "bc39bfd40545888def9c514177c2b951c8164a89ccb33a3cff005c78feea08cd", func := "mosaic/mosaiclaw05.LengthsSpec", spec := "lengthsSpec", unfollowed := true, recurses := true, apart := false, narrowed := true }
def LengthsSpecUptoSaid : Prop := lengthsSpecUptoRow.holds Try.pinned (OpenSpec.upto lengthsSpecSpec)

/-- 'mosaiclaw05.LengthsLeast', WHERE WHAT IT READS IS OF BULK AT MOST 1048576: true; the input reads as it did. -/
def lengthsLeastUptoRow : OpenClaim := { program := "ytjkeampckinniaa", sum := "bc39bfd40545888def9c514177c2b951c8164a89ccb33a3cff005c78feea08cd", func := "mosaic/mosaiclaw05.LengthsLeast", spec := "lengthsLeast", unfollowed := true, recurses := true, apart := false, narrowed := true }
def LengthsLeastUptoSaid : Prop := lengthsLeastUptoRow.holds Try.pinned (OpenSpec.upto lengthsLeastSpec)

/-- 'mosaiclaw05.LengthsHuffman', WHERE WHAT IT READS IS OF BULK AT MOST 1048576: true; the input reads as it did. -/
def lengthsHuffmanUptoRow : OpenClaim := { program := "ytjkeampckinniaa", sum := "bc39bfd40545888def9c514177c2b951c8164a89ccb33a3cff005c78feea08cd", func := "mosaic/mosaiclaw05.LengthsHuffman", spec := "lengthsHuffman", unfollowed := true, recurses := true, apart := false, narrowed := true }
def LengthsHuffmanUptoSaid : Prop := lengthsHuffmanUptoRow.holds Try.pinned (OpenSpec.upto lengthsHuffmanSpec)

/-- 'mosaiclaw05.LengthsHeap', WHERE WHAT IT READS IS OF BULK AT MOST 1048576: true; the input reads as it did. -/
def lengthsHeapUptoRow : OpenClaim := { program := "ytjkeampckinniaa", sum := "bc39bfd40545888def9c514177c2b951c8164a89ccb33a3cff005c78feea08cd", func := "mosaic/mosaiclaw05.LengthsHeap", spec := "lengthsHeap", unfollowed := true, recurses := true, apart := false, narrowed := true }
def LengthsHeapUptoSaid : Prop := lengthsHeapUptoRow.holds Try.pinned (OpenSpec.upto lengthsHeapSpec)

/-- 'mosaiclaw05.LengthsAny', WHERE WHAT IT READS IS OF BULK AT MOST 1048576: true; the input reads as it did. -/
def lengthsAnyUptoRow : OpenClaim := { program := "ytjkeampckinniaa", sum := "bc39bfd40545888def9c514177c2b951c8164a89ccb33a3cff005c78feea08cd", func := "mosaic/mosaiclaw05.LengthsAny", spec := "lengthsAny", unfollowed := true, recurses := true, apart := false, narrowed := true }
def LengthsAnyUptoSaid : Prop := lengthsAnyUptoRow.holds Try.pinned (OpenSpec.upto lengthsAnySpec)

/-- 'mosaiclaw05.LengthsTable', WHERE WHAT IT READS IS OF BULK AT MOST 1048576: true; the input reads as it did. -/
def lengthsTableUptoRow : OpenClaim := { program := "ytjkeampckinniaa", sum := "bc39bfd40545888def9c514177c2b951c8164a89ccb33a3cff005c78feea08cd", func := "mosaic/mosaiclaw05.LengthsTable", spec := "lengthsTable", unfollowed := true, recurses := true, apart := false, narrowed := true }
def LengthsTableUptoSaid : Prop := lengthsTableUptoRow.holds Try.pinned (OpenSpec.upto lengthsTableSpec)

/-- 'mosaictop.TopTables', WHERE WHAT IT READS IS OF BULK AT MOST 1048576: true; the input reads as it did. -/
def topTablesUptoRow : OpenClaim := { program := "ytjkeampckinniaa", sum := "bc39bfd40545888def9c514177c2b951c8164a89ccb33a3cff005c78feea08cd", func := "mosaic/mosaictop.TopTables", spec := "topTables", unfollowed := true, recurses := true, apart := false, narrowed := true }
def TopTablesUptoSaid : Prop := topTablesUptoRow.holds Try.pinned (OpenSpec.upto topTablesSpec)

end Rows
end Go.Proofs.Ytjkeampckinniaa
