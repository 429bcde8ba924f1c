/-
  No cell of these rows narrows 'for every input' (looked for: loops, veiled, ifaces, maps, wideKeys, modest, calm, conditions, laid).
  DERIVED. THE GIVEN ROWS OF THIS SEAT. 6 by the template 'for every input the law returns true; each argument reads behind the call as it read before'; 0 by the template 'total and deterministic' (their statements: YtjooojklkihkcaaTotals.lean).
  GIVEN WITH THE SEED: the statements are not yours to turn. If you find one false, say at which input.
  Laid BY PROGRAM, IN A SANDBOX (cutbox-rows.mjs): the forced cells as the released guide's own fill.sh prints them over the translation 0e9a8d40bfce6839… (all of the seat's roots in one cut). By AI agents, Wed Nov 11 2026. No macro, syntax, notation, axiom, sorry.
-/
import Derived.Test.YtjooojklkihkcaaChecked
import GoSem.Claim
import GoSem.ClaimJoined
import GoSem.ClaimMapViews
import Derived.JoinedTies
import Derived.KernelRfl
namespace Go.Proofs.Ytjooojklkihkcaa
/- THE CELL 'sum', in the pinned program and in every row, IS THE sha256 OF THE DUMP (.gsa) THAT YtjooojklkihkcaaProg.lean LOADS. Nothing in Lean hashes anything: it is a label: what it is worth is what the hold of that sum in a sandbox is worth. -/
noncomputable def Try.pinned : Pinned := { name := "ytjooojklkihkcaa", sum := "0e9a8d40bfce68396dac9174df6b987bd40a13277262deae27992ee2d5559d23", checked := Try.checked }
namespace Rows
def none {H : Type} : Left H := { results := [], args := [] }

/-- 'hoardlaw03.XxhSums': WHATEVER THE INPUT: true; the input reads as it did. -/
def xxhSumsSpec : ChangeSpec := { name := "xxhSums", fn := fun _ => fun
  | [d1, d2] => { results := [.lit (.bool true)], args := [d1, d2] }
  | _ => none }
def xxhSumsRow : OpenClaim := { program := "ytjooojklkihkcaa", sum := "0e9a8d40bfce68396dac9174df6b987bd40a13277262deae27992ee2d5559d23", func := "hoard/hoardlaw03.XxhSums", spec := "xxhSums", apart := false }
def XxhSumsSaid : Prop := xxhSumsRow.holds Try.pinned (OpenSpec.ofChange xxhSumsSpec)

/-- ITS FALSE NEIGHBOUR: 'it returns false'. Refute it at one input. -/
def xxhSumsWrong : ChangeSpec := { name := "xxhSums", fn := fun _ => fun
  | [d1, d2] => { results := [.lit (.bool false)], args := [d1, d2] }
  | _ => none }
def XxhSumsWrongFalsely : Prop := xxhSumsRow.holds Try.pinned (OpenSpec.ofChange xxhSumsWrong)

/-- 'hoardlaw03.XxhWrites': WHATEVER THE INPUT: true; the input reads as it did. -/
def xxhWritesSpec : ChangeSpec := { name := "xxhWrites", fn := fun _ => fun
  | [d1, d2] => { results := [.lit (.bool true)], args := [d1, d2] }
  | _ => none }
def xxhWritesRow : OpenClaim := { program := "ytjooojklkihkcaa", sum := "0e9a8d40bfce68396dac9174df6b987bd40a13277262deae27992ee2d5559d23", func := "hoard/hoardlaw03.XxhWrites", spec := "xxhWrites", apart := false }
def XxhWritesSaid : Prop := xxhWritesRow.holds Try.pinned (OpenSpec.ofChange xxhWritesSpec)

/-- ITS FALSE NEIGHBOUR: 'it returns false'. Refute it at one input. -/
def xxhWritesWrong : ChangeSpec := { name := "xxhWrites", fn := fun _ => fun
  | [d1, d2] => { results := [.lit (.bool false)], args := [d1, d2] }
  | _ => none }
def XxhWritesWrongFalsely : Prop := xxhWritesRow.holds Try.pinned (OpenSpec.ofChange xxhWritesWrong)

/-- 'hoardlaw03.XxhPieces': WHATEVER THE INPUT: true; the input reads as it did. -/
def xxhPiecesSpec : ChangeSpec := { name := "xxhPieces", fn := fun _ => fun
  | [d1, d2, d3, d4] => { results := [.lit (.bool true)], args := [d1, d2, d3, d4] }
  | _ => none }
def xxhPiecesRow : OpenClaim := { program := "ytjooojklkihkcaa", sum := "0e9a8d40bfce68396dac9174df6b987bd40a13277262deae27992ee2d5559d23", func := "hoard/hoardlaw03.XxhPieces", spec := "xxhPieces", apart := false }
def XxhPiecesSaid : Prop := xxhPiecesRow.holds Try.pinned (OpenSpec.ofChange xxhPiecesSpec)

/-- ITS FALSE NEIGHBOUR: 'it returns false'. Refute it at one input. -/
def xxhPiecesWrong : ChangeSpec := { name := "xxhPieces", fn := fun _ => fun
  | [d1, d2, d3, d4] => { results := [.lit (.bool false)], args := [d1, d2, d3, d4] }
  | _ => none }
def XxhPiecesWrongFalsely : Prop := xxhPiecesRow.holds Try.pinned (OpenSpec.ofChange xxhPiecesWrong)

/-- 'hoardlaw03.XxhApart': WHATEVER THE INPUT: true; the input reads as it did. -/
def xxhApartSpec : ChangeSpec := { name := "xxhApart", fn := fun _ => fun
  | [d1, d2, d3, d4, d5] => { results := [.lit (.bool true)], args := [d1, d2, d3, d4, d5] }
  | _ => none }
def xxhApartRow : OpenClaim := { program := "ytjooojklkihkcaa", sum := "0e9a8d40bfce68396dac9174df6b987bd40a13277262deae27992ee2d5559d23", func := "hoard/hoardlaw03.XxhApart", spec := "xxhApart", apart := false }
def XxhApartSaid : Prop := xxhApartRow.holds Try.pinned (OpenSpec.ofChange xxhApartSpec)

/-- ITS FALSE NEIGHBOUR: 'it returns false'. Refute it at one input. -/
def xxhApartWrong : ChangeSpec := { name := "xxhApart", fn := fun _ => fun
  | [d1, d2, d3, d4, d5] => { results := [.lit (.bool false)], args := [d1, d2, d3, d4, d5] }
  | _ => none }
def XxhApartWrongFalsely : Prop := xxhApartRow.holds Try.pinned (OpenSpec.ofChange xxhApartWrong)

/-- 'hoardlaw03.XxhKnown': WHATEVER THE INPUT: true; the input reads as it did. -/
def xxhKnownSpec : ChangeSpec := { name := "xxhKnown", fn := fun _ => fun
  | [] => { results := [.lit (.bool true)], args := [] }
  | _ => none }
def xxhKnownRow : OpenClaim := { program := "ytjooojklkihkcaa", sum := "0e9a8d40bfce68396dac9174df6b987bd40a13277262deae27992ee2d5559d23", func := "hoard/hoardlaw03.XxhKnown", spec := "xxhKnown", apart := false }
def XxhKnownSaid : Prop := xxhKnownRow.holds Try.pinned (OpenSpec.ofChange xxhKnownSpec)

/-- ITS FALSE NEIGHBOUR: 'it returns false'. Refute it at one input. -/
def xxhKnownWrong : ChangeSpec := { name := "xxhKnown", fn := fun _ => fun
  | [] => { results := [.lit (.bool false)], args := [] }
  | _ => none }
def XxhKnownWrongFalsely : Prop := xxhKnownRow.holds Try.pinned (OpenSpec.ofChange xxhKnownWrong)

/-- 'hoardlaw03.XxhNobody': WHATEVER THE INPUT: true; the input reads as it did. -/
def xxhNobodySpec : ChangeSpec := { name := "xxhNobody", fn := fun _ => fun
  | [d] => { results := [.lit (.bool true)], args := [d] }
  | _ => none }
def xxhNobodyRow : OpenClaim := { program := "ytjooojklkihkcaa", sum := "0e9a8d40bfce68396dac9174df6b987bd40a13277262deae27992ee2d5559d23", func := "hoard/hoardlaw03.XxhNobody", spec := "xxhNobody", apart := false }
def XxhNobodySaid : Prop := xxhNobodyRow.holds Try.pinned (OpenSpec.ofChange xxhNobodySpec)

/-- ITS FALSE NEIGHBOUR: 'it returns false'. Refute it at one input. -/
def xxhNobodyWrong : ChangeSpec := { name := "xxhNobody", fn := fun _ => fun
  | [d] => { results := [.lit (.bool false)], args := [d] }
  | _ => none }
def XxhNobodyWrongFalsely : Prop := xxhNobodyRow.holds Try.pinned (OpenSpec.ofChange xxhNobodyWrong)

/- THE SECOND FORM. 'bulk': how many values and letters a reading holds, each counted each time it is reached (what is shared counts as often as it is met; a slice's spare places count too). A statement '..UptoSaid' is the law's where the arguments, and the package variables that the reading takes, are together of bulk at most 1048576: NARROWER than '..Said'. Prove '..Said' where nothing that the law and all that it calls make is longer than what came in: it says more and counts as full. Else prove '..UptoSaid'. A law counts once. -/
mutual
def uptoBulk {H : Type} : DataW H → Nat
  | .lit (.string bytes) => bytes.length + 1
  | .lit _ => 1
  | .nil => 1
  | .ptr d => uptoBulk d + 1
  | .slice elems spare => uptoBulkAll elems + uptoBulkAll spare + 1
  | .agg parts => uptoBulkAll parts + 1
  | .iface _ d => uptoBulk d + 1
  | .map entries => uptoBulkEntries entries + 1
  | .held _ => 1
def uptoBulkAll {H : Type} : List (DataW H) → Nat
  | [] => 0
  | d :: r => uptoBulk d + uptoBulkAll r
def uptoBulkEntries {H : Type} : List (Lit × DataW H) → Nat
  | [] => 0
  | x :: r => uptoBulkEntry x + uptoBulkEntries r
def uptoBulkEntry {H : Type} : Lit × DataW H → Nat
  | (.string bytes, d) => bytes.length + uptoBulk d + 1
  | (_, d) => uptoBulk d + 1
 end
def uptoSmall : (H : Type) → List (DataW H) → Bool := fun _ ds => decide (uptoBulkAll ds ≤ 1048576)
def OpenSpec.upto (s : _root_.Go.ChangeSpec) : _root_.Go.OpenSpec := { _root_.Go.OpenSpec.ofChange s with cond := some uptoSmall }

/-- 'hoardlaw03.XxhSums', WHERE WHAT IT READS IS OF BULK AT MOST 1048576: true; the input reads as it did. -/
def xxhSumsUptoRow : OpenClaim := { program := "ytjooojklkihkcaa", sum := "0e9a8d40bfce68396dac9174df6b987bd40a13277262deae27992ee2d5559d23", func := "hoard/hoardlaw03.XxhSums", spec := "xxhSums", apart := false, narrowed := true }
def XxhSumsUptoSaid : Prop := xxhSumsUptoRow.holds Try.pinned (OpenSpec.upto xxhSumsSpec)

/-- 'hoardlaw03.XxhWrites', WHERE WHAT IT READS IS OF BULK AT MOST 1048576: true; the input reads as it did. -/
def xxhWritesUptoRow : OpenClaim := { program := "ytjooojklkihkcaa", sum := "0e9a8d40bfce68396dac9174df6b987bd40a13277262deae27992ee2d5559d23", func := "hoard/hoardlaw03.XxhWrites", spec := "xxhWrites", apart := false, narrowed := true }
def XxhWritesUptoSaid : Prop := xxhWritesUptoRow.holds Try.pinned (OpenSpec.upto xxhWritesSpec)

/-- 'hoardlaw03.XxhPieces', WHERE WHAT IT READS IS OF BULK AT MOST 1048576: true; the input reads as it did. -/
def xxhPiecesUptoRow : OpenClaim := { program := "ytjooojklkihkcaa", sum := "0e9a8d40bfce68396dac9174df6b987bd40a13277262deae27992ee2d5559d23", func := "hoard/hoardlaw03.XxhPieces", spec := "xxhPieces", apart := false, narrowed := true }
def XxhPiecesUptoSaid : Prop := xxhPiecesUptoRow.holds Try.pinned (OpenSpec.upto xxhPiecesSpec)

/-- 'hoardlaw03.XxhApart', WHERE WHAT IT READS IS OF BULK AT MOST 1048576: true; the input reads as it did. -/
def xxhApartUptoRow : OpenClaim := { program := "ytjooojklkihkcaa", sum := "0e9a8d40bfce68396dac9174df6b987bd40a13277262deae27992ee2d5559d23", func := "hoard/hoardlaw03.XxhApart", spec := "xxhApart", apart := false, narrowed := true }
def XxhApartUptoSaid : Prop := xxhApartUptoRow.holds Try.pinned (OpenSpec.upto xxhApartSpec)

/-- 'hoardlaw03.XxhKnown', WHERE WHAT IT READS IS OF BULK AT MOST 1048576: true; the input reads as it did. -/
def xxhKnownUptoRow : OpenClaim := { program := "ytjooojklkihkcaa", sum := "0e9a8d40bfce68396dac9174df6b987bd40a13277262deae27992ee2d5559d23", func := "hoard/hoardlaw03.XxhKnown", spec := "xxhKnown", apart := false, narrowed := true }
def XxhKnownUptoSaid : Prop := xxhKnownUptoRow.holds Try.pinned (OpenSpec.upto xxhKnownSpec)

/-- 'hoardlaw03.XxhNobody', WHERE WHAT IT READS IS OF BULK AT MOST 1048576: true; the input reads as it did. -/
def xxhNobodyUptoRow : OpenClaim := { program := "ytjooojklkihkcaa", sum := "0e9a8d40bfce68396dac9174df6b987bd40a13277262deae27992ee2d5559d23", func := "hoard/hoardlaw03.XxhNobody", spec := "xxhNobody", apart := false, narrowed := true }
def XxhNobodyUptoSaid : Prop := xxhNobodyUptoRow.holds Try.pinned (OpenSpec.upto xxhNobodySpec)

end Rows
end Go.Proofs.Ytjooojklkihkcaa
