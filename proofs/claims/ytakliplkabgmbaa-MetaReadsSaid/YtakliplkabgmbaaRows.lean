/-
  No cell of these rows narrows 'for every input' (looked for: loops, veiled, ifaces, maps, wideKeys, modest, calm, conditions, laid).
  DERIVED. THE GIVEN ROWS OF THIS SEAT. 5 by the template 'for every input the law returns true; each argument reads behind the call as it read before'; 0 by the template 'total and deterministic' (their statements: YtakliplkabgmbaaTotals.lean).
  GIVEN WITH THE SEED: the statements are not yours to turn. If you find one false, say at which input.
  Laid BY PROGRAM, IN A SANDBOX (cutbox-rows.mjs): the forced cells as the released guide's own fill.sh prints them over the translation 0d052da57d6de585… (all of the seat's roots in one cut). By AI agents, Wed Nov 11 2026. No macro, syntax, notation, axiom, sorry.
-/
import Derived.Test.YtakliplkabgmbaaChecked
import GoSem.Claim
import GoSem.ClaimJoined
import GoSem.ClaimMapViews
import Derived.JoinedTies
import Derived.KernelRfl
namespace Go.Proofs.Ytakliplkabgmbaa
/- THE CELL 'sum', in the pinned program and in every row, IS THE sha256 OF THE DUMP (.gsa) THAT YtakliplkabgmbaaProg.lean LOADS. Nothing in Lean hashes anything: it is a label: what it is worth is what the hold of that sum in a sandbox is worth. -/
noncomputable def Try.pinned : Pinned := { name := "ytakliplkabgmbaa", sum := "0d052da57d6de585f5fd56cd757deb412464f1dbd590cd4016055a44f9eabb59", checked := Try.checked }
namespace Rows
def none {H : Type} : Left H := { results := [], args := [] }

/-- 'hoardlaw23.MetaNames': WHATEVER THE INPUT: true; the input reads as it did. -/
def metaNamesSpec : ChangeSpec := { name := "metaNames", fn := fun _ => fun
  | [d] => { results := [.lit (.bool true)], args := [d] }
  | _ => none }
def metaNamesRow : OpenClaim := { program := "ytakliplkabgmbaa", sum := "0d052da57d6de585f5fd56cd757deb412464f1dbd590cd4016055a44f9eabb59", func := "hoard/hoardlaw23.MetaNames", spec := "metaNames", recurses := true, apart := false }
def MetaNamesSaid : Prop := metaNamesRow.holds Try.pinned (OpenSpec.ofChange metaNamesSpec)

/-- ITS FALSE NEIGHBOUR: 'it returns false'. Refute it at one input. -/
def metaNamesWrong : ChangeSpec := { name := "metaNames", fn := fun _ => fun
  | [d] => { results := [.lit (.bool false)], args := [d] }
  | _ => none }
def MetaNamesWrongFalsely : Prop := metaNamesRow.holds Try.pinned (OpenSpec.ofChange metaNamesWrong)

/-- 'hoardlaw23.MetaWrites': WHATEVER THE INPUT: true; the input reads as it did. -/
def metaWritesSpec : ChangeSpec := { name := "metaWrites", fn := fun _ => fun
  | [d1, d2, d3] => { results := [.lit (.bool true)], args := [d1, d2, d3] }
  | _ => none }
def metaWritesRow : OpenClaim := { program := "ytakliplkabgmbaa", sum := "0d052da57d6de585f5fd56cd757deb412464f1dbd590cd4016055a44f9eabb59", func := "hoard/hoardlaw23.MetaWrites", spec := "metaWrites", recurses := true, apart := false }
def MetaWritesSaid : Prop := metaWritesRow.holds Try.pinned (OpenSpec.ofChange metaWritesSpec)

/-- ITS FALSE NEIGHBOUR: 'it returns false'. Refute it at one input. -/
def metaWritesWrong : ChangeSpec := { name := "metaWrites", fn := fun _ => fun
  | [d1, d2, d3] => { results := [.lit (.bool false)], args := [d1, d2, d3] }
  | _ => none }
def MetaWritesWrongFalsely : Prop := metaWritesRow.holds Try.pinned (OpenSpec.ofChange metaWritesWrong)

/-- 'hoardlaw23.MetaReads': WHATEVER THE INPUT: true; the input reads as it did. -/
def metaReadsSpec : ChangeSpec := { name := "metaReads", fn := fun _ => fun
  | [d] => { results := [.lit (.bool true)], args := [d] }
  | _ => none }
def metaReadsRow : OpenClaim := { program := "ytakliplkabgmbaa", sum := "0d052da57d6de585f5fd56cd757deb412464f1dbd590cd4016055a44f9eabb59", func := "hoard/hoardlaw23.MetaReads", spec := "metaReads", unfollowed := true, recurses := true, apart := false }
def MetaReadsSaid : Prop := metaReadsRow.holds Try.pinned (OpenSpec.ofChange metaReadsSpec)

/-- ITS FALSE NEIGHBOUR: 'it returns false'. Refute it at one input. -/
def metaReadsWrong : ChangeSpec := { name := "metaReads", fn := fun _ => fun
  | [d] => { results := [.lit (.bool false)], args := [d] }
  | _ => none }
def MetaReadsWrongFalsely : Prop := metaReadsRow.holds Try.pinned (OpenSpec.ofChange metaReadsWrong)

/-- 'hoardlaw23.MetaBack': WHATEVER THE INPUT: true; the input reads as it did. -/
def metaBackSpec : ChangeSpec := { name := "metaBack", fn := fun _ => fun
  | [d1, d2, d3] => { results := [.lit (.bool true)], args := [d1, d2, d3] }
  | _ => none }
def metaBackRow : OpenClaim := { program := "ytakliplkabgmbaa", sum := "0d052da57d6de585f5fd56cd757deb412464f1dbd590cd4016055a44f9eabb59", func := "hoard/hoardlaw23.MetaBack", spec := "metaBack", unfollowed := true, recurses := true, apart := false }
def MetaBackSaid : Prop := metaBackRow.holds Try.pinned (OpenSpec.ofChange metaBackSpec)

/-- ITS FALSE NEIGHBOUR: 'it returns false'. Refute it at one input. -/
def metaBackWrong : ChangeSpec := { name := "metaBack", fn := fun _ => fun
  | [d1, d2, d3] => { results := [.lit (.bool false)], args := [d1, d2, d3] }
  | _ => none }
def MetaBackWrongFalsely : Prop := metaBackRow.holds Try.pinned (OpenSpec.ofChange metaBackWrong)

/-- 'hoardlaw23.MetaAgain': WHATEVER THE INPUT: true; the input reads as it did. -/
def metaAgainSpec : ChangeSpec := { name := "metaAgain", fn := fun _ => fun
  | [d] => { results := [.lit (.bool true)], args := [d] }
  | _ => none }
def metaAgainRow : OpenClaim := { program := "ytakliplkabgmbaa", sum := "0d052da57d6de585f5fd56cd757deb412464f1dbd590cd4016055a44f9eabb59", func := "hoard/hoardlaw23.MetaAgain", spec := "metaAgain", unfollowed := true, recurses := true, apart := false }
def MetaAgainSaid : Prop := metaAgainRow.holds Try.pinned (OpenSpec.ofChange metaAgainSpec)

/-- ITS FALSE NEIGHBOUR: 'it returns false'. Refute it at one input. -/
def metaAgainWrong : ChangeSpec := { name := "metaAgain", fn := fun _ => fun
  | [d] => { results := [.lit (.bool false)], args := [d] }
  | _ => none }
def MetaAgainWrongFalsely : Prop := metaAgainRow.holds Try.pinned (OpenSpec.ofChange metaAgainWrong)

/- THE SECOND FORM. 'bulk': how many values and letters a reading holds, each counted each time it is reached (what is shared counts as often as it is met; a slice's spare places count too). A statement '..UptoSaid' is the law's where the arguments, and the package variables that the reading takes, are together of bulk at most 1048576: NARROWER than '..Said'. Prove '..Said' where nothing that the law and all that it calls make is longer than what came in: it says more and counts as full. Else prove '..UptoSaid'. A law counts once. -/
mutual
def uptoBulk {H : Type} : DataW H → Nat
  | .lit (.string bytes) => bytes.length + 1
  | .lit _ => 1
  | .nil => 1
  | .ptr d => uptoBulk d + 1
  | .slice elems spare => uptoBulkAll elems + uptoBulkAll spare + 1
  | .agg parts => uptoBulkAll parts + 1
  | .iface _ d => uptoBulk d + 1
  | .map entries => uptoBulkEntries entries + 1
  | .held _ => 1
def uptoBulkAll {H : Type} : List (DataW H) → Nat
  | [] => 0
  | d :: r => uptoBulk d + uptoBulkAll r
def uptoBulkEntries {H : Type} : List (Lit × DataW H) → Nat
  | [] => 0
  | x :: r => uptoBulkEntry x + uptoBulkEntries r
def uptoBulkEntry {H : Type} : Lit × DataW H → Nat
  | (.string bytes, d) => bytes.length + uptoBulk d + 1
  | (_, d) => uptoBulk d + 1
 end
def uptoSmall : (H : Type) → List (DataW H) → Bool := fun _ ds => decide (uptoBulkAll ds ≤ 1048576)
def OpenSpec.upto (s : _root_.Go.ChangeSpec) : _root_.Go.OpenSpec := { _root_.Go.OpenSpec.ofChange s with cond := some uptoSmall }

/-- 'hoardlaw23.MetaNames', WHERE WHAT IT READS IS OF BULK AT MOST 1048576: true; the input reads as it did. -/
def metaNamesUptoRow : OpenClaim := { program := "ytakliplkabgmbaa", sum := "0d052da57d6de585f5fd56cd757deb412464f1dbd590cd4016055a44f9eabb59", func := "hoard/hoardlaw23.MetaNames", spec := "metaNames", recurses := true, apart := false, narrowed := true }
def MetaNamesUptoSaid : Prop := metaNamesUptoRow.holds Try.pinned (OpenSpec.upto metaNamesSpec)

/-- 'hoardlaw23.MetaWrites', WHERE WHAT IT READS IS OF BULK AT MOST 1048576: true; the input reads as it did. -/
def metaWritesUptoRow : OpenClaim := { program := "ytakliplkabgmbaa", sum := "0d052da57d6de585f5fd56cd757deb412464f1dbd590cd4016055a44f9eabb59", func := "hoard/hoardlaw23.MetaWrites", spec := "metaWrites", recurses := true, apart := false, narrowed := true }
def MetaWritesUptoSaid : Prop := metaWritesUptoRow.holds Try.pinned (OpenSpec.upto metaWritesSpec)

/-- 'hoardlaw23.MetaReads', WHERE WHAT IT READS IS OF BULK AT MOST 1048576: true; the input reads as it did. -/
def metaReadsUptoRow : OpenClaim := { program := "ytakliplkabgmbaa", sum := "0d052da57d6de585f5fd56cd757deb412464f1dbd590cd4016055a44f9eabb59", func := "hoard/hoardlaw23.MetaReads", spec := "metaReads", unfollowed := true, recurses := true, apart := false, narrowed := true }
def MetaReadsUptoSaid : Prop := metaReadsUptoRow.holds Try.pinned (OpenSpec.upto metaReadsSpec)

/-- 'hoardlaw23.MetaBack', WHERE WHAT IT READS IS OF BULK AT MOST 1048576: true; the input reads as it did. -/
def metaBackUptoRow : OpenClaim := { program := "ytakliplkabgmbaa", sum := "0d052da57d6de585f5fd56cd757deb412464f1dbd590cd4016055a44f9eabb59", func := "hoard/hoardlaw23.MetaBack", spec := "metaBack", unfollowed := true, recurses := true, apart := false, narrowed := true }
def MetaBackUptoSaid : Prop := metaBackUptoRow.holds Try.pinned (OpenSpec.upto metaBackSpec)

/-- 'hoardlaw23.MetaAgain', WHERE WHAT IT READS IS OF BULK AT MOST 1048576: true; the input reads as it did. -/
def metaAgainUptoRow : OpenClaim := { program := "ytakliplkabgmbaa", sum := "0d052da57d6de585f5fd56cd757deb412464f1dbd590cd4016055a44f9eabb59", func := "hoard/hoardlaw23.MetaAgain", spec := "metaAgain", unfollowed := true, recurses := true, apart := false, narrowed := true }
def MetaAgainUptoSaid : Prop := metaAgainUptoRow.holds Try.pinned (OpenSpec.upto metaAgainSpec)

end Rows
end Go.Proofs.Ytakliplkabgmbaa
