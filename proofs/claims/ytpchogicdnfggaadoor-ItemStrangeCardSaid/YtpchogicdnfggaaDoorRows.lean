/-
  NARROWER THAN 'FOR EVERY INPUT', by the rows' own cells (each row's printed sentence says how): ItemValues: laid · ItemStreams: laid · ItemReads: loops, laid · ItemStrange: loops, laid · ItemBack: laid · ItemAgain: laid.
  DERIVED. THE GIVEN ROWS OF THIS SEAT. 6 by the template 'for every input the law returns true; each argument reads behind the call as it read before'; 0 by the template 'total and deterministic' (their statements: YtpchogicdnfggaaDoorTotals.lean).
  GIVEN WITH THE SEED: the statements are not yours to turn. If you find one false, say at which input.
  Laid BY PROGRAM, IN A SANDBOX (cutbox-rows.mjs): the forced cells as the released guide's own fill.sh prints them over the translation 62b3413d9f883559… (all of the seat's roots in one cut). By AI agents, Wed Nov 11 2026. No macro, syntax, notation, axiom, sorry.
-/
import Derived.Test.YtpchogicdnfggaaDoorChecked
import GoSem.PinnedTables
import GoSem.Claim
import GoSem.ClaimJoined
import GoSem.ClaimMapViews
import Derived.JoinedTies
import Derived.KernelRfl
namespace Go.Proofs.YtpchogicdnfggaaDoor
/- THE CELL 'sum', in the pinned program and in every row, IS THE sha256 OF THE DUMP (.gsa) THAT YtpchogicdnfggaaDoorProg.lean LOADS. Nothing in Lean hashes anything: it is a label: what it is worth is what the hold of that sum in a sandbox is worth. -/
noncomputable def Tryd.pinned : Pinned := { name := "ytpchogicdnfggaadoor", sum := "62b3413d9f883559f197d9b5c2ebb4235ac40058ea206f73be373e0dc4883b67", checked := Tryd.checked }
namespace Rows
def none {H : Type} : Left H := { results := [], args := [] }

/- WHAT THE LISTED PACKAGE-LEVEL VARIABLES READ AS WHEN THE CALL BEGINS. Each datum BY PROGRAM (the guide's laid-datum.mjs) off the statement by which the dump's own 'gosem.cut.vars' lays the variable. In a bare row this is a premise. The card (YtpchogicdnfggaaDoorCards.lean) ties it to the program's text. -/
def laid_unicode_utf8_acceptRanges {H : Type} : DataW H := .agg [.agg [.lit (.int .u8 128), .lit (.int .u8 191)], .agg [.lit (.int .u8 160), .lit (.int .u8 191)], .agg [.lit (.int .u8 128), .lit (.int .u8 159)], .agg [.lit (.int .u8 144), .lit (.int .u8 191)], .agg [.lit (.int .u8 128), .lit (.int .u8 143)], .agg [.lit (.int .u8 0), .lit (.int .u8 0)], .agg [.lit (.int .u8 0), .lit (.int .u8 0)], .agg [.lit (.int .u8 0), .lit (.int .u8 0)], .agg [.lit (.int .u8 0), .lit (.int .u8 0)], .agg [.lit (.int .u8 0), .lit (.int .u8 0)], .agg [.lit (.int .u8 0), .lit (.int .u8 0)], .agg [.lit (.int .u8 0), .lit (.int .u8 0)], .agg [.lit (.int .u8 0), .lit (.int .u8 0)], .agg [.lit (.int .u8 0), .lit (.int .u8 0)], .agg [.lit (.int .u8 0), .lit (.int .u8 0)], .agg [.lit (.int .u8 0), .lit (.int .u8 0)]]
/-- One of Go's own tables, pinned by name: the form's constant. -/
def laid_unicode_utf8_first : DataW Unit := Go.Pinned.utf8First

/-- 'hoardlaw21.ItemValues': WHATEVER THE INPUT: true; the input reads as it did. -/
def itemValuesSpec : ChangeSpec := { name := "itemValues", fn := fun _ => fun
  | [d] => { results := [.lit (.bool true)], args := [d] }
  | _ => none }
def itemValuesRow : OpenClaim := { program := "ytpchogicdnfggaadoor", sum := "62b3413d9f883559f197d9b5c2ebb4235ac40058ea206f73be373e0dc4883b67", func := "hoard/hoardlaw21.ItemValues", spec := "itemValues", inPlace := ["internal/bytealg.CountString", "internal/bytealg.IndexByteString", "internal/bytealg.IndexString", "slices.overlaps[string]", "slices.overlaps[hoard/api.Value]"], recurses := true, named := ["unicode/utf8.first", "unicode/utf8.acceptRanges", "internal/bytealg.MaxLen"], apart := false, laid := [("unicode/utf8.acceptRanges", laid_unicode_utf8_acceptRanges), ("unicode/utf8.first", laid_unicode_utf8_first)] }
def ItemValuesSaid : Prop := itemValuesRow.holds Tryd.pinned (OpenSpec.ofChange itemValuesSpec)

/-- ITS FALSE NEIGHBOUR: 'it returns false'. Refute it at one input. -/
def itemValuesWrong : ChangeSpec := { name := "itemValues", fn := fun _ => fun
  | [d] => { results := [.lit (.bool false)], args := [d] }
  | _ => none }
def ItemValuesWrongFalsely : Prop := itemValuesRow.holds Tryd.pinned (OpenSpec.ofChange itemValuesWrong)

/-- 'hoardlaw21.ItemStreams': WHATEVER THE INPUT: true; the input reads as it did. -/
def itemStreamsSpec : ChangeSpec := { name := "itemStreams", fn := fun _ => fun
  | [d] => { results := [.lit (.bool true)], args := [d] }
  | _ => none }
def itemStreamsRow : OpenClaim := { program := "ytpchogicdnfggaadoor", sum := "62b3413d9f883559f197d9b5c2ebb4235ac40058ea206f73be373e0dc4883b67", func := "hoard/hoardlaw21.ItemStreams", spec := "itemStreams", inPlace := ["internal/bytealg.CountString", "internal/bytealg.IndexByteString", "internal/bytealg.IndexString", "slices.overlaps[string]", "slices.overlaps[hoard/api.Value]"], recurses := true, named := ["unicode/utf8.first", "unicode/utf8.acceptRanges", "internal/bytealg.MaxLen"], apart := false, laid := [("unicode/utf8.acceptRanges", laid_unicode_utf8_acceptRanges), ("unicode/utf8.first", laid_unicode_utf8_first)] }
def ItemStreamsSaid : Prop := itemStreamsRow.holds Tryd.pinned (OpenSpec.ofChange itemStreamsSpec)

/-- ITS FALSE NEIGHBOUR: 'it returns false'. Refute it at one input. -/
def itemStreamsWrong : ChangeSpec := { name := "itemStreams", fn := fun _ => fun
  | [d] => { results := [.lit (.bool false)], args := [d] }
  | _ => none }
def ItemStreamsWrongFalsely : Prop := itemStreamsRow.holds Tryd.pinned (OpenSpec.ofChange itemStreamsWrong)

/-- 'hoardlaw21.ItemReads': WHATEVER THE INPUT: true; the input reads as it did. -/
def itemReadsSpec : ChangeSpec := { name := "itemReads", fn := fun _ => fun
  | [d] => { results := [.lit (.bool true)], args := [d] }
  | _ => none }
def itemReadsRow : OpenClaim := { program := "ytpchogicdnfggaadoor", sum := "62b3413d9f883559f197d9b5c2ebb4235ac40058ea206f73be373e0dc4883b67", func := "hoard/hoardlaw21.ItemReads", spec := "itemReads", inPlace := ["internal/bytealg.CountString", "internal/bytealg.IndexByteString", "internal/bytealg.IndexString", "slices.overlaps[string]", "slices.overlaps[hoard/api.Value]"], recurses := true, named := ["unicode/utf8.first", "unicode/utf8.acceptRanges", "internal/bytealg.MaxLen"], loops := true, apart := false, laid := [("unicode/utf8.acceptRanges", laid_unicode_utf8_acceptRanges), ("unicode/utf8.first", laid_unicode_utf8_first)] }
def ItemReadsSaid : Prop := itemReadsRow.holds Tryd.pinned (OpenSpec.ofChange itemReadsSpec)

/-- ITS FALSE NEIGHBOUR: 'it returns false'. Refute it at one input. -/
def itemReadsWrong : ChangeSpec := { name := "itemReads", fn := fun _ => fun
  | [d] => { results := [.lit (.bool false)], args := [d] }
  | _ => none }
def ItemReadsWrongFalsely : Prop := itemReadsRow.holds Tryd.pinned (OpenSpec.ofChange itemReadsWrong)

/-- 'hoardlaw21.ItemStrange': WHATEVER THE INPUT: true; the input reads as it did. -/
def itemStrangeSpec : ChangeSpec := { name := "itemStrange", fn := fun _ => fun
  | [d1, d2, d3, d4] => { results := [.lit (.bool true)], args := [d1, d2, d3, d4] }
  | _ => none }
def itemStrangeRow : OpenClaim := { program := "ytpchogicdnfggaadoor", sum := "62b3413d9f883559f197d9b5c2ebb4235ac40058ea206f73be373e0dc4883b67", func := "hoard/hoardlaw21.ItemStrange", spec := "itemStrange", inPlace := ["internal/bytealg.CountString", "internal/bytealg.IndexByteString", "internal/bytealg.IndexString", "slices.overlaps[string]", "slices.overlaps[hoard/api.Value]"], recurses := true, named := ["unicode/utf8.first", "unicode/utf8.acceptRanges", "internal/bytealg.MaxLen"], loops := true, apart := false, laid := [("unicode/utf8.acceptRanges", laid_unicode_utf8_acceptRanges), ("unicode/utf8.first", laid_unicode_utf8_first)] }
def ItemStrangeSaid : Prop := itemStrangeRow.holds Tryd.pinned (OpenSpec.ofChange itemStrangeSpec)

/-- ITS FALSE NEIGHBOUR: 'it returns false'. Refute it at one input. -/
def itemStrangeWrong : ChangeSpec := { name := "itemStrange", fn := fun _ => fun
  | [d1, d2, d3, d4] => { results := [.lit (.bool false)], args := [d1, d2, d3, d4] }
  | _ => none }
def ItemStrangeWrongFalsely : Prop := itemStrangeRow.holds Tryd.pinned (OpenSpec.ofChange itemStrangeWrong)

/-- 'hoardlaw21.ItemBack': WHATEVER THE INPUT: true; the input reads as it did. -/
def itemBackSpec : ChangeSpec := { name := "itemBack", fn := fun _ => fun
  | [d] => { results := [.lit (.bool true)], args := [d] }
  | _ => none }
def itemBackRow : OpenClaim := { program := "ytpchogicdnfggaadoor", sum := "62b3413d9f883559f197d9b5c2ebb4235ac40058ea206f73be373e0dc4883b67", func := "hoard/hoardlaw21.ItemBack", spec := "itemBack", inPlace := ["internal/bytealg.CountString", "internal/bytealg.IndexByteString", "internal/bytealg.IndexString", "slices.overlaps[string]", "slices.overlaps[hoard/api.Value]"], recurses := true, named := ["unicode/utf8.first", "unicode/utf8.acceptRanges", "internal/bytealg.MaxLen"], apart := false, laid := [("unicode/utf8.acceptRanges", laid_unicode_utf8_acceptRanges), ("unicode/utf8.first", laid_unicode_utf8_first)] }
def ItemBackSaid : Prop := itemBackRow.holds Tryd.pinned (OpenSpec.ofChange itemBackSpec)

/-- ITS FALSE NEIGHBOUR: 'it returns false'. Refute it at one input. -/
def itemBackWrong : ChangeSpec := { name := "itemBack", fn := fun _ => fun
  | [d] => { results := [.lit (.bool false)], args := [d] }
  | _ => none }
def ItemBackWrongFalsely : Prop := itemBackRow.holds Tryd.pinned (OpenSpec.ofChange itemBackWrong)

/-- 'hoardlaw21.ItemAgain': WHATEVER THE INPUT: true; the input reads as it did. -/
def itemAgainSpec : ChangeSpec := { name := "itemAgain", fn := fun _ => fun
  | [d] => { results := [.lit (.bool true)], args := [d] }
  | _ => none }
def itemAgainRow : OpenClaim := { program := "ytpchogicdnfggaadoor", sum := "62b3413d9f883559f197d9b5c2ebb4235ac40058ea206f73be373e0dc4883b67", func := "hoard/hoardlaw21.ItemAgain", spec := "itemAgain", inPlace := ["internal/bytealg.CountString", "internal/bytealg.IndexByteString", "internal/bytealg.IndexString", "slices.overlaps[string]", "slices.overlaps[hoard/api.Value]"], recurses := true, named := ["unicode/utf8.first", "unicode/utf8.acceptRanges", "internal/bytealg.MaxLen"], apart := false, laid := [("unicode/utf8.acceptRanges", laid_unicode_utf8_acceptRanges), ("unicode/utf8.first", laid_unicode_utf8_first)] }
def ItemAgainSaid : Prop := itemAgainRow.holds Tryd.pinned (OpenSpec.ofChange itemAgainSpec)

/-- ITS FALSE NEIGHBOUR: 'it returns false'. Refute it at one input. -/
def itemAgainWrong : ChangeSpec := { name := "itemAgain", fn := fun _ => fun
  | [d] => { results := [.lit (.bool false)], args := [d] }
  | _ => none }
def ItemAgainWrongFalsely : Prop := itemAgainRow.holds Tryd.pinned (OpenSpec.ofChange itemAgainWrong)

/- THE SECOND FORM. 'bulk': how many values and letters a reading holds, each counted each time it is reached (what is shared counts as often as it is met; a slice's spare places count too). A statement '..UptoSaid' is the law's where the arguments, and the package variables that the reading takes, are together of bulk at most 1048576: NARROWER than '..Said'. Prove '..Said' where nothing that the law and all that it calls make is longer than what came in: it says more and counts as full. Else prove '..UptoSaid'. A law counts once. -/
mutual
def uptoBulk {H : Type} : DataW H → Nat
  | .lit (.string bytes) => bytes.length + 1
  | .lit _ => 1
  | .nil => 1
  | .ptr d => uptoBulk d + 1
  | .slice elems spare => uptoBulkAll elems + uptoBulkAll spare + 1
  | .agg parts => uptoBulkAll parts + 1
  | .iface _ d => uptoBulk d + 1
  | .map entries => uptoBulkEntries entries + 1
  | .held _ => 1
def uptoBulkAll {H : Type} : List (DataW H) → Nat
  | [] => 0
  | d :: r => uptoBulk d + uptoBulkAll r
def uptoBulkEntries {H : Type} : List (Lit × DataW H) → Nat
  | [] => 0
  | x :: r => uptoBulkEntry x + uptoBulkEntries r
def uptoBulkEntry {H : Type} : Lit × DataW H → Nat
  | (.string bytes, d) => bytes.length + uptoBulk d + 1
  | (_, d) => uptoBulk d + 1
 end
def uptoSmall : (H : Type) → List (DataW H) → Bool := fun _ ds => decide (uptoBulkAll ds ≤ 1048576)
def OpenSpec.upto (s : _root_.Go.ChangeSpec) : _root_.Go.OpenSpec := { _root_.Go.OpenSpec.ofChange s with cond := some uptoSmall }

/-- 'hoardlaw21.ItemValues', WHERE WHAT IT READS IS OF BULK AT MOST 1048576: true; the input reads as it did. -/
def itemValuesUptoRow : OpenClaim := { program := "ytpchogicdnfggaadoor", sum := "62b3413d9f883559f197d9b5c2ebb4235ac40058ea206f73be373e0dc4883b67", func := "hoard/hoardlaw21.ItemValues", spec := "itemValues", inPlace := ["internal/bytealg.CountString", "internal/bytealg.IndexByteString", "internal/bytealg.IndexString", "slices.overlaps[string]", "slices.overlaps[hoard/api.Value]"], recurses := true, named := ["unicode/utf8.first", "unicode/utf8.acceptRanges", "internal/bytealg.MaxLen"], apart := false, laid := [("unicode/utf8.acceptRanges", laid_unicode_utf8_acceptRanges), ("unicode/utf8.first", laid_unicode_utf8_first)], narrowed := true }
def ItemValuesUptoSaid : Prop := itemValuesUptoRow.holds Tryd.pinned (OpenSpec.upto itemValuesSpec)

/-- 'hoardlaw21.ItemStreams', WHERE WHAT IT READS IS OF BULK AT MOST 1048576: true; the input reads as it did. -/
def itemStreamsUptoRow : OpenClaim := { program := "ytpchogicdnfggaadoor", sum := "62b3413d9f883559f197d9b5c2ebb4235ac40058ea206f73be373e0dc4883b67", func := "hoard/hoardlaw21.ItemStreams", spec := "itemStreams", inPlace := ["internal/bytealg.CountString", "internal/bytealg.IndexByteString", "internal/bytealg.IndexString", "slices.overlaps[string]", "slices.overlaps[hoard/api.Value]"], recurses := true, named := ["unicode/utf8.first", "unicode/utf8.acceptRanges", "internal/bytealg.MaxLen"], apart := false, laid := [("unicode/utf8.acceptRanges", laid_unicode_utf8_acceptRanges), ("unicode/utf8.first", laid_unicode_utf8_first)], narrowed := true }
def ItemStreamsUptoSaid : Prop := itemStreamsUptoRow.holds Tryd.pinned (OpenSpec.upto itemStreamsSpec)

/-- 'hoardlaw21.ItemReads', WHERE WHAT IT READS IS OF BULK AT MOST 1048576: true; the input reads as it did. -/
def itemReadsUptoRow : OpenClaim := { program := "ytpchogicdnfggaadoor", sum := "62b3413d9f883559f197d9b5c2ebb4235ac40058ea206f73be373e0dc4883b67", func := "hoard/hoardlaw21.ItemReads", spec := "itemReads", inPlace := ["internal/bytealg.CountString", "internal/bytealg.IndexByteString", "internal/bytealg.IndexString", "slices.overlaps[string]", "slices.overlaps[hoard/api.Value]"], recurses := true, named := ["unicode/utf8.first", "unicode/utf8.acceptRanges", "internal/bytealg.MaxLen"], loops := true, apart := false, laid := [("unicode/utf8.acceptRanges", laid_unicode_utf8_acceptRanges), ("unicode/utf8.first", laid_unicode_utf8_first)], narrowed := true }
def ItemReadsUptoSaid : Prop := itemReadsUptoRow.holds Tryd.pinned (OpenSpec.upto itemReadsSpec)

/-- 'hoardlaw21.ItemStrange', WHERE WHAT IT READS IS OF BULK AT MOST 1048576: true; the input reads as it did. -/
def itemStrangeUptoRow : OpenClaim := { program := "ytpchogicdnfggaadoor", sum := "62b3413d9f883559f197d9b5c2ebb4235ac40058ea206f73be373e0dc4883b67", func := "hoard/hoardlaw21.ItemStrange", spec := "itemStrange", inPlace := ["internal/bytealg.CountString", "internal/bytealg.IndexByteString", "internal/bytealg.IndexString", "slices.overlaps[string]", "slices.overlaps[hoard/api.Value]"], recurses := true, named := ["unicode/utf8.first", "unicode/utf8.acceptRanges", "internal/bytealg.MaxLen"], loops := true, apart := false, laid := [("unicode/utf8.acceptRanges", laid_unicode_utf8_acceptRanges), ("unicode/utf8.first", laid_unicode_utf8_first)], narrowed := true }
def ItemStrangeUptoSaid : Prop := itemStrangeUptoRow.holds Tryd.pinned (OpenSpec.upto itemStrangeSpec)

/-- 'hoardlaw21.ItemBack', WHERE WHAT IT READS IS OF BULK AT MOST 1048576: true; the input reads as it did. -/
def itemBackUptoRow : OpenClaim := { program := "ytpchogicdnfggaadoor", sum := "62b3413d9f883559f197d9b5c2ebb4235ac40058ea206f73be373e0dc4883b67", func := "hoard/hoardlaw21.ItemBack", spec := "itemBack", inPlace := ["internal/bytealg.CountString", "internal/bytealg.IndexByteString", "internal/bytealg.IndexString", "slices.overlaps[string]", "slices.overlaps[hoard/api.Value]"], recurses := true, named := ["unicode/utf8.first", "unicode/utf8.acceptRanges", "internal/bytealg.MaxLen"], apart := false, laid := [("unicode/utf8.acceptRanges", laid_unicode_utf8_acceptRanges), ("unicode/utf8.first", laid_unicode_utf8_first)], narrowed := true }
def ItemBackUptoSaid : Prop := itemBackUptoRow.holds Tryd.pinned (OpenSpec.upto itemBackSpec)

/-- 'hoardlaw21.ItemAgain', WHERE WHAT IT READS IS OF BULK AT MOST 1048576: true; the input reads as it did. -/
def itemAgainUptoRow : OpenClaim := { program := "ytpchogicdnfggaadoor", sum := "62b3413d9f883559f197d9b5c2ebb4235ac40058ea206f73be373e0dc4883b67", func := "hoard/hoardlaw21.ItemAgain", spec := "itemAgain", inPlace := ["internal/bytealg.CountString", "internal/bytealg.IndexByteString", "internal/bytealg.IndexString", "slices.overlaps[string]", "slices.overlaps[hoard/api.Value]"], recurses := true, named := ["unicode/utf8.first", "unicode/utf8.acceptRanges", "internal/bytealg.MaxLen"], apart := false, laid := [("unicode/utf8.acceptRanges", laid_unicode_utf8_acceptRanges), ("unicode/utf8.first", laid_unicode_utf8_first)], narrowed := true }
def ItemAgainUptoSaid : Prop := itemAgainUptoRow.holds Tryd.pinned (OpenSpec.upto itemAgainSpec)

end Rows
end Go.Proofs.YtpchogicdnfggaaDoor
