/-
  No cell of these rows narrows 'for every input' (looked for: loops, veiled, ifaces, maps, wideKeys, modest, calm, conditions, laid).
  DERIVED. THE GIVEN ROWS OF THIS SEAT. 12 by the template 'for every input the law returns true; each argument reads behind the call as it read before'; 0 by the template 'total and deterministic' (their statements: YtjbmmbmbdlpihaaTotals.lean).
  GIVEN WITH THE SEED: the statements are not yours to turn. If you find one false, say at which input.
  Laid BY PROGRAM, IN A SANDBOX (cutbox-rows.mjs): the forced cells as the released guide's own fill.sh prints them over the translation 81ed06da089d4d29… (all of the seat's roots in one cut). By AI agents, Wed Nov 11 2026. No macro, syntax, notation, axiom, sorry.
-/
import Derived.Test.YtjbmmbmbdlpihaaChecked
import GoSem.Claim
import GoSem.ClaimJoined
import GoSem.ClaimMapViews
import Derived.JoinedTies
import Derived.KernelRfl
namespace Go.Proofs.Ytjbmmbmbdlpihaa
/- THE CELL 'sum', in the pinned program and in every row, IS THE sha256 OF THE DUMP (.gsa) THAT YtjbmmbmbdlpihaaProg.lean LOADS. Nothing in Lean hashes anything: it is a label: what it is worth is what the hold of that sum in a sandbox is worth. -/
noncomputable def Try.pinned : Pinned := { name := "ytjbmmbmbdlpihaa", sum := "81ed06da089d4d2994dc88a5897527f896f1961e3c65ea6168ccb694294a2682", checked := Try.checked }
namespace Rows
def none {H : Type} : Left H := { results := [], args := [] }

/-- 'wharfagelaw24.TokenTells': WHATEVER THE INPUT: true; the input reads as it did. -/
def tokenTellsSpec : ChangeSpec := { name := "tokenTells", fn := fun _ => fun
  | [d1, d2] => { results := [.lit (.bool true)], args := [d1, d2] }
  | _ => none }
def tokenTellsRow : OpenClaim := { program := "ytjbmmbmbdlpihaa", sum := "81ed06da089d4d2994dc88a5897527f896f1961e3c65ea6168ccb694294a2682", func := "wharfage/wharfagelaw24.TokenTells", spec := "tokenTells", apart := false }
def TokenTellsSaid : Prop := tokenTellsRow.holds Try.pinned (OpenSpec.ofChange tokenTellsSpec)

/-- ITS FALSE NEIGHBOUR: 'it returns false'. Refute it at one input. -/
def tokenTellsWrong : ChangeSpec := { name := "tokenTells", fn := fun _ => fun
  | [d1, d2] => { results := [.lit (.bool false)], args := [d1, d2] }
  | _ => none }
def TokenTellsWrongFalsely : Prop := tokenTellsRow.holds Try.pinned (OpenSpec.ofChange tokenTellsWrong)

/-- 'wharfagelaw24.TokenNever': WHATEVER THE INPUT: true; the input reads as it did. -/
def tokenNeverSpec : ChangeSpec := { name := "tokenNever", fn := fun _ => fun
  | [d1, d2, d3] => { results := [.lit (.bool true)], args := [d1, d2, d3] }
  | _ => none }
def tokenNeverRow : OpenClaim := { program := "ytjbmmbmbdlpihaa", sum := "81ed06da089d4d2994dc88a5897527f896f1961e3c65ea6168ccb694294a2682", func := "wharfage/wharfagelaw24.TokenNever", spec := "tokenNever", apart := false }
def TokenNeverSaid : Prop := tokenNeverRow.holds Try.pinned (OpenSpec.ofChange tokenNeverSpec)

/-- ITS FALSE NEIGHBOUR: 'it returns false'. Refute it at one input. -/
def tokenNeverWrong : ChangeSpec := { name := "tokenNever", fn := fun _ => fun
  | [d1, d2, d3] => { results := [.lit (.bool false)], args := [d1, d2, d3] }
  | _ => none }
def TokenNeverWrongFalsely : Prop := tokenNeverRow.holds Try.pinned (OpenSpec.ofChange tokenNeverWrong)

/-- 'wharfagelaw25.QueuePlays': WHATEVER THE INPUT: true; the input reads as it did. -/
def queuePlaysSpec : ChangeSpec := { name := "queuePlays", fn := fun _ => fun
  | [d1, d2] => { results := [.lit (.bool true)], args := [d1, d2] }
  | _ => none }
def queuePlaysRow : OpenClaim := { program := "ytjbmmbmbdlpihaa", sum := "81ed06da089d4d2994dc88a5897527f896f1961e3c65ea6168ccb694294a2682", func := "wharfage/wharfagelaw25.QueuePlays", spec := "queuePlays", apart := false }
def QueuePlaysSaid : Prop := queuePlaysRow.holds Try.pinned (OpenSpec.ofChange queuePlaysSpec)

/-- ITS FALSE NEIGHBOUR: 'it returns false'. Refute it at one input. -/
def queuePlaysWrong : ChangeSpec := { name := "queuePlays", fn := fun _ => fun
  | [d1, d2] => { results := [.lit (.bool false)], args := [d1, d2] }
  | _ => none }
def QueuePlaysWrongFalsely : Prop := queuePlaysRow.holds Try.pinned (OpenSpec.ofChange queuePlaysWrong)

/-- 'wharfagelaw25.QueueFirst': WHATEVER THE INPUT: true; the input reads as it did. -/
def queueFirstSpec : ChangeSpec := { name := "queueFirst", fn := fun _ => fun
  | [d1, d2, d3] => { results := [.lit (.bool true)], args := [d1, d2, d3] }
  | _ => none }
def queueFirstRow : OpenClaim := { program := "ytjbmmbmbdlpihaa", sum := "81ed06da089d4d2994dc88a5897527f896f1961e3c65ea6168ccb694294a2682", func := "wharfage/wharfagelaw25.QueueFirst", spec := "queueFirst", apart := false }
def QueueFirstSaid : Prop := queueFirstRow.holds Try.pinned (OpenSpec.ofChange queueFirstSpec)

/-- ITS FALSE NEIGHBOUR: 'it returns false'. Refute it at one input. -/
def queueFirstWrong : ChangeSpec := { name := "queueFirst", fn := fun _ => fun
  | [d1, d2, d3] => { results := [.lit (.bool false)], args := [d1, d2, d3] }
  | _ => none }
def QueueFirstWrongFalsely : Prop := queueFirstRow.holds Try.pinned (OpenSpec.ofChange queueFirstWrong)

/-- 'wharfagelaw25.QueueNil': WHATEVER THE INPUT: true; the input reads as it did. -/
def queueNilSpec : ChangeSpec := { name := "queueNil", fn := fun _ => fun
  | [d] => { results := [.lit (.bool true)], args := [d] }
  | _ => none }
def queueNilRow : OpenClaim := { program := "ytjbmmbmbdlpihaa", sum := "81ed06da089d4d2994dc88a5897527f896f1961e3c65ea6168ccb694294a2682", func := "wharfage/wharfagelaw25.QueueNil", spec := "queueNil", apart := false }
def QueueNilSaid : Prop := queueNilRow.holds Try.pinned (OpenSpec.ofChange queueNilSpec)

/-- ITS FALSE NEIGHBOUR: 'it returns false'. Refute it at one input. -/
def queueNilWrong : ChangeSpec := { name := "queueNil", fn := fun _ => fun
  | [d] => { results := [.lit (.bool false)], args := [d] }
  | _ => none }
def QueueNilWrongFalsely : Prop := queueNilRow.holds Try.pinned (OpenSpec.ofChange queueNilWrong)

/-- 'wharfagelaw04.CrcParts': WHATEVER THE INPUT: true; the input reads as it did. -/
def crcPartsSpec : ChangeSpec := { name := "crcParts", fn := fun _ => fun
  | [d1, d2, d3] => { results := [.lit (.bool true)], args := [d1, d2, d3] }
  | _ => none }
def crcPartsRow : OpenClaim := { program := "ytjbmmbmbdlpihaa", sum := "81ed06da089d4d2994dc88a5897527f896f1961e3c65ea6168ccb694294a2682", func := "wharfage/wharfagelaw04.CrcParts", spec := "crcParts", apart := false }
def CrcPartsSaid : Prop := crcPartsRow.holds Try.pinned (OpenSpec.ofChange crcPartsSpec)

/-- ITS FALSE NEIGHBOUR: 'it returns false'. Refute it at one input. -/
def crcPartsWrong : ChangeSpec := { name := "crcParts", fn := fun _ => fun
  | [d1, d2, d3] => { results := [.lit (.bool false)], args := [d1, d2, d3] }
  | _ => none }
def CrcPartsWrongFalsely : Prop := crcPartsRow.holds Try.pinned (OpenSpec.ofChange crcPartsWrong)

/-- 'wharfagelaw04.CrcFound': WHATEVER THE INPUT: true; the input reads as it did. -/
def crcFoundSpec : ChangeSpec := { name := "crcFound", fn := fun _ => fun
  | [d1, d2, d3] => { results := [.lit (.bool true)], args := [d1, d2, d3] }
  | _ => none }
def crcFoundRow : OpenClaim := { program := "ytjbmmbmbdlpihaa", sum := "81ed06da089d4d2994dc88a5897527f896f1961e3c65ea6168ccb694294a2682", func := "wharfage/wharfagelaw04.CrcFound", spec := "crcFound", apart := false }
def CrcFoundSaid : Prop := crcFoundRow.holds Try.pinned (OpenSpec.ofChange crcFoundSpec)

/-- ITS FALSE NEIGHBOUR: 'it returns false'. Refute it at one input. -/
def crcFoundWrong : ChangeSpec := { name := "crcFound", fn := fun _ => fun
  | [d1, d2, d3] => { results := [.lit (.bool false)], args := [d1, d2, d3] }
  | _ => none }
def CrcFoundWrongFalsely : Prop := crcFoundRow.holds Try.pinned (OpenSpec.ofChange crcFoundWrong)

/-- 'wharfagelaw01.TallyAdds': WHATEVER THE INPUT: true; the input reads as it did. -/
def tallyAddsSpec : ChangeSpec := { name := "tallyAdds", fn := fun _ => fun
  | [d1, d2] => { results := [.lit (.bool true)], args := [d1, d2] }
  | _ => none }
def tallyAddsRow : OpenClaim := { program := "ytjbmmbmbdlpihaa", sum := "81ed06da089d4d2994dc88a5897527f896f1961e3c65ea6168ccb694294a2682", func := "wharfage/wharfagelaw01.TallyAdds", spec := "tallyAdds", unfollowed := true, recurses := true, apart := false }
def TallyAddsSaid : Prop := tallyAddsRow.holds Try.pinned (OpenSpec.ofChange tallyAddsSpec)

/-- ITS FALSE NEIGHBOUR: 'it returns false'. Refute it at one input. -/
def tallyAddsWrong : ChangeSpec := { name := "tallyAdds", fn := fun _ => fun
  | [d1, d2] => { results := [.lit (.bool false)], args := [d1, d2] }
  | _ => none }
def TallyAddsWrongFalsely : Prop := tallyAddsRow.holds Try.pinned (OpenSpec.ofChange tallyAddsWrong)

/-- 'wharfagelaw01.TallyNever': WHATEVER THE INPUT: true; the input reads as it did. -/
def tallyNeverSpec : ChangeSpec := { name := "tallyNever", fn := fun _ => fun
  | [d1, d2, d3, d4] => { results := [.lit (.bool true)], args := [d1, d2, d3, d4] }
  | _ => none }
def tallyNeverRow : OpenClaim := { program := "ytjbmmbmbdlpihaa", sum := "81ed06da089d4d2994dc88a5897527f896f1961e3c65ea6168ccb694294a2682", func := "wharfage/wharfagelaw01.TallyNever", spec := "tallyNever", unfollowed := true, recurses := true, apart := false }
def TallyNeverSaid : Prop := tallyNeverRow.holds Try.pinned (OpenSpec.ofChange tallyNeverSpec)

/-- ITS FALSE NEIGHBOUR: 'it returns false'. Refute it at one input. -/
def tallyNeverWrong : ChangeSpec := { name := "tallyNever", fn := fun _ => fun
  | [d1, d2, d3, d4] => { results := [.lit (.bool false)], args := [d1, d2, d3, d4] }
  | _ => none }
def TallyNeverWrongFalsely : Prop := tallyNeverRow.holds Try.pinned (OpenSpec.ofChange tallyNeverWrong)

/-- 'wharfagelaw01.TallyCounts': WHATEVER THE INPUT: true; the input reads as it did. -/
def tallyCountsSpec : ChangeSpec := { name := "tallyCounts", fn := fun _ => fun
  | [d1, d2, d3] => { results := [.lit (.bool true)], args := [d1, d2, d3] }
  | _ => none }
def tallyCountsRow : OpenClaim := { program := "ytjbmmbmbdlpihaa", sum := "81ed06da089d4d2994dc88a5897527f896f1961e3c65ea6168ccb694294a2682", func := "wharfage/wharfagelaw01.TallyCounts", spec := "tallyCounts", unfollowed := true, recurses := true, apart := false }
def TallyCountsSaid : Prop := tallyCountsRow.holds Try.pinned (OpenSpec.ofChange tallyCountsSpec)

/-- ITS FALSE NEIGHBOUR: 'it returns false'. Refute it at one input. -/
def tallyCountsWrong : ChangeSpec := { name := "tallyCounts", fn := fun _ => fun
  | [d1, d2, d3] => { results := [.lit (.bool false)], args := [d1, d2, d3] }
  | _ => none }
def TallyCountsWrongFalsely : Prop := tallyCountsRow.holds Try.pinned (OpenSpec.ofChange tallyCountsWrong)

/-- 'wharfagelaw01.TallyBack': WHATEVER THE INPUT: true; the input reads as it did. -/
def tallyBackSpec : ChangeSpec := { name := "tallyBack", fn := fun _ => fun
  | [d1, d2, d3, d4] => { results := [.lit (.bool true)], args := [d1, d2, d3, d4] }
  | _ => none }
def tallyBackRow : OpenClaim := { program := "ytjbmmbmbdlpihaa", sum := "81ed06da089d4d2994dc88a5897527f896f1961e3c65ea6168ccb694294a2682", func := "wharfage/wharfagelaw01.TallyBack", spec := "tallyBack", unfollowed := true, recurses := true, apart := false }
def TallyBackSaid : Prop := tallyBackRow.holds Try.pinned (OpenSpec.ofChange tallyBackSpec)

/-- ITS FALSE NEIGHBOUR: 'it returns false'. Refute it at one input. -/
def tallyBackWrong : ChangeSpec := { name := "tallyBack", fn := fun _ => fun
  | [d1, d2, d3, d4] => { results := [.lit (.bool false)], args := [d1, d2, d3, d4] }
  | _ => none }
def TallyBackWrongFalsely : Prop := tallyBackRow.holds Try.pinned (OpenSpec.ofChange tallyBackWrong)

/-- 'wharfagelaw01.TallySums': WHATEVER THE INPUT: true; the input reads as it did. -/
def tallySumsSpec : ChangeSpec := { name := "tallySums", fn := fun _ => fun
  | [d1, d2] => { results := [.lit (.bool true)], args := [d1, d2] }
  | _ => none }
def tallySumsRow : OpenClaim := { program := "ytjbmmbmbdlpihaa", sum := "81ed06da089d4d2994dc88a5897527f896f1961e3c65ea6168ccb694294a2682", func := "wharfage/wharfagelaw01.TallySums", spec := "tallySums", unfollowed := true, recurses := true, apart := false }
def TallySumsSaid : Prop := tallySumsRow.holds Try.pinned (OpenSpec.ofChange tallySumsSpec)

/-- ITS FALSE NEIGHBOUR: 'it returns false'. Refute it at one input. -/
def tallySumsWrong : ChangeSpec := { name := "tallySums", fn := fun _ => fun
  | [d1, d2] => { results := [.lit (.bool false)], args := [d1, d2] }
  | _ => none }
def TallySumsWrongFalsely : Prop := tallySumsRow.holds Try.pinned (OpenSpec.ofChange tallySumsWrong)

/- THE SECOND FORM. 'bulk': how many values and letters a reading holds, each counted each time it is reached (what is shared counts as often as it is met; a slice's spare places count too). A statement '..UptoSaid' is the law's where the arguments, and the package variables that the reading takes, are together of bulk at most 1048576: NARROWER than '..Said'. Prove '..Said' where nothing that the law and all that it calls make is longer than what came in: it says more and counts as full. Else prove '..UptoSaid'. A law counts once. -/
mutual
def uptoBulk {H : Type} : DataW H → Nat
  | .lit (.string bytes) => bytes.length + 1
  | .lit _ => 1
  | .nil => 1
  | .ptr d => uptoBulk d + 1
  | .slice elems spare => uptoBulkAll elems + uptoBulkAll spare + 1
  | .agg parts => uptoBulkAll parts + 1
  | .iface _ d => uptoBulk d + 1
  | .map entries => uptoBulkEntries entries + 1
  | .held _ => 1
def uptoBulkAll {H : Type} : List (DataW H) → Nat
  | [] => 0
  | d :: r => uptoBulk d + uptoBulkAll r
def uptoBulkEntries {H : Type} : List (Lit × DataW H) → Nat
  | [] => 0
  | x :: r => uptoBulkEntry x + uptoBulkEntries r
def uptoBulkEntry {H : Type} : Lit × DataW H → Nat
  | (.string bytes, d) => bytes.length + uptoBulk d + 1
  | (_, d) => uptoBulk d + 1
 end
def uptoSmall : (H : Type) → List (DataW H) → Bool := fun _ ds => decide (uptoBulkAll ds ≤ 1048576)
def OpenSpec.upto (s : _root_.Go.ChangeSpec) : _root_.Go.OpenSpec := { _root_.Go.OpenSpec.ofChange s with cond := some uptoSmall }

/-- 'wharfagelaw24.TokenTells', WHERE WHAT IT READS IS OF BULK AT MOST 1048576: true; the input reads as it did. -/
def tokenTellsUptoRow : OpenClaim := { program := "ytjbmmbmbdlpihaa", sum := "81ed06da089d4d2994dc88a5897527f896f1961e3c65ea6168ccb694294a2682", func := "wharfage/wharfagelaw24.TokenTells", spec := "tokenTells", apart := false, narrowed := true }
def TokenTellsUptoSaid : Prop := tokenTellsUptoRow.holds Try.pinned (OpenSpec.upto tokenTellsSpec)

/-- 'wharfagelaw24.TokenNever', WHERE WHAT IT READS IS OF BULK AT MOST 1048576: true; the input reads as it did. -/
def tokenNeverUptoRow : OpenClaim := { program := "ytjbmmbmbdlpihaa", sum := "81ed06da089d4d2994dc88a5897527f896f1961e3c65ea6168ccb694294a2682", func := "wharfage/wharfagelaw24.TokenNever", spec := "tokenNever", apart := false, narrowed := true }
def TokenNeverUptoSaid : Prop := tokenNeverUptoRow.holds Try.pinned (OpenSpec.upto tokenNeverSpec)

/-- 'wharfagelaw25.QueuePlays', WHERE WHAT IT READS IS OF BULK AT MOST 1048576: true; the input reads as it did. -/
def queuePlaysUptoRow : OpenClaim := { program := "ytjbmmbmbdlpihaa", sum := "81ed06da089d4d2994dc88a5897527f896f1961e3c65ea6168ccb694294a2682", func := "wharfage/wharfagelaw25.QueuePlays", spec := "queuePlays", apart := false, narrowed := true }
def QueuePlaysUptoSaid : Prop := queuePlaysUptoRow.holds Try.pinned (OpenSpec.upto queuePlaysSpec)

/-- 'wharfagelaw25.QueueFirst', WHERE WHAT IT READS IS OF BULK AT MOST 1048576: true; the input reads as it did. -/
def queueFirstUptoRow : OpenClaim := { program := "ytjbmmbmbdlpihaa", sum := "81ed06da089d4d2994dc88a5897527f896f1961e3c65ea6168ccb694294a2682", func := "wharfage/wharfagelaw25.QueueFirst", spec := "queueFirst", apart := false, narrowed := true }
def QueueFirstUptoSaid : Prop := queueFirstUptoRow.holds Try.pinned (OpenSpec.upto queueFirstSpec)

/-- 'wharfagelaw25.QueueNil', WHERE WHAT IT READS IS OF BULK AT MOST 1048576: true; the input reads as it did. -/
def queueNilUptoRow : OpenClaim := { program := "ytjbmmbmbdlpihaa", sum := "81ed06da089d4d2994dc88a5897527f896f1961e3c65ea6168ccb694294a2682", func := "wharfage/wharfagelaw25.QueueNil", spec := "queueNil", apart := false, narrowed := true }
def QueueNilUptoSaid : Prop := queueNilUptoRow.holds Try.pinned (OpenSpec.upto queueNilSpec)

/-- 'wharfagelaw04.CrcParts', WHERE WHAT IT READS IS OF BULK AT MOST 1048576: true; the input reads as it did. -/
def crcPartsUptoRow : OpenClaim := { program := "ytjbmmbmbdlpihaa", sum := "81ed06da089d4d2994dc88a5897527f896f1961e3c65ea6168ccb694294a2682", func := "wharfage/wharfagelaw04.CrcParts", spec := "crcParts", apart := false, narrowed := true }
def CrcPartsUptoSaid : Prop := crcPartsUptoRow.holds Try.pinned (OpenSpec.upto crcPartsSpec)

/-- 'wharfagelaw04.CrcFound', WHERE WHAT IT READS IS OF BULK AT MOST 1048576: true; the input reads as it did. -/
def crcFoundUptoRow : OpenClaim := { program := "ytjbmmbmbdlpihaa", sum := "81ed06da089d4d2994dc88a5897527f896f1961e3c65ea6168ccb694294a2682", func := "wharfage/wharfagelaw04.CrcFound", spec := "crcFound", apart := false, narrowed := true }
def CrcFoundUptoSaid : Prop := crcFoundUptoRow.holds Try.pinned (OpenSpec.upto crcFoundSpec)

/-- 'wharfagelaw01.TallyAdds', WHERE WHAT IT READS IS OF BULK AT MOST 1048576: true; the input reads as it did. -/
def tallyAddsUptoRow : OpenClaim := { program := "ytjbmmbmbdlpihaa", sum := "81ed06da089d4d2994dc88a5897527f896f1961e3c65ea6168ccb694294a2682", func := "wharfage/wharfagelaw01.TallyAdds", spec := "tallyAdds", unfollowed := true, recurses := true, apart := false, narrowed := true }
def TallyAddsUptoSaid : Prop := tallyAddsUptoRow.holds Try.pinned (OpenSpec.upto tallyAddsSpec)

/-- 'wharfagelaw01.TallyNever', WHERE WHAT IT READS IS OF BULK AT MOST 1048576: true; the input reads as it did. -/
def tallyNeverUptoRow : OpenClaim := { program := "ytjbmmbmbdlpihaa", sum := "81ed06da089d4d2994dc88a5897527f896f1961e3c65ea6168ccb694294a2682", func := "wharfage/wharfagelaw01.TallyNever", spec := "tallyNever", unfollowed := true, recurses := true, apart := false, narrowed := true }
def TallyNeverUptoSaid : Prop := tallyNeverUptoRow.holds Try.pinned (OpenSpec.upto tallyNeverSpec)

/-- 'wharfagelaw01.TallyCounts', WHERE WHAT IT READS IS OF BULK AT MOST 1048576: true; the input reads as it did. -/
def tallyCountsUptoRow : OpenClaim := { program := "ytjbmmbmbdlpihaa", sum := "81ed06da089d4d2994dc88a5897527f896f1961e3c65ea6168ccb694294a2682", func := "wharfage/wharfagelaw01.TallyCounts", spec := "tallyCounts", unfollowed := true, recurses := true, apart := false, narrowed := true }
def TallyCountsUptoSaid : Prop := tallyCountsUptoRow.holds Try.pinned (OpenSpec.upto tallyCountsSpec)

/-- 'wharfagelaw01.TallyBack', WHERE WHAT IT READS IS OF BULK AT MOST 1048576: true; the input reads as it did. -/
def tallyBackUptoRow : OpenClaim := { program := "ytjbmmbmbdlpihaa", sum := "81ed06da089d4d2994dc88a5897527f896f1961e3c65ea6168ccb694294a2682", func := "wharfage/wharfagelaw01.TallyBack", spec := "tallyBack", unfollowed := true, recurses := true, apart := false, narrowed := true }
def TallyBackUptoSaid : Prop := tallyBackUptoRow.holds Try.pinned (OpenSpec.upto tallyBackSpec)

/-- 'wharfagelaw01.TallySums', WHERE WHAT IT READS IS OF BULK AT MOST 1048576: true; the input reads as it did. -/
def tallySumsUptoRow : OpenClaim := { program := "ytjbmmbmbdlpihaa", sum := "81ed06da089d4d2994dc88a5897527f896f1961e3c65ea6168ccb694294a2682", func := "wharfage/wharfagelaw01.TallySums", spec := "tallySums", unfollowed := true, recurses := true, apart := false, narrowed := true }
def TallySumsUptoSaid : Prop := tallySumsUptoRow.holds Try.pinned (OpenSpec.upto tallySumsSpec)

end Rows
end Go.Proofs.Ytjbmmbmbdlpihaa
