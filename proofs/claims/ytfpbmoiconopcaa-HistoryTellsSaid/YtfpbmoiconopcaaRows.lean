/-
  No cell of these rows narrows 'for every input' (looked for: loops, veiled, ifaces, maps, wideKeys, modest, calm, conditions, laid).
  DERIVED. THE GIVEN ROWS OF THIS SEAT. 11 by the template 'for every input the law returns true; each argument reads behind the call as it read before'; 0 by the template 'total and deterministic' (their statements: YtfpbmoiconopcaaTotals.lean).
  GIVEN WITH THE SEED: the statements are not yours to turn. If you find one false, say at which input.
  Laid BY PROGRAM, IN A SANDBOX (cutbox-rows.mjs): the forced cells as the released guide's own fill.sh prints them over the translation e4c8cc331059d9b1… (all of the seat's roots in one cut). By AI agents, Wed Nov 11 2026. No macro, syntax, notation, axiom, sorry.
-/
import Derived.Test.YtfpbmoiconopcaaChecked
import GoSem.Claim
import GoSem.ClaimJoined
import GoSem.ClaimMapViews
import Derived.JoinedTies
import Derived.KernelRfl
namespace Go.Proofs.Ytfpbmoiconopcaa
/- THE CELL 'sum', in the pinned program and in every row, IS THE sha256 OF THE DUMP (.gsa) THAT YtfpbmoiconopcaaProg.lean LOADS. Nothing in Lean hashes anything: it is a label: what it is worth is what the hold of that sum in a sandbox is worth. -/
noncomputable def Try.pinned : Pinned := { name := "ytfpbmoiconopcaa", sum := "e4c8cc331059d9b1bc927374c23419167a9adb47422c8c0297809e2398024089", checked := Try.checked }
namespace Rows
def none {H : Type} : Left H := { results := [], args := [] }

/-- 'wharfagelaw02.GaugeOf': WHATEVER THE INPUT: true; the input reads as it did. -/
def gaugeOfSpec : ChangeSpec := { name := "gaugeOf", fn := fun _ => fun
  | [d1, d2, d3, d4, d5] => { results := [.lit (.bool true)], args := [d1, d2, d3, d4, d5] }
  | _ => none }
def gaugeOfRow : OpenClaim := { program := "ytfpbmoiconopcaa", sum := "e4c8cc331059d9b1bc927374c23419167a9adb47422c8c0297809e2398024089", func := "wharfage/wharfagelaw02.GaugeOf", spec := "gaugeOf", inPlace := ["math.Float64bits", "math.Float64frombits"], apart := false }
def GaugeOfSaid : Prop := gaugeOfRow.holds Try.pinned (OpenSpec.ofChange gaugeOfSpec)

/-- ITS FALSE NEIGHBOUR: 'it returns false'. Refute it at one input. -/
def gaugeOfWrong : ChangeSpec := { name := "gaugeOf", fn := fun _ => fun
  | [d1, d2, d3, d4, d5] => { results := [.lit (.bool false)], args := [d1, d2, d3, d4, d5] }
  | _ => none }
def GaugeOfWrongFalsely : Prop := gaugeOfRow.holds Try.pinned (OpenSpec.ofChange gaugeOfWrong)

/-- 'wharfagelaw02.GaugeRow': WHATEVER THE INPUT: true; the input reads as it did. -/
def gaugeRowSpec : ChangeSpec := { name := "gaugeRow", fn := fun _ => fun
  | [d1, d2, d3] => { results := [.lit (.bool true)], args := [d1, d2, d3] }
  | _ => none }
def gaugeRowRow : OpenClaim := { program := "ytfpbmoiconopcaa", sum := "e4c8cc331059d9b1bc927374c23419167a9adb47422c8c0297809e2398024089", func := "wharfage/wharfagelaw02.GaugeRow", spec := "gaugeRow", inPlace := ["math.Float64bits", "math.Float64frombits"], apart := false }
def GaugeRowSaid : Prop := gaugeRowRow.holds Try.pinned (OpenSpec.ofChange gaugeRowSpec)

/-- ITS FALSE NEIGHBOUR: 'it returns false'. Refute it at one input. -/
def gaugeRowWrong : ChangeSpec := { name := "gaugeRow", fn := fun _ => fun
  | [d1, d2, d3] => { results := [.lit (.bool false)], args := [d1, d2, d3] }
  | _ => none }
def GaugeRowWrongFalsely : Prop := gaugeRowRow.holds Try.pinned (OpenSpec.ofChange gaugeRowWrong)

/-- 'wharfagelaw02.GaugeFuller': WHATEVER THE INPUT: true; the input reads as it did. -/
def gaugeFullerSpec : ChangeSpec := { name := "gaugeFuller", fn := fun _ => fun
  | [d1, d2, d3, d4] => { results := [.lit (.bool true)], args := [d1, d2, d3, d4] }
  | _ => none }
def gaugeFullerRow : OpenClaim := { program := "ytfpbmoiconopcaa", sum := "e4c8cc331059d9b1bc927374c23419167a9adb47422c8c0297809e2398024089", func := "wharfage/wharfagelaw02.GaugeFuller", spec := "gaugeFuller", inPlace := ["math.Float64bits", "math.Float64frombits"], apart := false }
def GaugeFullerSaid : Prop := gaugeFullerRow.holds Try.pinned (OpenSpec.ofChange gaugeFullerSpec)

/-- ITS FALSE NEIGHBOUR: 'it returns false'. Refute it at one input. -/
def gaugeFullerWrong : ChangeSpec := { name := "gaugeFuller", fn := fun _ => fun
  | [d1, d2, d3, d4] => { results := [.lit (.bool false)], args := [d1, d2, d3, d4] }
  | _ => none }
def GaugeFullerWrongFalsely : Prop := gaugeFullerRow.holds Try.pinned (OpenSpec.ofChange gaugeFullerWrong)

/-- 'wharfagelaw02.GaugeMeans': WHATEVER THE INPUT: true; the input reads as it did. -/
def gaugeMeansSpec : ChangeSpec := { name := "gaugeMeans", fn := fun _ => fun
  | [d1, d2, d3] => { results := [.lit (.bool true)], args := [d1, d2, d3] }
  | _ => none }
def gaugeMeansRow : OpenClaim := { program := "ytfpbmoiconopcaa", sum := "e4c8cc331059d9b1bc927374c23419167a9adb47422c8c0297809e2398024089", func := "wharfage/wharfagelaw02.GaugeMeans", spec := "gaugeMeans", inPlace := ["math.Float64bits", "math.Float64frombits"], apart := false }
def GaugeMeansSaid : Prop := gaugeMeansRow.holds Try.pinned (OpenSpec.ofChange gaugeMeansSpec)

/-- ITS FALSE NEIGHBOUR: 'it returns false'. Refute it at one input. -/
def gaugeMeansWrong : ChangeSpec := { name := "gaugeMeans", fn := fun _ => fun
  | [d1, d2, d3] => { results := [.lit (.bool false)], args := [d1, d2, d3] }
  | _ => none }
def GaugeMeansWrongFalsely : Prop := gaugeMeansRow.holds Try.pinned (OpenSpec.ofChange gaugeMeansWrong)

/-- 'wharfagelaw02.GaugeSorts': WHATEVER THE INPUT: true; the input reads as it did. -/
def gaugeSortsSpec : ChangeSpec := { name := "gaugeSorts", fn := fun _ => fun
  | [d] => { results := [.lit (.bool true)], args := [d] }
  | _ => none }
def gaugeSortsRow : OpenClaim := { program := "ytfpbmoiconopcaa", sum := "e4c8cc331059d9b1bc927374c23419167a9adb47422c8c0297809e2398024089", func := "wharfage/wharfagelaw02.GaugeSorts", spec := "gaugeSorts", inPlace := ["math.Float64bits", "math.Float64frombits"], unfollowed := true, recurses := true, apart := false }
def GaugeSortsSaid : Prop := gaugeSortsRow.holds Try.pinned (OpenSpec.ofChange gaugeSortsSpec)

/-- ITS FALSE NEIGHBOUR: 'it returns false'. Refute it at one input. -/
def gaugeSortsWrong : ChangeSpec := { name := "gaugeSorts", fn := fun _ => fun
  | [d] => { results := [.lit (.bool false)], args := [d] }
  | _ => none }
def GaugeSortsWrongFalsely : Prop := gaugeSortsRow.holds Try.pinned (OpenSpec.ofChange gaugeSortsWrong)

/-- 'wharfagelaw37.HistoryTells': WHATEVER THE INPUT: true; the input reads as it did. -/
def historyTellsSpec : ChangeSpec := { name := "historyTells", fn := fun _ => fun
  | [d1, d2, d3, d4, d5] => { results := [.lit (.bool true)], args := [d1, d2, d3, d4, d5] }
  | _ => none }
def historyTellsRow : OpenClaim := { program := "ytfpbmoiconopcaa", sum := "e4c8cc331059d9b1bc927374c23419167a9adb47422c8c0297809e2398024089", func := "wharfage/wharfagelaw37.HistoryTells", spec := "historyTells", inPlace := ["math.Float64frombits", "math.Float64bits"], unfollowed := true, recurses := true, apart := false }
def HistoryTellsSaid : Prop := historyTellsRow.holds Try.pinned (OpenSpec.ofChange historyTellsSpec)

/-- ITS FALSE NEIGHBOUR: 'it returns false'. Refute it at one input. -/
def historyTellsWrong : ChangeSpec := { name := "historyTells", fn := fun _ => fun
  | [d1, d2, d3, d4, d5] => { results := [.lit (.bool false)], args := [d1, d2, d3, d4, d5] }
  | _ => none }
def HistoryTellsWrongFalsely : Prop := historyTellsRow.holds Try.pinned (OpenSpec.ofChange historyTellsWrong)

/-- 'wharfagelaw37.HistoryLast': WHATEVER THE INPUT: true; the input reads as it did. -/
def historyLastSpec : ChangeSpec := { name := "historyLast", fn := fun _ => fun
  | [d1, d2] => { results := [.lit (.bool true)], args := [d1, d2] }
  | _ => none }
def historyLastRow : OpenClaim := { program := "ytfpbmoiconopcaa", sum := "e4c8cc331059d9b1bc927374c23419167a9adb47422c8c0297809e2398024089", func := "wharfage/wharfagelaw37.HistoryLast", spec := "historyLast", inPlace := ["math.Float64frombits", "math.Float64bits"], unfollowed := true, recurses := true, apart := false }
def HistoryLastSaid : Prop := historyLastRow.holds Try.pinned (OpenSpec.ofChange historyLastSpec)

/-- ITS FALSE NEIGHBOUR: 'it returns false'. Refute it at one input. -/
def historyLastWrong : ChangeSpec := { name := "historyLast", fn := fun _ => fun
  | [d1, d2] => { results := [.lit (.bool false)], args := [d1, d2] }
  | _ => none }
def HistoryLastWrongFalsely : Prop := historyLastRow.holds Try.pinned (OpenSpec.ofChange historyLastWrong)

/-- 'wharfagelaw37.HistoryPeaks': WHATEVER THE INPUT: true; the input reads as it did. -/
def historyPeaksSpec : ChangeSpec := { name := "historyPeaks", fn := fun _ => fun
  | [d] => { results := [.lit (.bool true)], args := [d] }
  | _ => none }
def historyPeaksRow : OpenClaim := { program := "ytfpbmoiconopcaa", sum := "e4c8cc331059d9b1bc927374c23419167a9adb47422c8c0297809e2398024089", func := "wharfage/wharfagelaw37.HistoryPeaks", spec := "historyPeaks", inPlace := ["math.Float64frombits", "math.Float64bits"], unfollowed := true, recurses := true, apart := false }
def HistoryPeaksSaid : Prop := historyPeaksRow.holds Try.pinned (OpenSpec.ofChange historyPeaksSpec)

/-- ITS FALSE NEIGHBOUR: 'it returns false'. Refute it at one input. -/
def historyPeaksWrong : ChangeSpec := { name := "historyPeaks", fn := fun _ => fun
  | [d] => { results := [.lit (.bool false)], args := [d] }
  | _ => none }
def HistoryPeaksWrongFalsely : Prop := historyPeaksRow.holds Try.pinned (OpenSpec.ofChange historyPeaksWrong)

/-- 'wharfagelaw37.HistorySooner': WHATEVER THE INPUT: true; the input reads as it did. -/
def historySoonerSpec : ChangeSpec := { name := "historySooner", fn := fun _ => fun
  | [d1, d2, d3, d4, d5] => { results := [.lit (.bool true)], args := [d1, d2, d3, d4, d5] }
  | _ => none }
def historySoonerRow : OpenClaim := { program := "ytfpbmoiconopcaa", sum := "e4c8cc331059d9b1bc927374c23419167a9adb47422c8c0297809e2398024089", func := "wharfage/wharfagelaw37.HistorySooner", spec := "historySooner", inPlace := ["math.Float64frombits", "math.Float64bits"], unfollowed := true, recurses := true, apart := false }
def HistorySoonerSaid : Prop := historySoonerRow.holds Try.pinned (OpenSpec.ofChange historySoonerSpec)

/-- ITS FALSE NEIGHBOUR: 'it returns false'. Refute it at one input. -/
def historySoonerWrong : ChangeSpec := { name := "historySooner", fn := fun _ => fun
  | [d1, d2, d3, d4, d5] => { results := [.lit (.bool false)], args := [d1, d2, d3, d4, d5] }
  | _ => none }
def HistorySoonerWrongFalsely : Prop := historySoonerRow.holds Try.pinned (OpenSpec.ofChange historySoonerWrong)

/-- 'wharfagetop.TopFull': WHATEVER THE INPUT: true; the input reads as it did. -/
def topFullSpec : ChangeSpec := { name := "topFull", fn := fun _ => fun
  | [d1, d2, d3] => { results := [.lit (.bool true)], args := [d1, d2, d3] }
  | _ => none }
def topFullRow : OpenClaim := { program := "ytfpbmoiconopcaa", sum := "e4c8cc331059d9b1bc927374c23419167a9adb47422c8c0297809e2398024089", func := "wharfage/wharfagetop.TopFull", spec := "topFull", inPlace := ["math.Float64bits", "math.Float64frombits"], apart := false }
def TopFullSaid : Prop := topFullRow.holds Try.pinned (OpenSpec.ofChange topFullSpec)

/-- ITS FALSE NEIGHBOUR: 'it returns false'. Refute it at one input. -/
def topFullWrong : ChangeSpec := { name := "topFull", fn := fun _ => fun
  | [d1, d2, d3] => { results := [.lit (.bool false)], args := [d1, d2, d3] }
  | _ => none }
def TopFullWrongFalsely : Prop := topFullRow.holds Try.pinned (OpenSpec.ofChange topFullWrong)

/-- 'wharfagetop.TopForecast': WHATEVER THE INPUT: true; the input reads as it did. -/
def topForecastSpec : ChangeSpec := { name := "topForecast", fn := fun _ => fun
  | [d1, d2, d3, d4, d5] => { results := [.lit (.bool true)], args := [d1, d2, d3, d4, d5] }
  | _ => none }
def topForecastRow : OpenClaim := { program := "ytfpbmoiconopcaa", sum := "e4c8cc331059d9b1bc927374c23419167a9adb47422c8c0297809e2398024089", func := "wharfage/wharfagetop.TopForecast", spec := "topForecast", inPlace := ["math.Float64frombits", "math.Float64bits", "math.archFloor", "math.archTrunc"], apart := false }
def TopForecastSaid : Prop := topForecastRow.holds Try.pinned (OpenSpec.ofChange topForecastSpec)

/-- ITS FALSE NEIGHBOUR: 'it returns false'. Refute it at one input. -/
def topForecastWrong : ChangeSpec := { name := "topForecast", fn := fun _ => fun
  | [d1, d2, d3, d4, d5] => { results := [.lit (.bool false)], args := [d1, d2, d3, d4, d5] }
  | _ => none }
def TopForecastWrongFalsely : Prop := topForecastRow.holds Try.pinned (OpenSpec.ofChange topForecastWrong)

/- THE SECOND FORM. 'bulk': how many values and letters a reading holds, each counted each time it is reached (what is shared counts as often as it is met; a slice's spare places count too). A statement '..UptoSaid' is the law's where the arguments, and the package variables that the reading takes, are together of bulk at most 1048576: NARROWER than '..Said'. Prove '..Said' where nothing that the law and all that it calls make is longer than what came in: it says more and counts as full. Else prove '..UptoSaid'. A law counts once. -/
mutual
def uptoBulk {H : Type} : DataW H → Nat
  | .lit (.string bytes) => bytes.length + 1
  | .lit _ => 1
  | .nil => 1
  | .ptr d => uptoBulk d + 1
  | .slice elems spare => uptoBulkAll elems + uptoBulkAll spare + 1
  | .agg parts => uptoBulkAll parts + 1
  | .iface _ d => uptoBulk d + 1
  | .map entries => uptoBulkEntries entries + 1
  | .held _ => 1
def uptoBulkAll {H : Type} : List (DataW H) → Nat
  | [] => 0
  | d :: r => uptoBulk d + uptoBulkAll r
def uptoBulkEntries {H : Type} : List (Lit × DataW H) → Nat
  | [] => 0
  | x :: r => uptoBulkEntry x + uptoBulkEntries r
def uptoBulkEntry {H : Type} : Lit × DataW H → Nat
  | (.string bytes, d) => bytes.length + uptoBulk d + 1
  | (_, d) => uptoBulk d + 1
 end
def uptoSmall : (H : Type) → List (DataW H) → Bool := fun _ ds => decide (uptoBulkAll ds ≤ 1048576)
def OpenSpec.upto (s : _root_.Go.ChangeSpec) : _root_.Go.OpenSpec := { _root_.Go.OpenSpec.ofChange s with cond := some uptoSmall }

/-- 'wharfagelaw02.GaugeOf', WHERE WHAT IT READS IS OF BULK AT MOST 1048576: true; the input reads as it did. -/
def gaugeOfUptoRow : OpenClaim := { program := "ytfpbmoiconopcaa", sum := "e4c8cc331059d9b1bc927374c23419167a9adb47422c8c0297809e2398024089", func := "wharfage/wharfagelaw02.GaugeOf", spec := "gaugeOf", inPlace := ["math.Float64bits", "math.Float64frombits"], apart := false, narrowed := true }
def GaugeOfUptoSaid : Prop := gaugeOfUptoRow.holds Try.pinned (OpenSpec.upto gaugeOfSpec)

/-- 'wharfagelaw02.GaugeRow', WHERE WHAT IT READS IS OF BULK AT MOST 1048576: true; the input reads as it did. -/
def gaugeRowUptoRow : OpenClaim := { program := "ytfpbmoiconopcaa", sum := "e4c8cc331059d9b1bc927374c23419167a9adb47422c8c0297809e2398024089", func := "wharfage/wharfagelaw02.GaugeRow", spec := "gaugeRow", inPlace := ["math.Float64bits", "math.Float64frombits"], apart := false, narrowed := true }
def GaugeRowUptoSaid : Prop := gaugeRowUptoRow.holds Try.pinned (OpenSpec.upto gaugeRowSpec)

/-- 'wharfagelaw02.GaugeFuller', WHERE WHAT IT READS IS OF BULK AT MOST 1048576: true; the input reads as it did. -/
def gaugeFullerUptoRow : OpenClaim := { program := "ytfpbmoiconopcaa", sum := "e4c8cc331059d9b1bc927374c23419167a9adb47422c8c0297809e2398024089", func := "wharfage/wharfagelaw02.GaugeFuller", spec := "gaugeFuller", inPlace := ["math.Float64bits", "math.Float64frombits"], apart := false, narrowed := true }
def GaugeFullerUptoSaid : Prop := gaugeFullerUptoRow.holds Try.pinned (OpenSpec.upto gaugeFullerSpec)

/-- 'wharfagelaw02.GaugeMeans', WHERE WHAT IT READS IS OF BULK AT MOST 1048576: true; the input reads as it did. -/
def gaugeMeansUptoRow : OpenClaim := { program := "ytfpbmoiconopcaa", sum := "e4c8cc331059d9b1bc927374c23419167a9adb47422c8c0297809e2398024089", func := "wharfage/wharfagelaw02.GaugeMeans", spec := "gaugeMeans", inPlace := ["math.Float64bits", "math.Float64frombits"], apart := false, narrowed := true }
def GaugeMeansUptoSaid : Prop := gaugeMeansUptoRow.holds Try.pinned (OpenSpec.upto gaugeMeansSpec)

/-- 'wharfagelaw02.GaugeSorts', WHERE WHAT IT READS IS OF BULK AT MOST 1048576: true; the input reads as it did. -/
def gaugeSortsUptoRow : OpenClaim := { program := "ytfpbmoiconopcaa", sum := "e4c8cc331059d9b1bc927374c23419167a9adb47422c8c0297809e2398024089", func := "wharfage/wharfagelaw02.GaugeSorts", spec := "gaugeSorts", inPlace := ["math.Float64bits", "math.Float64frombits"], unfollowed := true, recurses := true, apart := false, narrowed := true }
def GaugeSortsUptoSaid : Prop := gaugeSortsUptoRow.holds Try.pinned (OpenSpec.upto gaugeSortsSpec)

/-- 'wharfagelaw37.HistoryTells', WHERE WHAT IT READS IS OF BULK AT MOST 1048576: true; the input reads as it did. -/
def historyTellsUptoRow : OpenClaim := { program := "ytfpbmoiconopcaa", sum := "e4c8cc331059d9b1bc927374c23419167a9adb47422c8c0297809e2398024089", func := "wharfage/wharfagelaw37.HistoryTells", spec := "historyTells", inPlace := ["math.Float64frombits", "math.Float64bits"], unfollowed := true, recurses := true, apart := false, narrowed := true }
def HistoryTellsUptoSaid : Prop := historyTellsUptoRow.holds Try.pinned (OpenSpec.upto historyTellsSpec)

/-- 'wharfagelaw37.HistoryLast', WHERE WHAT IT READS IS OF BULK AT MOST 1048576: true; the input reads as it did. -/
def historyLastUptoRow : OpenClaim := { program := "ytfpbmoiconopcaa", sum := "e4c8cc331059d9b1bc927374c23419167a9adb47422c8c0297809e2398024089", func := "wharfage/wharfagelaw37.HistoryLast", spec := "historyLast", inPlace := ["math.Float64frombits", "math.Float64bits"], unfollowed := true, recurses := true, apart := false, narrowed := true }
def HistoryLastUptoSaid : Prop := historyLastUptoRow.holds Try.pinned (OpenSpec.upto historyLastSpec)

/-- 'wharfagelaw37.HistoryPeaks', WHERE WHAT IT READS IS OF BULK AT MOST 1048576: true; the input reads as it did. -/
def historyPeaksUptoRow : OpenClaim := { program := "ytfpbmoiconopcaa", sum := "e4c8cc331059d9b1bc927374c23419167a9adb47422c8c0297809e2398024089", func := "wharfage/wharfagelaw37.HistoryPeaks", spec := "historyPeaks", inPlace := ["math.Float64frombits", "math.Float64bits"], unfollowed := true, recurses := true, apart := false, narrowed := true }
def HistoryPeaksUptoSaid : Prop := historyPeaksUptoRow.holds Try.pinned (OpenSpec.upto historyPeaksSpec)

/-- 'wharfagelaw37.HistorySooner', WHERE WHAT IT READS IS OF BULK AT MOST 1048576: true; the input reads as it did. -/
def historySoonerUptoRow : OpenClaim := { program := "ytfpbmoiconopcaa", sum := "e4c8cc331059d9b1bc927374c23419167a9adb47422c8c0297809e2398024089", func := "wharfage/wharfagelaw37.HistorySooner", spec := "historySooner", inPlace := ["math.Float64frombits", "math.Float64bits"], unfollowed := true, recurses := true, apart := false, narrowed := true }
def HistorySoonerUptoSaid : Prop := historySoonerUptoRow.holds Try.pinned (OpenSpec.upto historySoonerSpec)

/-- 'wharfagetop.TopFull', WHERE WHAT IT READS IS OF BULK AT MOST 1048576: true; the input reads as it did. -/
def topFullUptoRow : OpenClaim := { program := "ytfpbmoiconopcaa", sum := "e4c8cc331059d9b1bc927374c23419167a9adb47422c8c0297809e2398024089", func := "wharfage/wharfagetop.TopFull", spec := "topFull", inPlace := ["math.Float64bits", "math.Float64frombits"], apart := false, narrowed := true }
def TopFullUptoSaid : Prop := topFullUptoRow.holds Try.pinned (OpenSpec.upto topFullSpec)

/-- 'wharfagetop.TopForecast', WHERE WHAT IT READS IS OF BULK AT MOST 1048576: true; the input reads as it did. -/
def topForecastUptoRow : OpenClaim := { program := "ytfpbmoiconopcaa", sum := "e4c8cc331059d9b1bc927374c23419167a9adb47422c8c0297809e2398024089", func := "wharfage/wharfagetop.TopForecast", spec := "topForecast", inPlace := ["math.Float64frombits", "math.Float64bits", "math.archFloor", "math.archTrunc"], apart := false, narrowed := true }
def TopForecastUptoSaid : Prop := topForecastUptoRow.holds Try.pinned (OpenSpec.upto topForecastSpec)

end Rows
end Go.Proofs.Ytfpbmoiconopcaa
