/-
  No cell of these rows narrows 'for every input' (looked for: loops, veiled, ifaces, maps, wideKeys, modest, calm, conditions, laid).
  DERIVED. THE GIVEN ROWS OF THIS SEAT. 6 by the template 'for every input the law returns true; each argument reads behind the call as it read before'; 0 by the template 'total and deterministic' (their statements: YtfeldgkjgfjeeaaTotals.lean).
  GIVEN WITH THE SEED: the statements are not yours to turn. If you find one false, say at which input.
  Laid BY PROGRAM, IN A SANDBOX (cutbox-rows.mjs): the forced cells as the released guide's own fill.sh prints them over the translation e3159de7691192e2… (all of the seat's roots in one cut). By AI agents, Wed Nov 11 2026. No macro, syntax, notation, axiom, sorry.
-/
import Derived.Test.YtfeldgkjgfjeeaaChecked
import GoSem.Claim
import GoSem.ClaimJoined
import GoSem.ClaimMapViews
import Derived.JoinedTies
import Derived.KernelRfl
namespace Go.Proofs.Ytfeldgkjgfjeeaa
/- THE CELL 'sum', in the pinned program and in every row, IS THE sha256 OF THE DUMP (.gsa) THAT YtfeldgkjgfjeeaaProg.lean LOADS. Nothing in Lean hashes anything: it is a label: what it is worth is what the hold of that sum in a sandbox is worth. -/
noncomputable def Try.pinned : Pinned := { name := "ytfeldgkjgfjeeaa", sum := "e3159de7691192e251e67538cccd5ae606a71f299101623c22e302793ab29f9d", checked := Try.checked }
namespace Rows
def none {H : Type} : Left H := { results := [], args := [] }

/-- 'portmanteaulaw03.GaugeRatios': WHATEVER THE INPUT: true; the input reads as it did. -/
def gaugeRatiosSpec : ChangeSpec := { name := "gaugeRatios", fn := fun _ => fun
  | [d1, d2, d3] => { results := [.lit (.bool true)], args := [d1, d2, d3] }
  | _ => none }
def gaugeRatiosRow : OpenClaim := { program := "ytfeldgkjgfjeeaa", sum := "e3159de7691192e251e67538cccd5ae606a71f299101623c22e302793ab29f9d", func := "portmanteau/portmanteaulaw03.GaugeRatios", spec := "gaugeRatios", inPlace := ["math.Float64bits", "math.Float64frombits"], apart := false }
def GaugeRatiosSaid : Prop := gaugeRatiosRow.holds Try.pinned (OpenSpec.ofChange gaugeRatiosSpec)

/-- ITS FALSE NEIGHBOUR: 'it returns false'. Refute it at one input. -/
def gaugeRatiosWrong : ChangeSpec := { name := "gaugeRatios", fn := fun _ => fun
  | [d1, d2, d3] => { results := [.lit (.bool false)], args := [d1, d2, d3] }
  | _ => none }
def GaugeRatiosWrongFalsely : Prop := gaugeRatiosRow.holds Try.pinned (OpenSpec.ofChange gaugeRatiosWrong)

/-- 'portmanteaulaw03.GaugeTotal': WHATEVER THE INPUT: true; the input reads as it did. -/
def gaugeTotalSpec : ChangeSpec := { name := "gaugeTotal", fn := fun _ => fun
  | [d1, d2, d3] => { results := [.lit (.bool true)], args := [d1, d2, d3] }
  | _ => none }
def gaugeTotalRow : OpenClaim := { program := "ytfeldgkjgfjeeaa", sum := "e3159de7691192e251e67538cccd5ae606a71f299101623c22e302793ab29f9d", func := "portmanteau/portmanteaulaw03.GaugeTotal", spec := "gaugeTotal", inPlace := ["math.Float64frombits", "math.Float64bits"], apart := false }
def GaugeTotalSaid : Prop := gaugeTotalRow.holds Try.pinned (OpenSpec.ofChange gaugeTotalSpec)

/-- ITS FALSE NEIGHBOUR: 'it returns false'. Refute it at one input. -/
def gaugeTotalWrong : ChangeSpec := { name := "gaugeTotal", fn := fun _ => fun
  | [d1, d2, d3] => { results := [.lit (.bool false)], args := [d1, d2, d3] }
  | _ => none }
def GaugeTotalWrongFalsely : Prop := gaugeTotalRow.holds Try.pinned (OpenSpec.ofChange gaugeTotalWrong)

/-- 'portmanteaulaw03.GaugeOrders': WHATEVER THE INPUT: true; the input reads as it did. -/
def gaugeOrdersSpec : ChangeSpec := { name := "gaugeOrders", fn := fun _ => fun
  | [d1, d2] => { results := [.lit (.bool true)], args := [d1, d2] }
  | _ => none }
def gaugeOrdersRow : OpenClaim := { program := "ytfeldgkjgfjeeaa", sum := "e3159de7691192e251e67538cccd5ae606a71f299101623c22e302793ab29f9d", func := "portmanteau/portmanteaulaw03.GaugeOrders", spec := "gaugeOrders", inPlace := ["math.Float64frombits", "math.Float64bits"], apart := false }
def GaugeOrdersSaid : Prop := gaugeOrdersRow.holds Try.pinned (OpenSpec.ofChange gaugeOrdersSpec)

/-- ITS FALSE NEIGHBOUR: 'it returns false'. Refute it at one input. -/
def gaugeOrdersWrong : ChangeSpec := { name := "gaugeOrders", fn := fun _ => fun
  | [d1, d2] => { results := [.lit (.bool false)], args := [d1, d2] }
  | _ => none }
def GaugeOrdersWrongFalsely : Prop := gaugeOrdersRow.holds Try.pinned (OpenSpec.ofChange gaugeOrdersWrong)

/-- 'portmanteaulaw03.GaugeMeans': WHATEVER THE INPUT: true; the input reads as it did. -/
def gaugeMeansSpec : ChangeSpec := { name := "gaugeMeans", fn := fun _ => fun
  | [d] => { results := [.lit (.bool true)], args := [d] }
  | _ => none }
def gaugeMeansRow : OpenClaim := { program := "ytfeldgkjgfjeeaa", sum := "e3159de7691192e251e67538cccd5ae606a71f299101623c22e302793ab29f9d", func := "portmanteau/portmanteaulaw03.GaugeMeans", spec := "gaugeMeans", inPlace := ["math.Float64frombits", "math.Float64bits"], apart := false }
def GaugeMeansSaid : Prop := gaugeMeansRow.holds Try.pinned (OpenSpec.ofChange gaugeMeansSpec)

/-- ITS FALSE NEIGHBOUR: 'it returns false'. Refute it at one input. -/
def gaugeMeansWrong : ChangeSpec := { name := "gaugeMeans", fn := fun _ => fun
  | [d] => { results := [.lit (.bool false)], args := [d] }
  | _ => none }
def GaugeMeansWrongFalsely : Prop := gaugeMeansRow.holds Try.pinned (OpenSpec.ofChange gaugeMeansWrong)

/-- 'portmanteaulaw03.GaugeClamps': WHATEVER THE INPUT: true; the input reads as it did. -/
def gaugeClampsSpec : ChangeSpec := { name := "gaugeClamps", fn := fun _ => fun
  | [d1, d2, d3, d4] => { results := [.lit (.bool true)], args := [d1, d2, d3, d4] }
  | _ => none }
def gaugeClampsRow : OpenClaim := { program := "ytfeldgkjgfjeeaa", sum := "e3159de7691192e251e67538cccd5ae606a71f299101623c22e302793ab29f9d", func := "portmanteau/portmanteaulaw03.GaugeClamps", spec := "gaugeClamps", inPlace := ["math.Float64frombits", "math.Float64bits"], apart := false }
def GaugeClampsSaid : Prop := gaugeClampsRow.holds Try.pinned (OpenSpec.ofChange gaugeClampsSpec)

/-- ITS FALSE NEIGHBOUR: 'it returns false'. Refute it at one input. -/
def gaugeClampsWrong : ChangeSpec := { name := "gaugeClamps", fn := fun _ => fun
  | [d1, d2, d3, d4] => { results := [.lit (.bool false)], args := [d1, d2, d3, d4] }
  | _ => none }
def GaugeClampsWrongFalsely : Prop := gaugeClampsRow.holds Try.pinned (OpenSpec.ofChange gaugeClampsWrong)

/-- 'portmanteaulaw03.GaugeSorts': WHATEVER THE INPUT: true; the input reads as it did. -/
def gaugeSortsSpec : ChangeSpec := { name := "gaugeSorts", fn := fun _ => fun
  | [d] => { results := [.lit (.bool true)], args := [d] }
  | _ => none }
def gaugeSortsRow : OpenClaim := { program := "ytfeldgkjgfjeeaa", sum := "e3159de7691192e251e67538cccd5ae606a71f299101623c22e302793ab29f9d", func := "portmanteau/portmanteaulaw03.GaugeSorts", spec := "gaugeSorts", inPlace := ["math.Float64frombits", "math.Float64bits"], unfollowed := true, recurses := true, apart := false }
def GaugeSortsSaid : Prop := gaugeSortsRow.holds Try.pinned (OpenSpec.ofChange gaugeSortsSpec)

/-- ITS FALSE NEIGHBOUR: 'it returns false'. Refute it at one input. -/
def gaugeSortsWrong : ChangeSpec := { name := "gaugeSorts", fn := fun _ => fun
  | [d] => { results := [.lit (.bool false)], args := [d] }
  | _ => none }
def GaugeSortsWrongFalsely : Prop := gaugeSortsRow.holds Try.pinned (OpenSpec.ofChange gaugeSortsWrong)

/- THE SECOND FORM. 'bulk': how many values and letters a reading holds, each counted each time it is reached (what is shared counts as often as it is met; a slice's spare places count too). A statement '..UptoSaid' is the law's where the arguments, and the package variables that the reading takes, are together of bulk at most 1048576: NARROWER than '..Said'. Prove '..Said' where nothing that the law and all that it calls make is longer than what came in: it says more and counts as full. Else prove '..UptoSaid'. A law counts once. -/
mutual
def uptoBulk {H : Type} : DataW H → Nat
  | .lit (.string bytes) => bytes.length + 1
  | .lit _ => 1
  | .nil => 1
  | .ptr d => uptoBulk d + 1
  | .slice elems spare => uptoBulkAll elems + uptoBulkAll spare + 1
  | .agg parts => uptoBulkAll parts + 1
  | .iface _ d => uptoBulk d + 1
  | .map entries => uptoBulkEntries entries + 1
  | .held _ => 1
def uptoBulkAll {H : Type} : List (DataW H) → Nat
  | [] => 0
  | d :: r => uptoBulk d + uptoBulkAll r
def uptoBulkEntries {H : Type} : List (Lit × DataW H) → Nat
  | [] => 0
  | x :: r => uptoBulkEntry x + uptoBulkEntries r
def uptoBulkEntry {H : Type} : Lit × DataW H → Nat
  | (.string bytes, d) => bytes.length + uptoBulk d + 1
  | (_, d) => uptoBulk d + 1
 end
def uptoSmall : (H : Type) → List (DataW H) → Bool := fun _ ds => decide (uptoBulkAll ds ≤ 1048576)
def OpenSpec.upto (s : _root_.Go.ChangeSpec) : _root_.Go.OpenSpec := { _root_.Go.OpenSpec.ofChange s with cond := some uptoSmall }

/-- 'portmanteaulaw03.GaugeRatios', WHERE WHAT IT READS IS OF BULK AT MOST 1048576: true; the input reads as it did. -/
def gaugeRatiosUptoRow : OpenClaim := { program := "ytfeldgkjgfjeeaa", sum := "e3159de7691192e251e67538cccd5ae606a71f299101623c22e302793ab29f9d", func := "portmanteau/portmanteaulaw03.GaugeRatios", spec := "gaugeRatios", inPlace := ["math.Float64bits", "math.Float64frombits"], apart := false, narrowed := true }
def GaugeRatiosUptoSaid : Prop := gaugeRatiosUptoRow.holds Try.pinned (OpenSpec.upto gaugeRatiosSpec)

/-- 'portmanteaulaw03.GaugeTotal', WHERE WHAT IT READS IS OF BULK AT MOST 1048576: true; the input reads as it did. -/
def gaugeTotalUptoRow : OpenClaim := { program := "ytfeldgkjgfjeeaa", sum := "e3159de7691192e251e67538cccd5ae606a71f299101623c22e302793ab29f9d", func := "portmanteau/portmanteaulaw03.GaugeTotal", spec := "gaugeTotal", inPlace := ["math.Float64frombits", "math.Float64bits"], apart := false, narrowed := true }
def GaugeTotalUptoSaid : Prop := gaugeTotalUptoRow.holds Try.pinned (OpenSpec.upto gaugeTotalSpec)

/-- 'portmanteaulaw03.GaugeOrders', WHERE WHAT IT READS IS OF BULK AT MOST 1048576: true; the input reads as it did. -/
def gaugeOrdersUptoRow : OpenClaim := { program := "ytfeldgkjgfjeeaa", sum := "e3159de7691192e251e67538cccd5ae606a71f299101623c22e302793ab29f9d", func := "portmanteau/portmanteaulaw03.GaugeOrders", spec := "gaugeOrders", inPlace := ["math.Float64frombits", "math.Float64bits"], apart := false, narrowed := true }
def GaugeOrdersUptoSaid : Prop := gaugeOrdersUptoRow.holds Try.pinned (OpenSpec.upto gaugeOrdersSpec)

/-- 'portmanteaulaw03.GaugeMeans', WHERE WHAT IT READS IS OF BULK AT MOST 1048576: true; the input reads as it did. -/
def gaugeMeansUptoRow : OpenClaim := { program := "ytfeldgkjgfjeeaa", sum := "e3159de7691192e251e67538cccd5ae606a71f299101623c22e302793ab29f9d", func := "portmanteau/portmanteaulaw03.GaugeMeans", spec := "gaugeMeans", inPlace := ["math.Float64frombits", "math.Float64bits"], apart := false, narrowed := true }
def GaugeMeansUptoSaid : Prop := gaugeMeansUptoRow.holds Try.pinned (OpenSpec.upto gaugeMeansSpec)

/-- 'portmanteaulaw03.GaugeClamps', WHERE WHAT IT READS IS OF BULK AT MOST 1048576: true; the input reads as it did. -/
def gaugeClampsUptoRow : OpenClaim := { program := "ytfeldgkjgfjeeaa", sum := "e3159de7691192e251e67538cccd5ae606a71f299101623c22e302793ab29f9d", func := "portmanteau/portmanteaulaw03.GaugeClamps", spec := "gaugeClamps", inPlace := ["math.Float64frombits", "math.Float64bits"], apart := false, narrowed := true }
def GaugeClampsUptoSaid : Prop := gaugeClampsUptoRow.holds Try.pinned (OpenSpec.upto gaugeClampsSpec)

/-- 'portmanteaulaw03.GaugeSorts', WHERE WHAT IT READS IS OF BULK AT MOST 1048576: true; the input reads as it did. -/
def gaugeSortsUptoRow : OpenClaim := { program := "ytfeldgkjgfjeeaa", sum := "e3159de7691192e251e67538cccd5ae606a71f299101623c22e302793ab29f9d", func := "portmanteau/portmanteaulaw03.GaugeSorts", spec := "gaugeSorts", inPlace := ["math.Float64frombits", "math.Float64bits"], unfollowed := true, recurses := true, apart := false, narrowed := true }
def GaugeSortsUptoSaid : Prop := gaugeSortsUptoRow.holds Try.pinned (OpenSpec.upto gaugeSortsSpec)

end Rows
end Go.Proofs.Ytfeldgkjgfjeeaa
