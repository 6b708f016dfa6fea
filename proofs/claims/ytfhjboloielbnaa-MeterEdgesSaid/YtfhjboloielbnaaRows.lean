/-
  No cell of these rows narrows 'for every input' (looked for: loops, veiled, ifaces, maps, wideKeys, modest, calm, conditions, laid).
  DERIVED. THE GIVEN ROWS OF THIS SEAT. 7 by the template 'for every input the law returns true; each argument reads behind the call as it read before'; 0 by the template 'total and deterministic' (their statements: YtfhjboloielbnaaTotals.lean).
  GIVEN WITH THE SEED: the statements are not yours to turn. If you find one false, say at which input.
  Laid BY PROGRAM, IN A SANDBOX (cutbox-rows.mjs): the forced cells as the released guide's own fill.sh prints them over the translation 1dd2b29cb31bb0ce… (all of the seat's roots in one cut). By AI agents, Wed Nov 11 2026. No macro, syntax, notation, axiom, sorry.
-/
import Derived.Test.YtfhjboloielbnaaChecked
import GoSem.Claim
import GoSem.ClaimJoined
import GoSem.ClaimMapViews
import Derived.JoinedTies
import Derived.KernelRfl
namespace Go.Proofs.Ytfhjboloielbnaa
/- THE CELL 'sum', in the pinned program and in every row, IS THE sha256 OF THE DUMP (.gsa) THAT YtfhjboloielbnaaProg.lean LOADS. Nothing in Lean hashes anything: it is a label: what it is worth is what the hold of that sum in a sandbox is worth. -/
noncomputable def Try.pinned : Pinned := { name := "ytfhjboloielbnaa", sum := "1dd2b29cb31bb0cedd6e059844ddcc1c6a81cb26ed56e7352774cb94b70d6567", checked := Try.checked }
namespace Rows
def none {H : Type} : Left H := { results := [], args := [] }

/-- 'signetlaw10.MeterOrders': WHATEVER THE INPUT: true; the input reads as it did. -/
def meterOrdersSpec : ChangeSpec := { name := "meterOrders", fn := fun _ => fun
  | [d1, d2, d3] => { results := [.lit (.bool true)], args := [d1, d2, d3] }
  | _ => none }
def meterOrdersRow : OpenClaim := { program := "ytfhjboloielbnaa", sum := "1dd2b29cb31bb0cedd6e059844ddcc1c6a81cb26ed56e7352774cb94b70d6567", func := "signet/signetlaw10.MeterOrders", spec := "meterOrders", inPlace := ["math.Float64frombits", "math.Float64bits"], unfollowed := true, recurses := true, apart := false }
def MeterOrdersSaid : Prop := meterOrdersRow.holds Try.pinned (OpenSpec.ofChange meterOrdersSpec)

/-- ITS FALSE NEIGHBOUR: 'it returns false'. Refute it at one input. -/
def meterOrdersWrong : ChangeSpec := { name := "meterOrders", fn := fun _ => fun
  | [d1, d2, d3] => { results := [.lit (.bool false)], args := [d1, d2, d3] }
  | _ => none }
def MeterOrdersWrongFalsely : Prop := meterOrdersRow.holds Try.pinned (OpenSpec.ofChange meterOrdersWrong)

/-- 'signetlaw10.MeterRanks': WHATEVER THE INPUT: true; the input reads as it did. -/
def meterRanksSpec : ChangeSpec := { name := "meterRanks", fn := fun _ => fun
  | [d1, d2, d3] => { results := [.lit (.bool true)], args := [d1, d2, d3] }
  | _ => none }
def meterRanksRow : OpenClaim := { program := "ytfhjboloielbnaa", sum := "1dd2b29cb31bb0cedd6e059844ddcc1c6a81cb26ed56e7352774cb94b70d6567", func := "signet/signetlaw10.MeterRanks", spec := "meterRanks", inPlace := ["math.Float64frombits", "math.Float64bits"], unfollowed := true, recurses := true, apart := false }
def MeterRanksSaid : Prop := meterRanksRow.holds Try.pinned (OpenSpec.ofChange meterRanksSpec)

/-- ITS FALSE NEIGHBOUR: 'it returns false'. Refute it at one input. -/
def meterRanksWrong : ChangeSpec := { name := "meterRanks", fn := fun _ => fun
  | [d1, d2, d3] => { results := [.lit (.bool false)], args := [d1, d2, d3] }
  | _ => none }
def MeterRanksWrongFalsely : Prop := meterRanksRow.holds Try.pinned (OpenSpec.ofChange meterRanksWrong)

/-- 'signetlaw10.MeterBetween': WHATEVER THE INPUT: true; the input reads as it did. -/
def meterBetweenSpec : ChangeSpec := { name := "meterBetween", fn := fun _ => fun
  | [d1, d2] => { results := [.lit (.bool true)], args := [d1, d2] }
  | _ => none }
def meterBetweenRow : OpenClaim := { program := "ytfhjboloielbnaa", sum := "1dd2b29cb31bb0cedd6e059844ddcc1c6a81cb26ed56e7352774cb94b70d6567", func := "signet/signetlaw10.MeterBetween", spec := "meterBetween", inPlace := ["math.Float64frombits", "math.Float64bits"], unfollowed := true, recurses := true, apart := false }
def MeterBetweenSaid : Prop := meterBetweenRow.holds Try.pinned (OpenSpec.ofChange meterBetweenSpec)

/-- ITS FALSE NEIGHBOUR: 'it returns false'. Refute it at one input. -/
def meterBetweenWrong : ChangeSpec := { name := "meterBetween", fn := fun _ => fun
  | [d1, d2] => { results := [.lit (.bool false)], args := [d1, d2] }
  | _ => none }
def MeterBetweenWrongFalsely : Prop := meterBetweenRow.holds Try.pinned (OpenSpec.ofChange meterBetweenWrong)

/-- 'signetlaw10.MeterMeans': WHATEVER THE INPUT: true; the input reads as it did. -/
def meterMeansSpec : ChangeSpec := { name := "meterMeans", fn := fun _ => fun
  | [d1, d2] => { results := [.lit (.bool true)], args := [d1, d2] }
  | _ => none }
def meterMeansRow : OpenClaim := { program := "ytfhjboloielbnaa", sum := "1dd2b29cb31bb0cedd6e059844ddcc1c6a81cb26ed56e7352774cb94b70d6567", func := "signet/signetlaw10.MeterMeans", spec := "meterMeans", inPlace := ["math.Float64frombits", "math.Float64bits"], unfollowed := true, recurses := true, apart := false }
def MeterMeansSaid : Prop := meterMeansRow.holds Try.pinned (OpenSpec.ofChange meterMeansSpec)

/-- ITS FALSE NEIGHBOUR: 'it returns false'. Refute it at one input. -/
def meterMeansWrong : ChangeSpec := { name := "meterMeans", fn := fun _ => fun
  | [d1, d2] => { results := [.lit (.bool false)], args := [d1, d2] }
  | _ => none }
def MeterMeansWrongFalsely : Prop := meterMeansRow.holds Try.pinned (OpenSpec.ofChange meterMeansWrong)

/-- 'signetlaw10.MeterLoads': WHATEVER THE INPUT: true; the input reads as it did. -/
def meterLoadsSpec : ChangeSpec := { name := "meterLoads", fn := fun _ => fun
  | [d1, d2] => { results := [.lit (.bool true)], args := [d1, d2] }
  | _ => none }
def meterLoadsRow : OpenClaim := { program := "ytfhjboloielbnaa", sum := "1dd2b29cb31bb0cedd6e059844ddcc1c6a81cb26ed56e7352774cb94b70d6567", func := "signet/signetlaw10.MeterLoads", spec := "meterLoads", inPlace := ["math.Float64frombits", "math.Float64bits"], unfollowed := true, recurses := true, apart := false }
def MeterLoadsSaid : Prop := meterLoadsRow.holds Try.pinned (OpenSpec.ofChange meterLoadsSpec)

/-- ITS FALSE NEIGHBOUR: 'it returns false'. Refute it at one input. -/
def meterLoadsWrong : ChangeSpec := { name := "meterLoads", fn := fun _ => fun
  | [d1, d2] => { results := [.lit (.bool false)], args := [d1, d2] }
  | _ => none }
def MeterLoadsWrongFalsely : Prop := meterLoadsRow.holds Try.pinned (OpenSpec.ofChange meterLoadsWrong)

/-- 'signetlaw10.MeterParts': WHATEVER THE INPUT: true; the input reads as it did. -/
def meterPartsSpec : ChangeSpec := { name := "meterParts", fn := fun _ => fun
  | [d1, d2, d3] => { results := [.lit (.bool true)], args := [d1, d2, d3] }
  | _ => none }
def meterPartsRow : OpenClaim := { program := "ytfhjboloielbnaa", sum := "1dd2b29cb31bb0cedd6e059844ddcc1c6a81cb26ed56e7352774cb94b70d6567", func := "signet/signetlaw10.MeterParts", spec := "meterParts", inPlace := ["math.Float64frombits", "math.Float64bits"], unfollowed := true, recurses := true, apart := false }
def MeterPartsSaid : Prop := meterPartsRow.holds Try.pinned (OpenSpec.ofChange meterPartsSpec)

/-- ITS FALSE NEIGHBOUR: 'it returns false'. Refute it at one input. -/
def meterPartsWrong : ChangeSpec := { name := "meterParts", fn := fun _ => fun
  | [d1, d2, d3] => { results := [.lit (.bool false)], args := [d1, d2, d3] }
  | _ => none }
def MeterPartsWrongFalsely : Prop := meterPartsRow.holds Try.pinned (OpenSpec.ofChange meterPartsWrong)

/-- 'signetlaw10.MeterEdges': WHATEVER THE INPUT: true; the input reads as it did. -/
def meterEdgesSpec : ChangeSpec := { name := "meterEdges", fn := fun _ => fun
  | [d1, d2] => { results := [.lit (.bool true)], args := [d1, d2] }
  | _ => none }
def meterEdgesRow : OpenClaim := { program := "ytfhjboloielbnaa", sum := "1dd2b29cb31bb0cedd6e059844ddcc1c6a81cb26ed56e7352774cb94b70d6567", func := "signet/signetlaw10.MeterEdges", spec := "meterEdges", inPlace := ["math.Float64frombits", "math.Float64bits"], unfollowed := true, recurses := true, apart := false }
def MeterEdgesSaid : Prop := meterEdgesRow.holds Try.pinned (OpenSpec.ofChange meterEdgesSpec)

/-- ITS FALSE NEIGHBOUR: 'it returns false'. Refute it at one input. -/
def meterEdgesWrong : ChangeSpec := { name := "meterEdges", fn := fun _ => fun
  | [d1, d2] => { results := [.lit (.bool false)], args := [d1, d2] }
  | _ => none }
def MeterEdgesWrongFalsely : Prop := meterEdgesRow.holds Try.pinned (OpenSpec.ofChange meterEdgesWrong)

/- THE SECOND FORM. 'bulk': how many values and letters a reading holds, each counted each time it is reached (what is shared counts as often as it is met; a slice's spare places count too). A statement '..UptoSaid' is the law's where the arguments, and the package variables that the reading takes, are together of bulk at most 1048576: NARROWER than '..Said'. Prove '..Said' where nothing that the law and all that it calls make is longer than what came in: it says more and counts as full. Else prove '..UptoSaid'. A law counts once. -/
mutual
def uptoBulk {H : Type} : DataW H → Nat
  | .lit (.string bytes) => bytes.length + 1
  | .lit _ => 1
  | .nil => 1
  | .ptr d => uptoBulk d + 1
  | .slice elems spare => uptoBulkAll elems + uptoBulkAll spare + 1
  | .agg parts => uptoBulkAll parts + 1
  | .iface _ d => uptoBulk d + 1
  | .map entries => uptoBulkEntries entries + 1
  | .held _ => 1
def uptoBulkAll {H : Type} : List (DataW H) → Nat
  | [] => 0
  | d :: r => uptoBulk d + uptoBulkAll r
def uptoBulkEntries {H : Type} : List (Lit × DataW H) → Nat
  | [] => 0
  | x :: r => uptoBulkEntry x + uptoBulkEntries r
def uptoBulkEntry {H : Type} : Lit × DataW H → Nat
  | (.string bytes, d) => bytes.length + uptoBulk d + 1
  | (_, d) => uptoBulk d + 1
 end
def uptoSmall : (H : Type) → List (DataW H) → Bool := fun _ ds => decide (uptoBulkAll ds ≤ 1048576)
def OpenSpec.upto (s : _root_.Go.ChangeSpec) : _root_.Go.OpenSpec := { _root_.Go.OpenSpec.ofChange s with cond := some uptoSmall }

/-- 'signetlaw10.MeterOrders', WHERE WHAT IT READS IS OF BULK AT MOST 1048576: true; the input reads as it did. -/
def meterOrdersUptoRow : OpenClaim := { program := "ytfhjboloielbnaa", sum := "1dd2b29cb31bb0cedd6e059844ddcc1c6a81cb26ed56e7352774cb94b70d6567", func := "signet/signetlaw10.MeterOrders", spec := "meterOrders", inPlace := ["math.Float64frombits", "math.Float64bits"], unfollowed := true, recurses := true, apart := false, narrowed := true }
def MeterOrdersUptoSaid : Prop := meterOrdersUptoRow.holds Try.pinned (OpenSpec.upto meterOrdersSpec)

/-- 'signetlaw10.MeterRanks', WHERE WHAT IT READS IS OF BULK AT MOST 1048576: true; the input reads as it did. -/
def meterRanksUptoRow : OpenClaim := { program := "ytfhjboloielbnaa", sum := "1dd2b29cb31bb0cedd6e059844ddcc1c6a81cb26ed56e7352774cb94b70d6567", func := "signet/signetlaw10.MeterRanks", spec := "meterRanks", inPlace := ["math.Float64frombits", "math.Float64bits"], unfollowed := true, recurses := true, apart := false, narrowed := true }
def MeterRanksUptoSaid : Prop := meterRanksUptoRow.holds Try.pinned (OpenSpec.upto meterRanksSpec)

/-- 'signetlaw10.MeterBetween', WHERE WHAT IT READS IS OF BULK AT MOST 1048576: true; the input reads as it did. -/
def meterBetweenUptoRow : OpenClaim := { program := "ytfhjboloielbnaa", sum := "1dd2b29cb31bb0cedd6e059844ddcc1c6a81cb26ed56e7352774cb94b70d6567", func := "signet/signetlaw10.MeterBetween", spec := "meterBetween", inPlace := ["math.Float64frombits", "math.Float64bits"], unfollowed := true, recurses := true, apart := false, narrowed := true }
def MeterBetweenUptoSaid : Prop := meterBetweenUptoRow.holds Try.pinned (OpenSpec.upto meterBetweenSpec)

/-- 'signetlaw10.MeterMeans', WHERE WHAT IT READS IS OF BULK AT MOST 1048576: true; the input reads as it did. -/
def meterMeansUptoRow : OpenClaim := { program := "ytfhjboloielbnaa", sum := "1dd2b29cb31bb0cedd6e059844ddcc1c6a81cb26ed56e7352774cb94b70d6567", func := "signet/signetlaw10.MeterMeans", spec := "meterMeans", inPlace := ["math.Float64frombits", "math.Float64bits"], unfollowed := true, recurses := true, apart := false, narrowed := true }
def MeterMeansUptoSaid : Prop := meterMeansUptoRow.holds Try.pinned (OpenSpec.upto meterMeansSpec)

/-- 'signetlaw10.MeterLoads', WHERE WHAT IT READS IS OF BULK AT MOST 1048576: true; the input reads as it did. -/
def meterLoadsUptoRow : OpenClaim := { program := "ytfhjboloielbnaa", sum := "1dd2b29cb31bb0cedd6e059844ddcc1c6a81cb26ed56e7352774cb94b70d6567", func := "signet/signetlaw10.MeterLoads", spec := "meterLoads", inPlace := ["math.Float64frombits", "math.Float64bits"], unfollowed := true, recurses := true, apart := false, narrowed := true }
def MeterLoadsUptoSaid : Prop := meterLoadsUptoRow.holds Try.pinned (OpenSpec.upto meterLoadsSpec)

/-- 'signetlaw10.MeterParts', WHERE WHAT IT READS IS OF BULK AT MOST 1048576: true; the input reads as it did. -/
def meterPartsUptoRow : OpenClaim := { program := "ytfhjboloielbnaa", sum := "1dd2b29cb31bb0cedd6e059844ddcc1c6a81cb26ed56e7352774cb94b70d6567", func := "signet/signetlaw10.MeterParts", spec := "meterParts", inPlace := ["math.Float64frombits", "math.Float64bits"], unfollowed := true, recurses := true, apart := false, narrowed := true }
def MeterPartsUptoSaid : Prop := meterPartsUptoRow.holds Try.pinned (OpenSpec.upto meterPartsSpec)

/-- 'signetlaw10.MeterEdges', WHERE WHAT IT READS IS OF BULK AT MOST 1048576: true; the input reads as it did. -/
def meterEdgesUptoRow : OpenClaim := { program := "ytfhjboloielbnaa", sum := "1dd2b29cb31bb0cedd6e059844ddcc1c6a81cb26ed56e7352774cb94b70d6567", func := "signet/signetlaw10.MeterEdges", spec := "meterEdges", inPlace := ["math.Float64frombits", "math.Float64bits"], unfollowed := true, recurses := true, apart := false, narrowed := true }
def MeterEdgesUptoSaid : Prop := meterEdgesUptoRow.holds Try.pinned (OpenSpec.upto meterEdgesSpec)

end Rows
end Go.Proofs.Ytfhjboloielbnaa
