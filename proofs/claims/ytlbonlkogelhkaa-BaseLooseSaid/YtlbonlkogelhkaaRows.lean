/-
  No cell of these rows narrows 'for every input' (looked for: loops, veiled, ifaces, maps, wideKeys, modest, calm, conditions, laid).
  DERIVED. THE GIVEN ROWS OF THIS SEAT. 9 by the template 'for every input the law returns true; each argument reads behind the call as it read before'; 0 by the template 'total and deterministic' (their statements: YtlbonlkogelhkaaTotals.lean).
  GIVEN WITH THE SEED: the statements are not yours to turn. If you find one false, say at which input.
  Laid BY PROGRAM, IN A SANDBOX (cutbox-rows.mjs): the forced cells as the released guide's own fill.sh prints them over the translation 14d732be744b389a… (all of the seat's roots in one cut). By AI agents, Wed Nov 11 2026. No macro, syntax, notation, axiom, sorry.
-/
import Derived.Test.YtlbonlkogelhkaaChecked
import GoSem.Claim
import GoSem.ClaimJoined
import GoSem.ClaimMapViews
import Derived.JoinedTies
import Derived.KernelRfl
namespace Go.Proofs.Ytlbonlkogelhkaa
/- THE CELL 'sum', in the pinned program and in every row, IS THE sha256 OF THE DUMP (.gsa) THAT YtlbonlkogelhkaaProg.lean LOADS. Nothing in Lean hashes anything: it is a label: what it is worth is what the hold of that sum in a sandbox is worth. -/
noncomputable def Try.pinned : Pinned := { name := "ytlbonlkogelhkaa", sum := "14d732be744b389a99475dd7224b85358c1677495b25d195ef938333425828a6", checked := Try.checked }
namespace Rows
def none {H : Type} : Left H := { results := [], args := [] }

/-- 'signetlaw13.SerialCounts': WHATEVER THE INPUT: true; the input reads as it did. -/
def serialCountsSpec : ChangeSpec := { name := "serialCounts", fn := fun _ => fun
  | [d1, d2] => { results := [.lit (.bool true)], args := [d1, d2] }
  | _ => none }
def serialCountsRow : OpenClaim := { program := "ytlbonlkogelhkaa", sum := "14d732be744b389a99475dd7224b85358c1677495b25d195ef938333425828a6", func := "signet/signetlaw13.SerialCounts", spec := "serialCounts", apart := false }
def SerialCountsSaid : Prop := serialCountsRow.holds Try.pinned (OpenSpec.ofChange serialCountsSpec)

/-- ITS FALSE NEIGHBOUR: 'it returns false'. Refute it at one input. -/
def serialCountsWrong : ChangeSpec := { name := "serialCounts", fn := fun _ => fun
  | [d1, d2] => { results := [.lit (.bool false)], args := [d1, d2] }
  | _ => none }
def SerialCountsWrongFalsely : Prop := serialCountsRow.holds Try.pinned (OpenSpec.ofChange serialCountsWrong)

/-- 'signetlaw13.SerialRises': WHATEVER THE INPUT: true; the input reads as it did. -/
def serialRisesSpec : ChangeSpec := { name := "serialRises", fn := fun _ => fun
  | [d1, d2] => { results := [.lit (.bool true)], args := [d1, d2] }
  | _ => none }
def serialRisesRow : OpenClaim := { program := "ytlbonlkogelhkaa", sum := "14d732be744b389a99475dd7224b85358c1677495b25d195ef938333425828a6", func := "signet/signetlaw13.SerialRises", spec := "serialRises", apart := false }
def SerialRisesSaid : Prop := serialRisesRow.holds Try.pinned (OpenSpec.ofChange serialRisesSpec)

/-- ITS FALSE NEIGHBOUR: 'it returns false'. Refute it at one input. -/
def serialRisesWrong : ChangeSpec := { name := "serialRises", fn := fun _ => fun
  | [d1, d2] => { results := [.lit (.bool false)], args := [d1, d2] }
  | _ => none }
def SerialRisesWrongFalsely : Prop := serialRisesRow.holds Try.pinned (OpenSpec.ofChange serialRisesWrong)

/-- 'signetlaw13.SerialRounds': WHATEVER THE INPUT: true; the input reads as it did. -/
def serialRoundsSpec : ChangeSpec := { name := "serialRounds", fn := fun _ => fun
  | [d1, d2] => { results := [.lit (.bool true)], args := [d1, d2] }
  | _ => none }
def serialRoundsRow : OpenClaim := { program := "ytlbonlkogelhkaa", sum := "14d732be744b389a99475dd7224b85358c1677495b25d195ef938333425828a6", func := "signet/signetlaw13.SerialRounds", spec := "serialRounds", apart := false }
def SerialRoundsSaid : Prop := serialRoundsRow.holds Try.pinned (OpenSpec.ofChange serialRoundsSpec)

/-- ITS FALSE NEIGHBOUR: 'it returns false'. Refute it at one input. -/
def serialRoundsWrong : ChangeSpec := { name := "serialRounds", fn := fun _ => fun
  | [d1, d2] => { results := [.lit (.bool false)], args := [d1, d2] }
  | _ => none }
def SerialRoundsWrongFalsely : Prop := serialRoundsRow.holds Try.pinned (OpenSpec.ofChange serialRoundsWrong)

/-- 'signetlaw13.SerialTimes': WHATEVER THE INPUT: true; the input reads as it did. -/
def serialTimesSpec : ChangeSpec := { name := "serialTimes", fn := fun _ => fun
  | [d1, d2, d3] => { results := [.lit (.bool true)], args := [d1, d2, d3] }
  | _ => none }
def serialTimesRow : OpenClaim := { program := "ytlbonlkogelhkaa", sum := "14d732be744b389a99475dd7224b85358c1677495b25d195ef938333425828a6", func := "signet/signetlaw13.SerialTimes", spec := "serialTimes", apart := false }
def SerialTimesSaid : Prop := serialTimesRow.holds Try.pinned (OpenSpec.ofChange serialTimesSpec)

/-- ITS FALSE NEIGHBOUR: 'it returns false'. Refute it at one input. -/
def serialTimesWrong : ChangeSpec := { name := "serialTimes", fn := fun _ => fun
  | [d1, d2, d3] => { results := [.lit (.bool false)], args := [d1, d2, d3] }
  | _ => none }
def SerialTimesWrongFalsely : Prop := serialTimesRow.holds Try.pinned (OpenSpec.ofChange serialTimesWrong)

/-- 'signetlaw2.BaseWrites': WHATEVER THE INPUT: true; the input reads as it did. -/
def baseWritesSpec : ChangeSpec := { name := "baseWrites", fn := fun _ => fun
  | [d] => { results := [.lit (.bool true)], args := [d] }
  | _ => none }
def baseWritesRow : OpenClaim := { program := "ytlbonlkogelhkaa", sum := "14d732be744b389a99475dd7224b85358c1677495b25d195ef938333425828a6", func := "signet/signetlaw2.BaseWrites", spec := "baseWrites", apart := false }
def BaseWritesSaid : Prop := baseWritesRow.holds Try.pinned (OpenSpec.ofChange baseWritesSpec)

/-- ITS FALSE NEIGHBOUR: 'it returns false'. Refute it at one input. -/
def baseWritesWrong : ChangeSpec := { name := "baseWrites", fn := fun _ => fun
  | [d] => { results := [.lit (.bool false)], args := [d] }
  | _ => none }
def BaseWritesWrongFalsely : Prop := baseWritesRow.holds Try.pinned (OpenSpec.ofChange baseWritesWrong)

/-- 'signetlaw2.BaseReads': WHATEVER THE INPUT: true; the input reads as it did. -/
def baseReadsSpec : ChangeSpec := { name := "baseReads", fn := fun _ => fun
  | [d] => { results := [.lit (.bool true)], args := [d] }
  | _ => none }
def baseReadsRow : OpenClaim := { program := "ytlbonlkogelhkaa", sum := "14d732be744b389a99475dd7224b85358c1677495b25d195ef938333425828a6", func := "signet/signetlaw2.BaseReads", spec := "baseReads", apart := false }
def BaseReadsSaid : Prop := baseReadsRow.holds Try.pinned (OpenSpec.ofChange baseReadsSpec)

/-- ITS FALSE NEIGHBOUR: 'it returns false'. Refute it at one input. -/
def baseReadsWrong : ChangeSpec := { name := "baseReads", fn := fun _ => fun
  | [d] => { results := [.lit (.bool false)], args := [d] }
  | _ => none }
def BaseReadsWrongFalsely : Prop := baseReadsRow.holds Try.pinned (OpenSpec.ofChange baseReadsWrong)

/-- 'signetlaw2.BaseOrder': WHATEVER THE INPUT: true; the input reads as it did. -/
def baseOrderSpec : ChangeSpec := { name := "baseOrder", fn := fun _ => fun
  | [d1, d2] => { results := [.lit (.bool true)], args := [d1, d2] }
  | _ => none }
def baseOrderRow : OpenClaim := { program := "ytlbonlkogelhkaa", sum := "14d732be744b389a99475dd7224b85358c1677495b25d195ef938333425828a6", func := "signet/signetlaw2.BaseOrder", spec := "baseOrder", apart := false }
def BaseOrderSaid : Prop := baseOrderRow.holds Try.pinned (OpenSpec.ofChange baseOrderSpec)

/-- ITS FALSE NEIGHBOUR: 'it returns false'. Refute it at one input. -/
def baseOrderWrong : ChangeSpec := { name := "baseOrder", fn := fun _ => fun
  | [d1, d2] => { results := [.lit (.bool false)], args := [d1, d2] }
  | _ => none }
def BaseOrderWrongFalsely : Prop := baseOrderRow.holds Try.pinned (OpenSpec.ofChange baseOrderWrong)

/-- 'signetlaw2.BaseLoose': WHATEVER THE INPUT: true; the input reads as it did. -/
def baseLooseSpec : ChangeSpec := { name := "baseLoose", fn := fun _ => fun
  | [d1, d2, d3] => { results := [.lit (.bool true)], args := [d1, d2, d3] }
  | _ => none }
def baseLooseRow : OpenClaim := { program := "ytlbonlkogelhkaa", sum := "14d732be744b389a99475dd7224b85358c1677495b25d195ef938333425828a6", func := "signet/signetlaw2.BaseLoose", spec := "baseLoose", apart := false }
def BaseLooseSaid : Prop := baseLooseRow.holds Try.pinned (OpenSpec.ofChange baseLooseSpec)

/-- ITS FALSE NEIGHBOUR: 'it returns false'. Refute it at one input. -/
def baseLooseWrong : ChangeSpec := { name := "baseLoose", fn := fun _ => fun
  | [d1, d2, d3] => { results := [.lit (.bool false)], args := [d1, d2, d3] }
  | _ => none }
def BaseLooseWrongFalsely : Prop := baseLooseRow.holds Try.pinned (OpenSpec.ofChange baseLooseWrong)

/-- 'signetlaw2.BaseLengths': WHATEVER THE INPUT: true; the input reads as it did. -/
def baseLengthsSpec : ChangeSpec := { name := "baseLengths", fn := fun _ => fun
  | [d] => { results := [.lit (.bool true)], args := [d] }
  | _ => none }
def baseLengthsRow : OpenClaim := { program := "ytlbonlkogelhkaa", sum := "14d732be744b389a99475dd7224b85358c1677495b25d195ef938333425828a6", func := "signet/signetlaw2.BaseLengths", spec := "baseLengths", apart := false }
def BaseLengthsSaid : Prop := baseLengthsRow.holds Try.pinned (OpenSpec.ofChange baseLengthsSpec)

/-- ITS FALSE NEIGHBOUR: 'it returns false'. Refute it at one input. -/
def baseLengthsWrong : ChangeSpec := { name := "baseLengths", fn := fun _ => fun
  | [d] => { results := [.lit (.bool false)], args := [d] }
  | _ => none }
def BaseLengthsWrongFalsely : Prop := baseLengthsRow.holds Try.pinned (OpenSpec.ofChange baseLengthsWrong)

/- THE SECOND FORM. 'bulk': how many values and letters a reading holds, each counted each time it is reached (what is shared counts as often as it is met; a slice's spare places count too). A statement '..UptoSaid' is the law's where the arguments, and the package variables that the reading takes, are together of bulk at most 1048576: NARROWER than '..Said'. Prove '..Said' where nothing that the law and all that it calls make is longer than what came in: it says more and counts as full. Else prove '..UptoSaid'. A law counts once. -/
mutual
def uptoBulk {H : Type} : DataW H → Nat
  | .lit (.string bytes) => bytes.length + 1
  | .lit _ => 1
  | .nil => 1
  | .ptr d => uptoBulk d + 1
  | .slice elems spare => uptoBulkAll elems + uptoBulkAll spare + 1
  | .agg parts => uptoBulkAll parts + 1
  | .iface _ d => uptoBulk d + 1
  | .map entries => uptoBulkEntries entries + 1
  | .held _ => 1
def uptoBulkAll {H : Type} : List (DataW H) → Nat
  | [] => 0
  | d :: r => uptoBulk d + uptoBulkAll r
def uptoBulkEntries {H : Type} : List (Lit × DataW H) → Nat
  | [] => 0
  | x :: r => uptoBulkEntry x + uptoBulkEntries r
def uptoBulkEntry {H : Type} : Lit × DataW H → Nat
  | (.string bytes, d) => bytes.length + uptoBulk d + 1
  | (_, d) => uptoBulk d + 1
 end
def uptoSmall : (H : Type) → List (DataW H) → Bool := fun _ ds => decide (uptoBulkAll ds ≤ 1048576)
def OpenSpec.upto (s : _root_.Go.ChangeSpec) : _root_.Go.OpenSpec := { _root_.Go.OpenSpec.ofChange s with cond := some uptoSmall }

/-- 'signetlaw13.SerialCounts', WHERE WHAT IT READS IS OF BULK AT MOST 1048576: true; the input reads as it did. -/
def serialCountsUptoRow : OpenClaim := { program := "ytlbonlkogelhkaa", sum := "14d732be744b389a99475dd7224b85358c1677495b25d195ef938333425828a6", func := "signet/signetlaw13.SerialCounts", spec := "serialCounts", apart := false, narrowed := true }
def SerialCountsUptoSaid : Prop := serialCountsUptoRow.holds Try.pinned (OpenSpec.upto serialCountsSpec)

/-- 'signetlaw13.SerialRises', WHERE WHAT IT READS IS OF BULK AT MOST 1048576: true; the input reads as it did. -/
def serialRisesUptoRow : OpenClaim := { program := "ytlbonlkogelhkaa", sum := "14d732be744b389a99475dd7224b85358c1677495b25d195ef938333425828a6", func := "signet/signetlaw13.SerialRises", spec := "serialRises", apart := false, narrowed := true }
def SerialRisesUptoSaid : Prop := serialRisesUptoRow.holds Try.pinned (OpenSpec.upto serialRisesSpec)

/-- 'signetlaw13.SerialRounds', WHERE WHAT IT READS IS OF BULK AT MOST 1048576: true; the input reads as it did. -/
def serialRoundsUptoRow : OpenClaim := { program := "ytlbonlkogelhkaa", sum := "14d732be744b389a99475dd7224b85358c1677495b25d195ef938333425828a6", func := "signet/signetlaw13.SerialRounds", spec := "serialRounds", apart := false, narrowed := true }
def SerialRoundsUptoSaid : Prop := serialRoundsUptoRow.holds Try.pinned (OpenSpec.upto serialRoundsSpec)

/-- 'signetlaw13.SerialTimes', WHERE WHAT IT READS IS OF BULK AT MOST 1048576: true; the input reads as it did. -/
def serialTimesUptoRow : OpenClaim := { program := "ytlbonlkogelhkaa", sum := "14d732be744b389a99475dd7224b85358c1677495b25d195ef938333425828a6", func := "signet/signetlaw13.SerialTimes", spec := "serialTimes", apart := false, narrowed := true }
def SerialTimesUptoSaid : Prop := serialTimesUptoRow.holds Try.pinned (OpenSpec.upto serialTimesSpec)

/-- 'signetlaw2.BaseWrites', WHERE WHAT IT READS IS OF BULK AT MOST 1048576: true; the input reads as it did. -/
def baseWritesUptoRow : OpenClaim := { program := "ytlbonlkogelhkaa", sum := "14d732be744b389a99475dd7224b85358c1677495b25d195ef938333425828a6", func := "signet/signetlaw2.BaseWrites", spec := "baseWrites", apart := false, narrowed := true }
def BaseWritesUptoSaid : Prop := baseWritesUptoRow.holds Try.pinned (OpenSpec.upto baseWritesSpec)

/-- 'signetlaw2.BaseReads', WHERE WHAT IT READS IS OF BULK AT MOST 1048576: true; the input reads as it did. -/
def baseReadsUptoRow : OpenClaim := { program := "ytlbonlkogelhkaa", sum := "14d732be744b389a99475dd7224b85358c1677495b25d195ef938333425828a6", func := "signet/signetlaw2.BaseReads", spec := "baseReads", apart := false, narrowed := true }
def BaseReadsUptoSaid : Prop := baseReadsUptoRow.holds Try.pinned (OpenSpec.upto baseReadsSpec)

/-- 'signetlaw2.BaseOrder', WHERE WHAT IT READS IS OF BULK AT MOST 1048576: true; the input reads as it did. -/
def baseOrderUptoRow : OpenClaim := { program := "ytlbonlkogelhkaa", sum := "14d732be744b389a99475dd7224b85358c1677495b25d195ef938333425828a6", func := "signet/signetlaw2.BaseOrder", spec := "baseOrder", apart := false, narrowed := true }
def BaseOrderUptoSaid : Prop := baseOrderUptoRow.holds Try.pinned (OpenSpec.upto baseOrderSpec)

/-- 'signetlaw2.BaseLoose', WHERE WHAT IT READS IS OF BULK AT MOST 1048576: true; the input reads as it did. -/
def baseLooseUptoRow : OpenClaim := { program := "ytlbonlkogelhkaa", sum := "14d732be744b389a99475dd7224b85358c1677495b25d195ef938333425828a6", func := "signet/signetlaw2.BaseLoose", spec := "baseLoose", apart := false, narrowed := true }
def BaseLooseUptoSaid : Prop := baseLooseUptoRow.holds Try.pinned (OpenSpec.upto baseLooseSpec)

/-- 'signetlaw2.BaseLengths', WHERE WHAT IT READS IS OF BULK AT MOST 1048576: true; the input reads as it did. -/
def baseLengthsUptoRow : OpenClaim := { program := "ytlbonlkogelhkaa", sum := "14d732be744b389a99475dd7224b85358c1677495b25d195ef938333425828a6", func := "signet/signetlaw2.BaseLengths", spec := "baseLengths", apart := false, narrowed := true }
def BaseLengthsUptoSaid : Prop := baseLengthsUptoRow.holds Try.pinned (OpenSpec.upto baseLengthsSpec)

end Rows
end Go.Proofs.Ytlbonlkogelhkaa
