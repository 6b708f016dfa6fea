/-
  No cell of these rows narrows 'for every input' (looked for: loops, veiled, ifaces, maps, wideKeys, modest, calm, conditions, laid).
  DERIVED. THE GIVEN ROWS OF THIS SEAT. 7 by the template 'for every input the law returns true; each argument reads behind the call as it read before'; 0 by the template 'total and deterministic' (their statements: YtmbdoacafhljkaaGreatTotals.lean).
  GIVEN WITH THE SEED: the statements are not yours to turn. If you find one false, say at which input.
  Laid BY PROGRAM, IN A SANDBOX (cutbox-rows.mjs): the forced cells as the released guide's own fill.sh prints them over the translation bd9951f813cf7e82… (all of the seat's roots in one cut). By AI agents, Wed Nov 11 2026. No macro, syntax, notation, axiom, sorry.
-/
import Derived.Test.YtmbdoacafhljkaaGreatChecked
import GoSem.Claim
import GoSem.ClaimJoined
import GoSem.ClaimMapViews
import Derived.JoinedTies
import Derived.KernelRfl
namespace Go.Proofs.YtmbdoacafhljkaaGreat
/- THE CELL 'sum', in the pinned program and in every row, IS THE sha256 OF THE DUMP (.gsa) THAT YtmbdoacafhljkaaGreatProg.lean LOADS. Nothing in Lean hashes anything: it is a label: what it is worth is what the hold of that sum in a sandbox is worth. -/
noncomputable def Tryz.pinned : Pinned := { name := "ytmbdoacafhljkaagreat", sum := "bd9951f813cf7e82d6fc4d92ca5baeff9a0725d53848950a582fa728b409604f", checked := Tryz.checked }
namespace Rows
def none {H : Type} : Left H := { results := [], args := [] }

/-- 'signetlaw15.ZonePlays': WHATEVER THE INPUT: true; the input reads as it did. -/
def zonePlaysSpec : ChangeSpec := { name := "zonePlays", fn := fun _ => fun
  | [d] => { results := [.lit (.bool true)], args := [d] }
  | _ => none }
def zonePlaysRow : OpenClaim := { program := "ytmbdoacafhljkaagreat", sum := "bd9951f813cf7e82d6fc4d92ca5baeff9a0725d53848950a582fa728b409604f", func := "signet/signetlaw15.ZonePlays", spec := "zonePlays", inPlace := ["internal/bytealg.abigen_runtime_cmpstring", "internal/bytealg.Compare", "slices.overlaps[signet/zone.datum]"], unfollowed := true, recurses := true, apart := false }
def ZonePlaysSaid : Prop := zonePlaysRow.holds Tryz.pinned (OpenSpec.ofChange zonePlaysSpec)

/-- ITS FALSE NEIGHBOUR: 'it returns false'. Refute it at one input. -/
def zonePlaysWrong : ChangeSpec := { name := "zonePlays", fn := fun _ => fun
  | [d] => { results := [.lit (.bool false)], args := [d] }
  | _ => none }
def ZonePlaysWrongFalsely : Prop := zonePlaysRow.holds Tryz.pinned (OpenSpec.ofChange zonePlaysWrong)

/-- 'signetlaw15.ZoneTells': WHATEVER THE INPUT: true; the input reads as it did. -/
def zoneTellsSpec : ChangeSpec := { name := "zoneTells", fn := fun _ => fun
  | [d1, d2, d3, d4] => { results := [.lit (.bool true)], args := [d1, d2, d3, d4] }
  | _ => none }
def zoneTellsRow : OpenClaim := { program := "ytmbdoacafhljkaagreat", sum := "bd9951f813cf7e82d6fc4d92ca5baeff9a0725d53848950a582fa728b409604f", func := "signet/signetlaw15.ZoneTells", spec := "zoneTells", inPlace := ["internal/bytealg.abigen_runtime_cmpstring", "internal/bytealg.Compare", "slices.overlaps[signet/zone.datum]"], unfollowed := true, recurses := true, apart := false }
def ZoneTellsSaid : Prop := zoneTellsRow.holds Tryz.pinned (OpenSpec.ofChange zoneTellsSpec)

/-- ITS FALSE NEIGHBOUR: 'it returns false'. Refute it at one input. -/
def zoneTellsWrong : ChangeSpec := { name := "zoneTells", fn := fun _ => fun
  | [d1, d2, d3, d4] => { results := [.lit (.bool false)], args := [d1, d2, d3, d4] }
  | _ => none }
def ZoneTellsWrongFalsely : Prop := zoneTellsRow.holds Tryz.pinned (OpenSpec.ofChange zoneTellsWrong)

/-- 'signetlaw15.ZoneCopies': WHATEVER THE INPUT: true; the input reads as it did. -/
def zoneCopiesSpec : ChangeSpec := { name := "zoneCopies", fn := fun _ => fun
  | [d1, d2] => { results := [.lit (.bool true)], args := [d1, d2] }
  | _ => none }
def zoneCopiesRow : OpenClaim := { program := "ytmbdoacafhljkaagreat", sum := "bd9951f813cf7e82d6fc4d92ca5baeff9a0725d53848950a582fa728b409604f", func := "signet/signetlaw15.ZoneCopies", spec := "zoneCopies", inPlace := ["internal/bytealg.abigen_runtime_cmpstring", "internal/bytealg.Compare", "slices.overlaps[signet/zone.datum]", "maps.clone"], unfollowed := true, recurses := true, apart := false }
def ZoneCopiesSaid : Prop := zoneCopiesRow.holds Tryz.pinned (OpenSpec.ofChange zoneCopiesSpec)

/-- ITS FALSE NEIGHBOUR: 'it returns false'. Refute it at one input. -/
def zoneCopiesWrong : ChangeSpec := { name := "zoneCopies", fn := fun _ => fun
  | [d1, d2] => { results := [.lit (.bool false)], args := [d1, d2] }
  | _ => none }
def ZoneCopiesWrongFalsely : Prop := zoneCopiesRow.holds Tryz.pinned (OpenSpec.ofChange zoneCopiesWrong)

/-- 'signetlaw17.UpdateAsks': WHATEVER THE INPUT: true; the input reads as it did. -/
def updateAsksSpec : ChangeSpec := { name := "updateAsks", fn := fun _ => fun
  | [d1, d2, d3, d4] => { results := [.lit (.bool true)], args := [d1, d2, d3, d4] }
  | _ => none }
def updateAsksRow : OpenClaim := { program := "ytmbdoacafhljkaagreat", sum := "bd9951f813cf7e82d6fc4d92ca5baeff9a0725d53848950a582fa728b409604f", func := "signet/signetlaw17.UpdateAsks", spec := "updateAsks", inPlace := ["internal/bytealg.abigen_runtime_cmpstring", "internal/bytealg.Compare", "slices.overlaps[signet/zone.datum]", "maps.clone"], unfollowed := true, recurses := true, apart := false }
def UpdateAsksSaid : Prop := updateAsksRow.holds Tryz.pinned (OpenSpec.ofChange updateAsksSpec)

/-- ITS FALSE NEIGHBOUR: 'it returns false'. Refute it at one input. -/
def updateAsksWrong : ChangeSpec := { name := "updateAsks", fn := fun _ => fun
  | [d1, d2, d3, d4] => { results := [.lit (.bool false)], args := [d1, d2, d3, d4] }
  | _ => none }
def UpdateAsksWrongFalsely : Prop := updateAsksRow.holds Tryz.pinned (OpenSpec.ofChange updateAsksWrong)

/-- 'signetlaw17.UpdateGoes': WHATEVER THE INPUT: true; the input reads as it did. -/
def updateGoesSpec : ChangeSpec := { name := "updateGoes", fn := fun _ => fun
  | [d1, d2, d3] => { results := [.lit (.bool true)], args := [d1, d2, d3] }
  | _ => none }
def updateGoesRow : OpenClaim := { program := "ytmbdoacafhljkaagreat", sum := "bd9951f813cf7e82d6fc4d92ca5baeff9a0725d53848950a582fa728b409604f", func := "signet/signetlaw17.UpdateGoes", spec := "updateGoes", inPlace := ["internal/bytealg.abigen_runtime_cmpstring", "internal/bytealg.Compare", "slices.overlaps[signet/zone.datum]", "maps.clone"], unfollowed := true, recurses := true, apart := false }
def UpdateGoesSaid : Prop := updateGoesRow.holds Tryz.pinned (OpenSpec.ofChange updateGoesSpec)

/-- ITS FALSE NEIGHBOUR: 'it returns false'. Refute it at one input. -/
def updateGoesWrong : ChangeSpec := { name := "updateGoes", fn := fun _ => fun
  | [d1, d2, d3] => { results := [.lit (.bool false)], args := [d1, d2, d3] }
  | _ => none }
def UpdateGoesWrongFalsely : Prop := updateGoesRow.holds Tryz.pinned (OpenSpec.ofChange updateGoesWrong)

/-- 'signetlaw17.UpdateKeeps': WHATEVER THE INPUT: true; the input reads as it did. -/
def updateKeepsSpec : ChangeSpec := { name := "updateKeeps", fn := fun _ => fun
  | [d1, d2] => { results := [.lit (.bool true)], args := [d1, d2] }
  | _ => none }
def updateKeepsRow : OpenClaim := { program := "ytmbdoacafhljkaagreat", sum := "bd9951f813cf7e82d6fc4d92ca5baeff9a0725d53848950a582fa728b409604f", func := "signet/signetlaw17.UpdateKeeps", spec := "updateKeeps", inPlace := ["internal/bytealg.abigen_runtime_cmpstring", "internal/bytealg.Compare", "slices.overlaps[signet/zone.datum]", "maps.clone"], unfollowed := true, recurses := true, apart := false }
def UpdateKeepsSaid : Prop := updateKeepsRow.holds Tryz.pinned (OpenSpec.ofChange updateKeepsSpec)

/-- ITS FALSE NEIGHBOUR: 'it returns false'. Refute it at one input. -/
def updateKeepsWrong : ChangeSpec := { name := "updateKeeps", fn := fun _ => fun
  | [d1, d2] => { results := [.lit (.bool false)], args := [d1, d2] }
  | _ => none }
def UpdateKeepsWrongFalsely : Prop := updateKeepsRow.holds Tryz.pinned (OpenSpec.ofChange updateKeepsWrong)

/-- 'signetlaw17.UpdateLeans': WHATEVER THE INPUT: true; the input reads as it did. -/
def updateLeansSpec : ChangeSpec := { name := "updateLeans", fn := fun _ => fun
  | [d1, d2, d3, d4] => { results := [.lit (.bool true)], args := [d1, d2, d3, d4] }
  | _ => none }
def updateLeansRow : OpenClaim := { program := "ytmbdoacafhljkaagreat", sum := "bd9951f813cf7e82d6fc4d92ca5baeff9a0725d53848950a582fa728b409604f", func := "signet/signetlaw17.UpdateLeans", spec := "updateLeans", inPlace := ["internal/bytealg.abigen_runtime_cmpstring", "internal/bytealg.Compare", "slices.overlaps[signet/zone.datum]", "maps.clone"], unfollowed := true, recurses := true, apart := false }
def UpdateLeansSaid : Prop := updateLeansRow.holds Tryz.pinned (OpenSpec.ofChange updateLeansSpec)

/-- ITS FALSE NEIGHBOUR: 'it returns false'. Refute it at one input. -/
def updateLeansWrong : ChangeSpec := { name := "updateLeans", fn := fun _ => fun
  | [d1, d2, d3, d4] => { results := [.lit (.bool false)], args := [d1, d2, d3, d4] }
  | _ => none }
def UpdateLeansWrongFalsely : Prop := updateLeansRow.holds Tryz.pinned (OpenSpec.ofChange updateLeansWrong)

/- THE SECOND FORM. 'bulk': how many values and letters a reading holds, each counted each time it is reached (what is shared counts as often as it is met; a slice's spare places count too). A statement '..UptoSaid' is the law's where the arguments, and the package variables that the reading takes, are together of bulk at most 1048576: NARROWER than '..Said'. Prove '..Said' where nothing that the law and all that it calls make is longer than what came in: it says more and counts as full. Else prove '..UptoSaid'. A law counts once. -/
mutual
def uptoBulk {H : Type} : DataW H → Nat
  | .lit (.string bytes) => bytes.length + 1
  | .lit _ => 1
  | .nil => 1
  | .ptr d => uptoBulk d + 1
  | .slice elems spare => uptoBulkAll elems + uptoBulkAll spare + 1
  | .agg parts => uptoBulkAll parts + 1
  | .iface _ d => uptoBulk d + 1
  | .map entries => uptoBulkEntries entries + 1
  | .held _ => 1
def uptoBulkAll {H : Type} : List (DataW H) → Nat
  | [] => 0
  | d :: r => uptoBulk d + uptoBulkAll r
def uptoBulkEntries {H : Type} : List (Lit × DataW H) → Nat
  | [] => 0
  | x :: r => uptoBulkEntry x + uptoBulkEntries r
def uptoBulkEntry {H : Type} : Lit × DataW H → Nat
  | (.string bytes, d) => bytes.length + uptoBulk d + 1
  | (_, d) => uptoBulk d + 1
 end
def uptoSmall : (H : Type) → List (DataW H) → Bool := fun _ ds => decide (uptoBulkAll ds ≤ 1048576)
def OpenSpec.upto (s : _root_.Go.ChangeSpec) : _root_.Go.OpenSpec := { _root_.Go.OpenSpec.ofChange s with cond := some uptoSmall }

/-- 'signetlaw15.ZonePlays', WHERE WHAT IT READS IS OF BULK AT MOST 1048576: true; the input reads as it did. -/
def zonePlaysUptoRow : OpenClaim := { program := "ytmbdoacafhljkaagreat", sum := "bd9951f813cf7e82d6fc4d92ca5baeff9a0725d53848950a582fa728b409604f", func := "signet/signetlaw15.ZonePlays", spec := "zonePlays", inPlace := ["internal/bytealg.abigen_runtime_cmpstring", "internal/bytealg.Compare", "slices.overlaps[signet/zone.datum]"], unfollowed := true, recurses := true, apart := false, narrowed := true }
def ZonePlaysUptoSaid : Prop := zonePlaysUptoRow.holds Tryz.pinned (OpenSpec.upto zonePlaysSpec)

/-- 'signetlaw15.ZoneTells', WHERE WHAT IT READS IS OF BULK AT MOST 1048576: true; the input reads as it did. -/
def zoneTellsUptoRow : OpenClaim := { program := "ytmbdoacafhljkaagreat", sum := "bd9951f813cf7e82d6fc4d92ca5baeff9a0725d53848950a582fa728b409604f", func := "signet/signetlaw15.ZoneTells", spec := "zoneTells", inPlace := ["internal/bytealg.abigen_runtime_cmpstring", "internal/bytealg.Compare", "slices.overlaps[signet/zone.datum]"], unfollowed := true, recurses := true, apart := false, narrowed := true }
def ZoneTellsUptoSaid : Prop := zoneTellsUptoRow.holds Tryz.pinned (OpenSpec.upto zoneTellsSpec)

/-- 'signetlaw15.ZoneCopies', WHERE WHAT IT READS IS OF BULK AT MOST 1048576: true; the input reads as it did. -/
def zoneCopiesUptoRow : OpenClaim := { program := "ytmbdoacafhljkaagreat", sum := "bd9951f813cf7e82d6fc4d92ca5baeff9a0725d53848950a582fa728b409604f", func := "signet/signetlaw15.ZoneCopies", spec := "zoneCopies", inPlace := ["internal/bytealg.abigen_runtime_cmpstring", "internal/bytealg.Compare", "slices.overlaps[signet/zone.datum]", "maps.clone"], unfollowed := true, recurses := true, apart := false, narrowed := true }
def ZoneCopiesUptoSaid : Prop := zoneCopiesUptoRow.holds Tryz.pinned (OpenSpec.upto zoneCopiesSpec)

/-- 'signetlaw17.UpdateAsks', WHERE WHAT IT READS IS OF BULK AT MOST 1048576: true; the input reads as it did. -/
def updateAsksUptoRow : OpenClaim := { program := "ytmbdoacafhljkaagreat", sum := "bd9951f813cf7e82d6fc4d92ca5baeff9a0725d53848950a582fa728b409604f", func := "signet/signetlaw17.UpdateAsks", spec := "updateAsks", inPlace := ["internal/bytealg.abigen_runtime_cmpstring", "internal/bytealg.Compare", "slices.overlaps[signet/zone.datum]", "maps.clone"], unfollowed := true, recurses := true, apart := false, narrowed := true }
def UpdateAsksUptoSaid : Prop := updateAsksUptoRow.holds Tryz.pinned (OpenSpec.upto updateAsksSpec)

/-- 'signetlaw17.UpdateGoes', WHERE WHAT IT READS IS OF BULK AT MOST 1048576: true; the input reads as it did. -/
def updateGoesUptoRow : OpenClaim := { program := "ytmbdoacafhljkaagreat", sum := "bd9951f813cf7e82d6fc4d92ca5baeff9a0725d53848950a582fa728b409604f", func := "signet/signetlaw17.UpdateGoes", spec := "updateGoes", inPlace := ["internal/bytealg.abigen_runtime_cmpstring", "internal/bytealg.Compare", "slices.overlaps[signet/zone.datum]", "maps.clone"], unfollowed := true, recurses := true, apart := false, narrowed := true }
def UpdateGoesUptoSaid : Prop := updateGoesUptoRow.holds Tryz.pinned (OpenSpec.upto updateGoesSpec)

/-- 'signetlaw17.UpdateKeeps', WHERE WHAT IT READS IS OF BULK AT MOST 1048576: true; the input reads as it did. -/
def updateKeepsUptoRow : OpenClaim := { program := "ytmbdoacafhljkaagreat", sum := "bd9951f813cf7e82d6fc4d92ca5baeff9a0725d53848950a582fa728b409604f", func := "signet/signetlaw17.UpdateKeeps", spec := "updateKeeps", inPlace := ["internal/bytealg.abigen_runtime_cmpstring", "internal/bytealg.Compare", "slices.overlaps[signet/zone.datum]", "maps.clone"], unfollowed := true, recurses := true, apart := false, narrowed := true }
def UpdateKeepsUptoSaid : Prop := updateKeepsUptoRow.holds Tryz.pinned (OpenSpec.upto updateKeepsSpec)

/-- 'signetlaw17.UpdateLeans', WHERE WHAT IT READS IS OF BULK AT MOST 1048576: true; the input reads as it did. -/
def updateLeansUptoRow : OpenClaim := { program := "ytmbdoacafhljkaagreat", sum := "bd9951f813cf7e82d6fc4d92ca5baeff9a0725d53848950a582fa728b409604f", func := "signet/signetlaw17.UpdateLeans", spec := "updateLeans", inPlace := ["internal/bytealg.abigen_runtime_cmpstring", "internal/bytealg.Compare", "slices.overlaps[signet/zone.datum]", "maps.clone"], unfollowed := true, recurses := true, apart := false, narrowed := true }
def UpdateLeansUptoSaid : Prop := updateLeansUptoRow.holds Tryz.pinned (OpenSpec.upto updateLeansSpec)

end Rows
end Go.Proofs.YtmbdoacafhljkaaGreat
