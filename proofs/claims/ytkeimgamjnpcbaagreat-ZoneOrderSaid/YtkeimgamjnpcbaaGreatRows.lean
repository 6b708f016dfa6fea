/-
  No cell of these rows narrows 'for every input' (looked for: loops, veiled, ifaces, maps, wideKeys, modest, calm, conditions, laid).
  DERIVED. THE GIVEN ROWS OF THIS SEAT. 9 by the template 'for every input the law returns true; each argument reads behind the call as it read before'; 0 by the template 'total and deterministic' (their statements: YtkeimgamjnpcbaaGreatTotals.lean).
  GIVEN WITH THE SEED: the statements are not yours to turn. If you find one false, say at which input.
  Laid BY PROGRAM, IN A SANDBOX (cutbox-rows.mjs): the forced cells as the released guide's own fill.sh prints them over the translation 0968c7acabdbd60b… (all of the seat's roots in one cut). By AI agents, Wed Nov 11 2026. No macro, syntax, notation, axiom, sorry.
-/
import Derived.Test.YtkeimgamjnpcbaaGreatChecked
import GoSem.Claim
import GoSem.ClaimJoined
import GoSem.ClaimMapViews
import Derived.JoinedTies
import Derived.KernelRfl
namespace Go.Proofs.YtkeimgamjnpcbaaGreat
/- THE CELL 'sum', in the pinned program and in every row, IS THE sha256 OF THE DUMP (.gsa) THAT YtkeimgamjnpcbaaGreatProg.lean LOADS. Nothing in Lean hashes anything: it is a label: what it is worth is what the hold of that sum in a sandbox is worth. -/
noncomputable def Tryz.pinned : Pinned := { name := "ytkeimgamjnpcbaagreat", sum := "0968c7acabdbd60be384a95a833b3c4e9b38568fe663c2fb76ab307250d41e5d", checked := Tryz.checked }
namespace Rows
def none {H : Type} : Left H := { results := [], args := [] }

/-- 'signetlaw19.CanonFresh': WHATEVER THE INPUT: true; the input reads as it did. -/
def canonFreshSpec : ChangeSpec := { name := "canonFresh", fn := fun _ => fun
  | [d1, d2, d3, d4, d5, d6] => { results := [.lit (.bool true)], args := [d1, d2, d3, d4, d5, d6] }
  | _ => none }
def canonFreshRow : OpenClaim := { program := "ytkeimgamjnpcbaagreat", sum := "0968c7acabdbd60be384a95a833b3c4e9b38568fe663c2fb76ab307250d41e5d", func := "signet/signetlaw19.CanonFresh", spec := "canonFresh", inPlace := ["internal/bytealg.Compare"], unfollowed := true, recurses := true, apart := false }
def CanonFreshSaid : Prop := canonFreshRow.holds Tryz.pinned (OpenSpec.ofChange canonFreshSpec)

/-- ITS FALSE NEIGHBOUR: 'it returns false'. Refute it at one input. -/
def canonFreshWrong : ChangeSpec := { name := "canonFresh", fn := fun _ => fun
  | [d1, d2, d3, d4, d5, d6] => { results := [.lit (.bool false)], args := [d1, d2, d3, d4, d5, d6] }
  | _ => none }
def CanonFreshWrongFalsely : Prop := canonFreshRow.holds Tryz.pinned (OpenSpec.ofChange canonFreshWrong)

/-- 'signetlaw19.CanonOrder': WHATEVER THE INPUT: true; the input reads as it did. -/
def canonOrderSpec : ChangeSpec := { name := "canonOrder", fn := fun _ => fun
  | [d1, d2, d3, d4] => { results := [.lit (.bool true)], args := [d1, d2, d3, d4] }
  | _ => none }
def canonOrderRow : OpenClaim := { program := "ytkeimgamjnpcbaagreat", sum := "0968c7acabdbd60be384a95a833b3c4e9b38568fe663c2fb76ab307250d41e5d", func := "signet/signetlaw19.CanonOrder", spec := "canonOrder", inPlace := ["internal/bytealg.Compare"], unfollowed := true, recurses := true, apart := false }
def CanonOrderSaid : Prop := canonOrderRow.holds Tryz.pinned (OpenSpec.ofChange canonOrderSpec)

/-- ITS FALSE NEIGHBOUR: 'it returns false'. Refute it at one input. -/
def canonOrderWrong : ChangeSpec := { name := "canonOrder", fn := fun _ => fun
  | [d1, d2, d3, d4] => { results := [.lit (.bool false)], args := [d1, d2, d3, d4] }
  | _ => none }
def CanonOrderWrongFalsely : Prop := canonOrderRow.holds Tryz.pinned (OpenSpec.ofChange canonOrderWrong)

/-- 'signetlaw19.CanonWild': WHATEVER THE INPUT: true; the input reads as it did. -/
def canonWildSpec : ChangeSpec := { name := "canonWild", fn := fun _ => fun
  | [d1, d2, d3, d4] => { results := [.lit (.bool true)], args := [d1, d2, d3, d4] }
  | _ => none }
def canonWildRow : OpenClaim := { program := "ytkeimgamjnpcbaagreat", sum := "0968c7acabdbd60be384a95a833b3c4e9b38568fe663c2fb76ab307250d41e5d", func := "signet/signetlaw19.CanonWild", spec := "canonWild", inPlace := ["internal/bytealg.Compare"], unfollowed := true, recurses := true, apart := false }
def CanonWildSaid : Prop := canonWildRow.holds Tryz.pinned (OpenSpec.ofChange canonWildSpec)

/-- ITS FALSE NEIGHBOUR: 'it returns false'. Refute it at one input. -/
def canonWildWrong : ChangeSpec := { name := "canonWild", fn := fun _ => fun
  | [d1, d2, d3, d4] => { results := [.lit (.bool false)], args := [d1, d2, d3, d4] }
  | _ => none }
def CanonWildWrongFalsely : Prop := canonWildRow.holds Tryz.pinned (OpenSpec.ofChange canonWildWrong)

/-- 'signetlaw15.ZoneFull': WHATEVER THE INPUT: true; the input reads as it did. -/
def zoneFullSpec : ChangeSpec := { name := "zoneFull", fn := fun _ => fun
  | [d1, d2] => { results := [.lit (.bool true)], args := [d1, d2] }
  | _ => none }
def zoneFullRow : OpenClaim := { program := "ytkeimgamjnpcbaagreat", sum := "0968c7acabdbd60be384a95a833b3c4e9b38568fe663c2fb76ab307250d41e5d", func := "signet/signetlaw15.ZoneFull", spec := "zoneFull", inPlace := ["internal/bytealg.abigen_runtime_cmpstring", "internal/bytealg.Compare", "slices.overlaps[signet/zone.datum]"], unfollowed := true, recurses := true, apart := false }
def ZoneFullSaid : Prop := zoneFullRow.holds Tryz.pinned (OpenSpec.ofChange zoneFullSpec)

/-- ITS FALSE NEIGHBOUR: 'it returns false'. Refute it at one input. -/
def zoneFullWrong : ChangeSpec := { name := "zoneFull", fn := fun _ => fun
  | [d1, d2] => { results := [.lit (.bool false)], args := [d1, d2] }
  | _ => none }
def ZoneFullWrongFalsely : Prop := zoneFullRow.holds Tryz.pinned (OpenSpec.ofChange zoneFullWrong)

/-- 'signetlaw15.ZoneOrder': WHATEVER THE INPUT: true; the input reads as it did. -/
def zoneOrderSpec : ChangeSpec := { name := "zoneOrder", fn := fun _ => fun
  | [d1, d2] => { results := [.lit (.bool true)], args := [d1, d2] }
  | _ => none }
def zoneOrderRow : OpenClaim := { program := "ytkeimgamjnpcbaagreat", sum := "0968c7acabdbd60be384a95a833b3c4e9b38568fe663c2fb76ab307250d41e5d", func := "signet/signetlaw15.ZoneOrder", spec := "zoneOrder", inPlace := ["internal/bytealg.abigen_runtime_cmpstring", "internal/bytealg.Compare", "slices.overlaps[signet/zone.datum]"], unfollowed := true, recurses := true, apart := false }
def ZoneOrderSaid : Prop := zoneOrderRow.holds Tryz.pinned (OpenSpec.ofChange zoneOrderSpec)

/-- ITS FALSE NEIGHBOUR: 'it returns false'. Refute it at one input. -/
def zoneOrderWrong : ChangeSpec := { name := "zoneOrder", fn := fun _ => fun
  | [d1, d2] => { results := [.lit (.bool false)], args := [d1, d2] }
  | _ => none }
def ZoneOrderWrongFalsely : Prop := zoneOrderRow.holds Tryz.pinned (OpenSpec.ofChange zoneOrderWrong)

/-- 'signetlaw15.ZonePlays': WHATEVER THE INPUT: true; the input reads as it did. -/
def zonePlaysSpec : ChangeSpec := { name := "zonePlays", fn := fun _ => fun
  | [d] => { results := [.lit (.bool true)], args := [d] }
  | _ => none }
def zonePlaysRow : OpenClaim := { program := "ytkeimgamjnpcbaagreat", sum := "0968c7acabdbd60be384a95a833b3c4e9b38568fe663c2fb76ab307250d41e5d", func := "signet/signetlaw15.ZonePlays", spec := "zonePlays", inPlace := ["internal/bytealg.abigen_runtime_cmpstring", "internal/bytealg.Compare", "slices.overlaps[signet/zone.datum]"], unfollowed := true, recurses := true, apart := false }
def ZonePlaysSaid : Prop := zonePlaysRow.holds Tryz.pinned (OpenSpec.ofChange zonePlaysSpec)

/-- ITS FALSE NEIGHBOUR: 'it returns false'. Refute it at one input. -/
def zonePlaysWrong : ChangeSpec := { name := "zonePlays", fn := fun _ => fun
  | [d] => { results := [.lit (.bool false)], args := [d] }
  | _ => none }
def ZonePlaysWrongFalsely : Prop := zonePlaysRow.holds Tryz.pinned (OpenSpec.ofChange zonePlaysWrong)

/-- 'signetlaw15.ZoneTwice': WHATEVER THE INPUT: true; the input reads as it did. -/
def zoneTwiceSpec : ChangeSpec := { name := "zoneTwice", fn := fun _ => fun
  | [d1, d2] => { results := [.lit (.bool true)], args := [d1, d2] }
  | _ => none }
def zoneTwiceRow : OpenClaim := { program := "ytkeimgamjnpcbaagreat", sum := "0968c7acabdbd60be384a95a833b3c4e9b38568fe663c2fb76ab307250d41e5d", func := "signet/signetlaw15.ZoneTwice", spec := "zoneTwice", inPlace := ["internal/bytealg.abigen_runtime_cmpstring", "internal/bytealg.Compare", "slices.overlaps[signet/zone.datum]"], unfollowed := true, recurses := true, apart := false }
def ZoneTwiceSaid : Prop := zoneTwiceRow.holds Tryz.pinned (OpenSpec.ofChange zoneTwiceSpec)

/-- ITS FALSE NEIGHBOUR: 'it returns false'. Refute it at one input. -/
def zoneTwiceWrong : ChangeSpec := { name := "zoneTwice", fn := fun _ => fun
  | [d1, d2] => { results := [.lit (.bool false)], args := [d1, d2] }
  | _ => none }
def ZoneTwiceWrongFalsely : Prop := zoneTwiceRow.holds Tryz.pinned (OpenSpec.ofChange zoneTwiceWrong)

/-- 'signetlaw15.ZoneTells': WHATEVER THE INPUT: true; the input reads as it did. -/
def zoneTellsSpec : ChangeSpec := { name := "zoneTells", fn := fun _ => fun
  | [d1, d2, d3, d4] => { results := [.lit (.bool true)], args := [d1, d2, d3, d4] }
  | _ => none }
def zoneTellsRow : OpenClaim := { program := "ytkeimgamjnpcbaagreat", sum := "0968c7acabdbd60be384a95a833b3c4e9b38568fe663c2fb76ab307250d41e5d", func := "signet/signetlaw15.ZoneTells", spec := "zoneTells", inPlace := ["internal/bytealg.abigen_runtime_cmpstring", "internal/bytealg.Compare", "slices.overlaps[signet/zone.datum]"], unfollowed := true, recurses := true, apart := false }
def ZoneTellsSaid : Prop := zoneTellsRow.holds Tryz.pinned (OpenSpec.ofChange zoneTellsSpec)

/-- ITS FALSE NEIGHBOUR: 'it returns false'. Refute it at one input. -/
def zoneTellsWrong : ChangeSpec := { name := "zoneTells", fn := fun _ => fun
  | [d1, d2, d3, d4] => { results := [.lit (.bool false)], args := [d1, d2, d3, d4] }
  | _ => none }
def ZoneTellsWrongFalsely : Prop := zoneTellsRow.holds Tryz.pinned (OpenSpec.ofChange zoneTellsWrong)

/-- 'signetlaw15.ZoneCopies': WHATEVER THE INPUT: true; the input reads as it did. -/
def zoneCopiesSpec : ChangeSpec := { name := "zoneCopies", fn := fun _ => fun
  | [d1, d2] => { results := [.lit (.bool true)], args := [d1, d2] }
  | _ => none }
def zoneCopiesRow : OpenClaim := { program := "ytkeimgamjnpcbaagreat", sum := "0968c7acabdbd60be384a95a833b3c4e9b38568fe663c2fb76ab307250d41e5d", func := "signet/signetlaw15.ZoneCopies", spec := "zoneCopies", inPlace := ["internal/bytealg.abigen_runtime_cmpstring", "internal/bytealg.Compare", "slices.overlaps[signet/zone.datum]", "maps.clone"], unfollowed := true, recurses := true, apart := false }
def ZoneCopiesSaid : Prop := zoneCopiesRow.holds Tryz.pinned (OpenSpec.ofChange zoneCopiesSpec)

/-- ITS FALSE NEIGHBOUR: 'it returns false'. Refute it at one input. -/
def zoneCopiesWrong : ChangeSpec := { name := "zoneCopies", fn := fun _ => fun
  | [d1, d2] => { results := [.lit (.bool false)], args := [d1, d2] }
  | _ => none }
def ZoneCopiesWrongFalsely : Prop := zoneCopiesRow.holds Tryz.pinned (OpenSpec.ofChange zoneCopiesWrong)

/- THE SECOND FORM. 'bulk': how many values and letters a reading holds, each counted each time it is reached (what is shared counts as often as it is met; a slice's spare places count too). A statement '..UptoSaid' is the law's where the arguments, and the package variables that the reading takes, are together of bulk at most 1048576: NARROWER than '..Said'. Prove '..Said' where nothing that the law and all that it calls make is longer than what came in: it says more and counts as full. Else prove '..UptoSaid'. A law counts once. -/
mutual
def uptoBulk {H : Type} : DataW H → Nat
  | .lit (.string bytes) => bytes.length + 1
  | .lit _ => 1
  | .nil => 1
  | .ptr d => uptoBulk d + 1
  | .slice elems spare => uptoBulkAll elems + uptoBulkAll spare + 1
  | .agg parts => uptoBulkAll parts + 1
  | .iface _ d => uptoBulk d + 1
  | .map entries => uptoBulkEntries entries + 1
  | .held _ => 1
def uptoBulkAll {H : Type} : List (DataW H) → Nat
  | [] => 0
  | d :: r => uptoBulk d + uptoBulkAll r
def uptoBulkEntries {H : Type} : List (Lit × DataW H) → Nat
  | [] => 0
  | x :: r => uptoBulkEntry x + uptoBulkEntries r
def uptoBulkEntry {H : Type} : Lit × DataW H → Nat
  | (.string bytes, d) => bytes.length + uptoBulk d + 1
  | (_, d) => uptoBulk d + 1
 end
def uptoSmall : (H : Type) → List (DataW H) → Bool := fun _ ds => decide (uptoBulkAll ds ≤ 1048576)
def OpenSpec.upto (s : _root_.Go.ChangeSpec) : _root_.Go.OpenSpec := { _root_.Go.OpenSpec.ofChange s with cond := some uptoSmall }

/-- 'signetlaw19.CanonFresh', WHERE WHAT IT READS IS OF BULK AT MOST 1048576: true; the input reads as it did. -/
def canonFreshUptoRow : OpenClaim := { program := "ytkeimgamjnpcbaagreat", sum := "0968c7acabdbd60be384a95a833b3c4e9b38568fe663c2fb76ab307250d41e5d", func := "signet/signetlaw19.CanonFresh", spec := "canonFresh", inPlace := ["internal/bytealg.Compare"], unfollowed := true, recurses := true, apart := false, narrowed := true }
def CanonFreshUptoSaid : Prop := canonFreshUptoRow.holds Tryz.pinned (OpenSpec.upto canonFreshSpec)

/-- 'signetlaw19.CanonOrder', WHERE WHAT IT READS IS OF BULK AT MOST 1048576: true; the input reads as it did. -/
def canonOrderUptoRow : OpenClaim := { program := "ytkeimgamjnpcbaagreat", sum := "0968c7acabdbd60be384a95a833b3c4e9b38568fe663c2fb76ab307250d41e5d", func := "signet/signetlaw19.CanonOrder", spec := "canonOrder", inPlace := ["internal/bytealg.Compare"], unfollowed := true, recurses := true, apart := false, narrowed := true }
def CanonOrderUptoSaid : Prop := canonOrderUptoRow.holds Tryz.pinned (OpenSpec.upto canonOrderSpec)

/-- 'signetlaw19.CanonWild', WHERE WHAT IT READS IS OF BULK AT MOST 1048576: true; the input reads as it did. -/
def canonWildUptoRow : OpenClaim := { program := "ytkeimgamjnpcbaagreat", sum := "0968c7acabdbd60be384a95a833b3c4e9b38568fe663c2fb76ab307250d41e5d", func := "signet/signetlaw19.CanonWild", spec := "canonWild", inPlace := ["internal/bytealg.Compare"], unfollowed := true, recurses := true, apart := false, narrowed := true }
def CanonWildUptoSaid : Prop := canonWildUptoRow.holds Tryz.pinned (OpenSpec.upto canonWildSpec)

/-- 'signetlaw15.ZoneFull', WHERE WHAT IT READS IS OF BULK AT MOST 1048576: true; the input reads as it did. -/
def zoneFullUptoRow : OpenClaim := { program := "ytkeimgamjnpcbaagreat", sum := "0968c7acabdbd60be384a95a833b3c4e9b38568fe663c2fb76ab307250d41e5d", func := "signet/signetlaw15.ZoneFull", spec := "zoneFull", inPlace := ["internal/bytealg.abigen_runtime_cmpstring", "internal/bytealg.Compare", "slices.overlaps[signet/zone.datum]"], unfollowed := true, recurses := true, apart := false, narrowed := true }
def ZoneFullUptoSaid : Prop := zoneFullUptoRow.holds Tryz.pinned (OpenSpec.upto zoneFullSpec)

/-- 'signetlaw15.ZoneOrder', WHERE WHAT IT READS IS OF BULK AT MOST 1048576: true; the input reads as it did. -/
def zoneOrderUptoRow : OpenClaim := { program := "ytkeimgamjnpcbaagreat", sum := "0968c7acabdbd60be384a95a833b3c4e9b38568fe663c2fb76ab307250d41e5d", func := "signet/signetlaw15.ZoneOrder", spec := "zoneOrder", inPlace := ["internal/bytealg.abigen_runtime_cmpstring", "internal/bytealg.Compare", "slices.overlaps[signet/zone.datum]"], unfollowed := true, recurses := true, apart := false, narrowed := true }
def ZoneOrderUptoSaid : Prop := zoneOrderUptoRow.holds Tryz.pinned (OpenSpec.upto zoneOrderSpec)

/-- 'signetlaw15.ZonePlays', WHERE WHAT IT READS IS OF BULK AT MOST 1048576: true; the input reads as it did. -/
def zonePlaysUptoRow : OpenClaim := { program := "ytkeimgamjnpcbaagreat", sum := "0968c7acabdbd60be384a95a833b3c4e9b38568fe663c2fb76ab307250d41e5d", func := "signet/signetlaw15.ZonePlays", spec := "zonePlays", inPlace := ["internal/bytealg.abigen_runtime_cmpstring", "internal/bytealg.Compare", "slices.overlaps[signet/zone.datum]"], unfollowed := true, recurses := true, apart := false, narrowed := true }
def ZonePlaysUptoSaid : Prop := zonePlaysUptoRow.holds Tryz.pinned (OpenSpec.upto zonePlaysSpec)

/-- 'signetlaw15.ZoneTwice', WHERE WHAT IT READS IS OF BULK AT MOST 1048576: true; the input reads as it did. -/
def zoneTwiceUptoRow : OpenClaim := { program := "ytkeimgamjnpcbaagreat", sum := "0968c7acabdbd60be384a95a833b3c4e9b38568fe663c2fb76ab307250d41e5d", func := "signet/signetlaw15.ZoneTwice", spec := "zoneTwice", inPlace := ["internal/bytealg.abigen_runtime_cmpstring", "internal/bytealg.Compare", "slices.overlaps[signet/zone.datum]"], unfollowed := true, recurses := true, apart := false, narrowed := true }
def ZoneTwiceUptoSaid : Prop := zoneTwiceUptoRow.holds Tryz.pinned (OpenSpec.upto zoneTwiceSpec)

/-- 'signetlaw15.ZoneTells', WHERE WHAT IT READS IS OF BULK AT MOST 1048576: true; the input reads as it did. -/
def zoneTellsUptoRow : OpenClaim := { program := "ytkeimgamjnpcbaagreat", sum := "0968c7acabdbd60be384a95a833b3c4e9b38568fe663c2fb76ab307250d41e5d", func := "signet/signetlaw15.ZoneTells", spec := "zoneTells", inPlace := ["internal/bytealg.abigen_runtime_cmpstring", "internal/bytealg.Compare", "slices.overlaps[signet/zone.datum]"], unfollowed := true, recurses := true, apart := false, narrowed := true }
def ZoneTellsUptoSaid : Prop := zoneTellsUptoRow.holds Tryz.pinned (OpenSpec.upto zoneTellsSpec)

/-- 'signetlaw15.ZoneCopies', WHERE WHAT IT READS IS OF BULK AT MOST 1048576: true; the input reads as it did. -/
def zoneCopiesUptoRow : OpenClaim := { program := "ytkeimgamjnpcbaagreat", sum := "0968c7acabdbd60be384a95a833b3c4e9b38568fe663c2fb76ab307250d41e5d", func := "signet/signetlaw15.ZoneCopies", spec := "zoneCopies", inPlace := ["internal/bytealg.abigen_runtime_cmpstring", "internal/bytealg.Compare", "slices.overlaps[signet/zone.datum]", "maps.clone"], unfollowed := true, recurses := true, apart := false, narrowed := true }
def ZoneCopiesUptoSaid : Prop := zoneCopiesUptoRow.holds Tryz.pinned (OpenSpec.upto zoneCopiesSpec)

end Rows
end Go.Proofs.YtkeimgamjnpcbaaGreat
