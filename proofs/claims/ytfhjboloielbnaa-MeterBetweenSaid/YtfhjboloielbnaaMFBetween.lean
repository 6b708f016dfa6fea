/-
  The walk of layer 10's law MeterBetween, said of the arguments as they come.
-/
import Derived.Test.YtfhjboloielbnaaMFace
import Derived.Test.YtfhjboloielbnaaMBetween
namespace Go.Proofs.Ytfhjboloielbnaa
open Go.RowKit
set_option linter.unusedVariables false
namespace Meter
theorem BetweenI {A : Option Addr} {l : List Int} {cap : Nat} {k : Int} {w : World} (hc : Cs w A (l.map (Value.int .i16))) (hl : ∀ n ∈ l, (Lit.int .i16 n).wf = true) (hk : (Lit.int .u8 k).wf = true) :
    Calls Try.prog 5 #[.slice A l.length cap, .int .u8 k] w fun e w' => e = .returned (.bool true) ∧ Below w.heap.size w w' := by
  obtain ⟨k', rfl, hk'⟩ := u8_nat hk
  exact MeterBetween A l cap k' w hc (fun x hx => i16_in (hl x hx)) hk'
end Meter
end Go.Proofs.Ytfhjboloielbnaa
