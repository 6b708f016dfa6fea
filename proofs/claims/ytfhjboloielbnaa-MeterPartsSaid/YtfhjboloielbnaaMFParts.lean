/-
  The walk of layer 10's law MeterParts, said of the arguments as they come.
-/
import Derived.Test.YtfhjboloielbnaaMFace
import Derived.Test.YtfhjboloielbnaaMParts
namespace Go.Proofs.Ytfhjboloielbnaa
open Go.RowKit
set_option linter.unusedVariables false
namespace Meter
theorem PartsI {a b c : Int} (ha : (Lit.int .u64 a).wf = true) (hb : (Lit.int .u64 b).wf = true) (hc : (Lit.int .u64 c).wf = true) (w : World) : Calls Try.prog 8 #[.int .u64 a, .int .u64 b, .int .u64 c] w fun e w' => e = .returned (.bool true) ∧ Below w.heap.size w w' := by
  obtain ⟨a', rfl, ha'⟩ := u64_nat ha
  obtain ⟨b', rfl, hb'⟩ := u64_nat hb
  obtain ⟨c', rfl, hc'⟩ := u64_nat hc
  exact MeterParts a' b' c' ha' hb' hc' w
end Meter
end Go.Proofs.Ytfhjboloielbnaa
