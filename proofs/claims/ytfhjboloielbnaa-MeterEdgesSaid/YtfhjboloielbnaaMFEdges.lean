/-
  The walk of layer 10's law MeterEdges, said of the arguments as they come.
-/
import Derived.Test.YtfhjboloielbnaaMFace
import Derived.Test.YtfhjboloielbnaaMParts
namespace Go.Proofs.Ytfhjboloielbnaa
open Go.RowKit
set_option linter.unusedVariables false
namespace Meter
theorem EdgesI {a b : Int} (ha : (Lit.int .u64 a).wf = true) (hb : (Lit.int .u8 b).wf = true) (w : World) : Calls Try.prog 9 #[.int .u64 a, .int .u8 b] w fun e w' => e = .returned (.bool true) ∧ Below w.heap.size w w' := by
  obtain ⟨a', rfl, ha'⟩ := u64_nat ha
  obtain ⟨b', rfl, hb'⟩ := u8_nat hb
  exact MeterEdges a' b' ha' w
end Meter
end Go.Proofs.Ytfhjboloielbnaa
