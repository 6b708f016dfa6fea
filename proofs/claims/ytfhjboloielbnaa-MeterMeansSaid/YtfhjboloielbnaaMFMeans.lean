/-
  The walk of layer 10's law MeterMeans, said of the arguments as they come.
-/
import Derived.Test.YtfhjboloielbnaaMFace
import Derived.Test.YtfhjboloielbnaaMMeans
namespace Go.Proofs.Ytfhjboloielbnaa
open Go.RowKit
set_option linter.unusedVariables false
namespace Meter
theorem MeansI {A : Option Addr} {l : List Int} {cap : Nat} {q : Int} {w : World} (hc : Cs w A (l.map (Value.int .u64))) (hl : ∀ n ∈ l, (Lit.int .u64 n).wf = true) (hq : (Lit.int .u64 q).wf = true) :
    Calls Try.prog 6 #[.slice A l.length cap, .int .u64 q] w fun e w' => e = .returned (.bool true) ∧ Below w.heap.size w w' := by
  obtain ⟨q', rfl, hq'⟩ := u64_nat hq
  obtain ⟨l', rfl, hl'⟩ := words_of hl
  have h := MeterMeans A l' cap q' w (cs_words hc) hl' hq'
  rw [List.length_map]; exact h
end Meter
end Go.Proofs.Ytfhjboloielbnaa
