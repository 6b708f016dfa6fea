/-
  The walk of layer 10's law MeterRanks, said of the arguments as they come.
-/
import Derived.Test.YtfhjboloielbnaaMFace
import Derived.Test.YtfhjboloielbnaaMRanks
namespace Go.Proofs.Ytfhjboloielbnaa
open Go.RowKit
set_option linter.unusedVariables false
namespace Meter
theorem RanksI {A : Option Addr} {l : List Int} {cap : Nat} {p q : Int} {w : World} (hc : Cs w A (l.map (Value.int .u64))) (hl : ∀ n ∈ l, (Lit.int .u64 n).wf = true) (hp : (Lit.int .u8 p).wf = true) (hq : (Lit.int .u8 q).wf = true) :
    Calls Try.prog 4 #[.slice A l.length cap, .int .u8 p, .int .u8 q] w fun e w' => e = .returned (.bool true) ∧ Below w.heap.size w w' := by
  obtain ⟨p', rfl, hp'⟩ := u8_nat hp
  obtain ⟨q', rfl, hq'⟩ := u8_nat hq
  obtain ⟨l', rfl, hl'⟩ := words_of hl
  have h := MeterRanks A l' cap p' q' w (cs_words hc) hl' (by omega) (by omega)
  rw [List.length_map]; exact h
end Meter
end Go.Proofs.Ytfhjboloielbnaa
