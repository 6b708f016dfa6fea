/-
  Contracts of signetlaw10's helps: a row of words as numbers, Copysign, Inf.
-/
import Derived.Test.YtfhjboloielbnaaRefRank
import Derived.Outline
namespace Go.Proofs.Ytfhjboloielbnaa
open Go.RowKit
set_option linter.unusedVariables false
namespace Meter
open Flt

theorem cs_new (w : World) (T : TypeId) (xs : List Value) (q : Nat × Nat) : Cs (w.alloc (.cells xs.toArray T q)) (some ⟨w.heap.size, 0, none⟩) xs := by
  intro i u hu
  refine ⟨w.heap.size, 0, rfl, by simp, ?_⟩
  rw [Nat.zero_add, cell_of_row _ w.heap.size i _ T q (heap_alloc_new w _)]
  simpa using hu
def word64 (n : Nat) : Value := .int .u64 (n : Int)
theorem Cs.word {w : World} {A : Option Addr} {l : List Nat} (h : Cs w A (l.map word64)) {i : Nat} (hi : i < l.length) :
    ∃ b off, A = some ⟨b, off, none⟩ ∧ b < w.heap.size ∧ w.cell? ⟨b, off + i, none⟩ = some (.int .u64 (l[i] : Int)) := by
  refine h i _ ?_
  simp [word64, hi]
theorem Cs.own' {w : World} {base n : Nat} {e : TypeId} {v : Value} {xs : List Value} (h : w.ownsRow base e 1 v n xs) :
    ∃ A cap, v = .slice A n cap ∧ Cs w A xs := by
  obtain ⟨A, cap, h1, _, h2⟩ := Cs.of_own h
  exact ⟨A, cap, h1, h2⟩

def AllR (l : List Nat) (w : World) (v i : Value) (wr : World) : Prop :=
  ∃ k : Nat, k ≤ l.length ∧ i = .int .i64 k ∧ wr.ownsRow w.heap.size 25 1 v k ((l.take k).map fV) ∧ Below w.heap.size w wr
set_option maxHeartbeats 1000000 in
theorem all (A : Option Addr) (l : List Nat) (cap : Nat) (w : World) (hc : Cs w A (l.map word64)) (hl : l.length ≤ 1000000) :
    Calls Try.prog 22 #[.slice A l.length cap] w fun e w' => (∃ A' cap', e = .returned (.slice A' l.length cap') ∧ Cs w' A' (l.map fV)) ∧ Below w.heap.size w w' := by
  obtain ⟨i0, hi, hz0, hz1, hz2⟩ := info_parts info_f64
  go_enter Try.func22, Try.ntmps22
  go_wp2
  go_loopw [3, 4] (AllR l w) (fun _ i _ => l.length - (intOf i).toNat)
  case atStart => exact ⟨0, Nat.zero_le _, rfl, World.ownsRow_nil _ _ _ _, Below.refl _ _⟩
  case round =>
    obtain ⟨k, hk, rfl, hown, hbel⟩ := hrel
    by_cases hlt : k < l.length
    · obtain ⟨bk, off, rfl, hbl, hc0⟩ := Cs.word hc hlt
      have hc1 := (hbel.cell (p := ⟨bk, off + k, none⟩) hbl).trans hc0
      go_wp2_with (first | (go_at_call 12; refine (at_ _ _).mono ?_; rintro e w' ⟨rfl, rfl⟩) | (at_builtin; refine wpList_push2 hown hbel.size [fV l[k]] rfl (by simp [fV, Value.oneCell']) hi hz0 hz1 hz2 rfl (by decide) rfl _ _ 30 Try.underlying30 rfl rfl rfl (by unfold maxLen; omega) (by omega) ?_; intro v4 w4 hown4 hbw4; have hbw5 := hbel.trans hbw4))
      refine ⟨⟨k + 1, by omega, by go_num, ?_, hbw5⟩, by simp [intOf]; omega⟩
      rw [List.take_succ_eq_append_getElem hlt, List.map_append]; exact hown4
    · have hkl : k = l.length := by omega
      rw [hkl, List.take_length] at hown
      obtain ⟨A2, cap2, rfl, hc2⟩ := Cs.own' hown
      clear hkl
      go_wp2
      go_ret
      exact ⟨⟨_, _, rfl, hc2⟩, hbel⟩

set_option maxHeartbeats 1000000 in
theorem CopysignNeg0 (w : World) : Calls Try.prog 30 #[.float .f64 0, .float .f64 13830554455654793216] w fun e w' => e = .returned (.float .f64 9223372036854775808) ∧ w = w' := by
  have g1 : ∀ w, (callFunc 35 #[.float .f64 0]).run Try.prog w = .ok (.value (.int .u64 0)) w := fun w => f64bits 0 w
  have g1b : ∀ w, (callFunc 35 #[.float .f64 13830554455654793216]).run Try.prog w = .ok (.value (.int .u64 13830554455654793216)) w := fun w => f64bits 13830554455654793216 w
  have g2 : ∀ w, (callFunc 33 #[.int .u64 9223372036854775808]).run Try.prog w = .ok (.value (.float .f64 9223372036854775808)) w := fun w => f64from 9223372036854775808 w
  have e1 : bits .andNot .u64 0 9223372036854775808 = 0 := by decide
  have e2 : bits .and .u64 13830554455654793216 9223372036854775808 = 9223372036854775808 := by decide
  have e3 : bits .or .u64 0 9223372036854775808 = 9223372036854775808 := by decide
  go_enter Try.func30, Try.ntmps30
  go_wp2
  go_ret
  exact ⟨rfl, rfl⟩
set_option maxHeartbeats 1000000 in
theorem Inf1 (w : World) : Calls Try.prog 28 #[.int .i64 1] w fun e w' => e = .returned (.float .f64 9218868437227405312) ∧ w = w' := by
  have g2 : ∀ w, (callFunc 33 #[.int .u64 9218868437227405312]).run Try.prog w = .ok (.value (.float .f64 9218868437227405312)) w := fun w => f64from 9218868437227405312 w
  go_enter Try.func28, Try.ntmps28
  go_wp2
  go_ret
  exact ⟨rfl, rfl⟩
set_option maxHeartbeats 1000000 in
theorem InfNeg (w : World) : Calls Try.prog 28 #[.int .i64 (-1)] w fun e w' => e = .returned (.float .f64 18442240474082181120) ∧ w = w' := by
  have g2 : ∀ w, (callFunc 33 #[.int .u64 18442240474082181120]).run Try.prog w = .ok (.value (.float .f64 18442240474082181120)) w := fun w => f64from 18442240474082181120 w
  go_enter Try.func28, Try.ntmps28
  go_wp2
  go_ret
  exact ⟨rfl, rfl⟩

end Meter
end Go.Proofs.Ytfhjboloielbnaa
