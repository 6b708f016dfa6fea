/-
  The walk of signetlaw10.MeterOrders.
-/
import Derived.Test.YtfhjboloielbnaaMKnow2
namespace Go.Proofs.Ytfhjboloielbnaa
open Go.RowKit
set_option linter.unusedVariables false
namespace Meter
open Flt

theorem cmp3_three (a b : Int) : cmp3 a b = -1 ∨ cmp3 a b = 0 ∨ cmp3 a b = 1 := by unfold cmp3; (repeat' split) <;> omega
theorem cmp3_neg' (a b : Int) : cmp3 b a = -cmp3 a b := by unfold cmp3; (repeat' split) <;> omega
theorem cmp3_zero (a b : Int) : cmp3 a b = 0 ↔ a = b := by unfold cmp3; (repeat' split) <;> omega
theorem cmp3_tr (a b c : Int) (h : cmp3 a b ≤ 0) (k : cmp3 b c ≤ 0) : cmp3 a c ≤ 0 := by unfold cmp3 at *; (repeat' split at h) <;> (repeat' split at k) <;> (repeat' split) <;> omega
theorem ord_ab {a b : Nat} {x : Int} (h : ordI a b = x) (ha : W64 a) (hb : W64 b) (w : World) : Calls Try.prog 11 #[.float .f64 a, .float .f64 b] w fun e w' => e = .returned (.int .i64 x) ∧ w = w' := h ▸ Order a b ha hb w
theorem ref_ab {a b : Nat} {x : Int} (h : ordI a b = x) (ha : W64 a) (hb : W64 b) (w : World) : Calls Try.prog 13 #[.float .f64 a, .float .f64 b] w fun e w' => e = .returned (.int .i64 x) ∧ w = w' := h ▸ RefOrder a b ha hb w

set_option maxHeartbeats 2000000 in
theorem MeterOrders (a b c : Nat) (ha : W64 a) (hb : W64 b) (hc : W64 c) (w : World) : Calls Try.prog 3 #[.int .u64 a, .int .u64 b, .int .u64 c] w fun e w' => e = .returned (.bool true) ∧ Below w.heap.size w w' := by
  obtain ⟨x, hx⟩ : ∃ x, ordI a b = x := ⟨_, rfl⟩
  obtain ⟨y, hy⟩ : ∃ y, ordI b c = y := ⟨_, rfl⟩
  obtain ⟨z, hz⟩ : ∃ z, ordI a c = z := ⟨_, rfl⟩
  have hx3 : x = -1 ∨ x = 0 ∨ x = 1 := hx ▸ cmp3_three _ _
  have hy3 : y = -1 ∨ y = 0 ∨ y = 1 := hy ▸ cmp3_three _ _
  have hz3 : z = -1 ∨ z = 0 ∨ z = 1 := hz ▸ cmp3_three _ _
  have hn : ordI b a = -x := hx ▸ cmp3_neg' _ _
  have hbit : ((bitsT a : Int) == (bitsT b : Int)) = decide (x = 0) := by
    rw [Bool.eq_iff_iff, beq_iff_eq, decide_eq_true_eq]
    have h1 := okey_inj ha hb
    have h2 := cmp3_zero (okey a) (okey b)
    have h3 : cmp3 (okey a) (okey b) = x := hx
    rw [h3] at h2
    constructor
    · intro h; exact h2.2 (h1.2 (by omega))
    · intro h; have := h1.1 (h2.1 h); omega
  have htr : x ≤ 0 → y ≤ 0 → z ≤ 0 := by
    intro h k
    have := cmp3_tr (okey a) (okey b) (okey c) (by show ordI a b ≤ 0; omega) (by show ordI b c ≤ 0; omega)
    show z ≤ 0
    rw [← hz]; exact this
  have cab := fun w => ord_ab hx ha hb w
  have rab := fun w => ref_ab hx ha hb w
  have cbc := fun w => ord_ab hy hb hc w
  have cac := fun w => ord_ab hz ha hc w
  have cba := fun w => ord_ab hn hb ha w
  clear hx hy hz hn
  rcases hx3 with rfl | rfl | rfl <;> rcases hy3 with rfl | rfl | rfl <;> rcases hz3 with rfl | rfl | rfl <;> first
    | (exfalso; have := htr (by omega) (by omega); omega)
    | ((try simp only [Int.neg_neg, Int.neg_zero] at cba)
       simp at hbit
       clear htr
       go_enter Try.func3, Try.ntmps3
       go_wp2_with (first
         | (go_at_call 10; refine (known _).mono ?_; rintro e w1 ⟨rfl, hb1⟩)
         | (go_at_call 12; refine (at_ _ _).mono ?_; rintro e w' ⟨rfl, rfl⟩)
         | (go_at_call 11; ((with_reducible refine (cab _).mono ?_); rintro e w' ⟨rfl, rfl⟩))
         | (go_at_call 11; ((with_reducible refine (cbc _).mono ?_); rintro e w' ⟨rfl, rfl⟩))
         | (go_at_call 11; ((with_reducible refine (cac _).mono ?_); rintro e w' ⟨rfl, rfl⟩))
         | (go_at_call 11; ((with_reducible refine (cba _).mono ?_); rintro e w' ⟨rfl, rfl⟩))
         | (go_at_call 13; ((with_reducible refine (rab _).mono ?_); rintro e w' ⟨rfl, rfl⟩))
         | (go_at_call 14; refine (Bits _ _).mono ?_; rintro e w' ⟨rfl, rfl⟩)
         | (go_at_call 15; refine (RefBits _ _).mono ?_; rintro e w' ⟨rfl, rfl⟩))
       go_ret
       exact ⟨rfl, hb1⟩)

end Meter
end Go.Proofs.Ytfhjboloielbnaa
