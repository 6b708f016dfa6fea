/-
  Contracts of package name: Same, Within; the order of names.
-/
import Derived.Test.YtkeimgamjnpcbaaGreatCmp
namespace Go.Proofs.YtkeimgamjnpcbaaGreat
open Go.RowKit
set_option linter.unusedVariables false
namespace Nm
theorem cb_zero : ∀ (a b : Lab), Lib.compareBytes a b = 0 ↔ a = b
  | [], [] => by simp [Lib.compareBytes]
  | [], _ :: _ => by simp [Lib.compareBytes]
  | _ :: _, [] => by simp [Lib.compareBytes]
  | x :: a, y :: b => by
    unfold Lib.compareBytes
    have ih := cb_zero a b
    by_cases h1 : x < y
    · rw [if_pos h1]
      constructor
      · intro h; cases h
      · intro h; cases h; exact absurd h1 (UInt8.lt_irrefl x)
    · rw [if_neg h1]
      by_cases h2 : y < x
      · rw [if_pos h2]
        constructor
        · intro h; cases h
        · intro h; cases h; exact absurd h2 (UInt8.lt_irrefl x)
      · rw [if_neg h2, ih]
        have hxy : x = y := by
          rw [UInt8.lt_iff_toNat_lt] at h1 h2
          exact UInt8.toNat_inj.1 (by omega)
        constructor
        · intro h; rw [h, hxy]
        · intro h; injection h
theorem cmpR_zero : ∀ (a b : List Lab), cmpR a b = 0 ↔ lower a = lower b
  | [], [] => by simp [cmpR]
  | [], _ :: _ => by simp [cmpR, lower]
  | _ :: _, [] => by simp [cmpR, lower]
  | x :: a, y :: b => by
    unfold cmpR
    have ih := cmpR_zero a b
    have e : lower (x :: a) = lower (y :: b) ↔ low x = low y ∧ lower a = lower b := by simp [lower]
    rw [e]
    split
    · rename_i h
      rw [ih, ← cb_zero]
      simp [h]
    · rename_i h
      rw [cb_zero] at h
      constructor
      · intro h2; rw [cb_zero] at h2; exact absurd h2 h
      · intro h2; exact absurd h2.1 h
theorem cmpN_zero (a b : List Lab) : cmpN a b = 0 ↔ lower a = lower b := by
  unfold cmpN
  rw [cmpR_zero]
  unfold lower
  rw [List.map_reverse, List.map_reverse, List.reverse_inj]
def same (a b : List Lab) : Bool := cmpN a b == 0
theorem same_iff (a b : List Lab) : same a b = true ↔ lower a = lower b := by unfold same; rw [beq_iff_eq, cmpN_zero]
def within (n apex : List Lab) : Bool := decide (apex.length ≤ n.length) && same (n.drop (n.length - apex.length)) apex
theorem within_iff (n apex : List Lab) : within n apex = true ↔ apex.length ≤ n.length ∧ lower (n.drop (n.length - apex.length)) = lower apex := by
  unfold within
  rw [Bool.and_eq_true, decide_eq_true_eq, same_iff]
theorem Same (A B : Option Addr) (a b : List Lab) (ca cb : Nat) (w : World) (hca : Cs w A (a.map strV)) (hcb : Cs w B (b.map strV)) (ha : Few a) (hb : Few b) :
    Calls Tryz.prog 103 #[.slice A a.length ca, .slice B b.length cb] w fun e w' => Below w.heap.size w w' ∧ e = .returned (.bool (same a b)) := by
  have hc := Compare A B a b ca cb w hca hcb ha hb
  unfold same
  generalize cmpN a b = c at *
  go_enter Tryz.func103, Tryz.ntmps103
  go_wp2_with fail
  refine hc.mono ?_
  rintro e w' ⟨hb, rfl⟩
  go_wp2_with fail
  go_ret
  exact ⟨hb, rfl⟩
set_option maxRecDepth 100000 in
set_option maxHeartbeats 2000000 in
theorem Within (A B : Option Addr) (a b : List Lab) (ca cb : Nat) (w : World) (hca : Cs w A (a.map strV)) (hcb : Cs w B (b.map strV)) (ha : Few a) (hb : Few b) (hcap : a.length ≤ ca) (hcap2 : ca ≤ maxLen) :
    Calls Tryz.prog 66 #[.slice A a.length ca, .slice B b.length cb] w fun e w' => Below w.heap.size w w' ∧ e = .returned (.bool (within a b)) := by
  unfold maxLen at hcap2
  have hla := ha.1
  have hlb := hb.1
  by_cases h : b.length ≤ a.length
  · have hd := hca.drop' (a.length - b.length) ca (by simpa using hcap)
    rw [← List.map_drop] at hd
    have hdl : (a.drop (a.length - b.length)).length = a.length - (a.length - b.length) := List.length_drop
    have HW : Hid (within a b = same (a.drop (a.length - b.length)) b) := Lib.hid (by unfold within; simp [h])
    have hS := fun A' c' (hA' : Cs w A' ((a.drop (a.length - b.length)).map strV)) => Same A' B (a.drop (a.length - b.length)) b c' cb w hA' hcb (ha.drop _) hb
    rw [hdl] at hS
    have hge : decide (b.length ≤ a.length) = true := by simpa using h
    clear hdl
    have HS := Lib.hid hS
    have HD := Lib.hid hd
    clear hS hd ha hb hca hcb
    generalize same (a.drop (a.length - b.length)) b = s at *
    go_enter Tryz.func66, Tryz.ntmps66
    go_wp2_with fail
    all_goals
      have HD2 := HD.out
      simp only [h, if_true, if_false] at HD2
      refine (HS.out _ _ HD2).mono ?_
      rintro e w' ⟨hb5, rfl⟩
      go_wp2_with fail
      go_ret
      exact ⟨hb5, by rw [HW.out]; rfl⟩
  · have HW : Hid (within a b = false) := Lib.hid (by unfold within; simp [h])
    have hge : decide (b.length ≤ a.length) = false := by simpa using h
    go_enter Tryz.func66, Tryz.ntmps66
    go_wp2_with fail
    go_ret
    exact ⟨Below.refl _ _, by rw [HW.out]; rfl⟩
end Nm
end Go.Proofs.YtkeimgamjnpcbaaGreat
