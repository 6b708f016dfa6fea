/-
  Contracts of package meter's small functions, and of their references.
-/
import Derived.Test.YtfhjboloielbnaaFloat
import Derived.Test.YtfhjboloielbnaaMem
import Derived.Lib.Hide
namespace Go.Proofs.Ytfhjboloielbnaa
open Go.RowKit
set_option linter.unusedVariables false
namespace Meter
open Flt

theorem selfNaN (b : Nat) : (FloatKind.f64.format.order b b != some .eq) = isNaN b := by
  show (ordF b b != some .eq) = _
  cases h : isNaN b
  · rw [ordF_key h h]; simp [compare, compareOfLessAndEq]
  · rw [ordF_nan_left h]; rfl

set_option maxHeartbeats 400000 in
theorem IsNaN (b : Nat) (w : World) : Calls Try.prog 31 #[.float .f64 b] w fun e w' => e = .returned (.bool (isNaN b)) ∧ w = w' := by
  have h := selfNaN b
  go_enter Try.func31, Try.ntmps31
  go_wp2
  go_ret
  exact ⟨rfl, rfl⟩

theorem f64bits (b : Nat) (w : World) : (callFunc 35 #[.float .f64 b]).run Try.prog w = .ok (.value (.int .u64 b)) w := by kernel_rfl
theorem f64from (n : Nat) (w : World) : (callFunc 33 #[.int .u64 n]).run Try.prog w = .ok (.value (.float .f64 n)) w := by kernel_rfl
theorem f64nan (w : World) : (callFunc 33 #[.int .u64 9221120237041090561]).run Try.prog w = .ok (.value (.float .f64 9221120237041090561)) w := f64from 9221120237041090561 w

set_option maxHeartbeats 400000 in
theorem Signbit (b : Nat) (hb : b < 18446744073709551616) (w : World) : Calls Try.prog 32 #[.float .f64 b] w fun e w' => e = .returned (.bool (neg b)) ∧ w = w' := by
  have h1 := f64bits
  go_enter Try.func32, Try.ntmps32
  go_wp2
  go_ret
  refine ⟨ret_bool ?_, rfl⟩
  have : neg b = decide (9223372036854775808 ≤ b) := by unfold neg; rw [Bool.eq_iff_iff]; simp; omega
  rw [this, decide_eq_decide]
  unfold wrap64
  omega
set_option maxHeartbeats 400000 in
theorem MathNaN (w : World) : Calls Try.prog 29 #[] w fun e w' => e = .returned (.float .f64 9221120237041090561) ∧ w = w' := by
  have h1 := f64nan
  go_enter Try.func29, Try.ntmps29
  go_wp2
  go_ret
  exact ⟨rfl, rfl⟩
set_option maxHeartbeats 400000 in
theorem nan_ (w : World) : Calls Try.prog 37 #[] w fun e w' => e = .returned (.float .f64 9221120237041090561) ∧ w = w' := by
  have h1 := f64nan
  go_enter Try.func37, Try.ntmps37
  go_wp2
  go_ret
  exact ⟨rfl, rfl⟩

theorem cmp3_eq {x y : Int} (h : x = y) : cmp3 x y = 0 := by unfold cmp3; rw [if_neg (by omega), if_neg (by omega)]
theorem cmp3_lt {x y : Int} (h : x < y) : cmp3 x y = -1 := by unfold cmp3; rw [if_pos h]
theorem cmp3_gt {x y : Int} (h : y < x) : cmp3 x y = 1 := by unfold cmp3; rw [if_neg (by omega), if_pos h]
/-- the three ways of two words that are numbers -/
theorem ord_cases {a b : Nat} (ha : isNaN a = false) (hb : isNaN b = false) :
    (FloatKind.f64.format.order a b = some .lt ∧ ordI a b = -1) ∨ (FloatKind.f64.format.order a b = some .gt ∧ ordI a b = 1) ∨
    (FloatKind.f64.format.order a b = some .eq ∧ ordI a b = (if neg a == neg b then 0 else if neg a then -1 else 1)) := by
  have h := ordF_key ha hb
  unfold ordF at h
  have ra := rung_lt a
  have rb := rung_lt b
  rcases Int.lt_trichotomy (key a) (key b) with g | g | g
  · refine .inl ⟨by rw [h, cmp_is_lt g], ?_⟩
    unfold ordI cmp3 okey
    rw [ha, hb]
    simp only [Bool.false_eq_true, if_false]
    rw [if_pos]
    split <;> split <;> omega
  · refine .inr (.inr ⟨by rw [h, g]; simp [compare, compareOfLessAndEq], ?_⟩)
    unfold ordI okey
    rw [ha, hb, g]
    simp only [Bool.false_eq_true, if_false]
    cases neg a <;> cases neg b
    · exact cmp3_eq rfl
    · exact cmp3_gt (by simp only [Bool.false_eq_true, if_false, if_true]; omega)
    · exact cmp3_lt (by simp only [Bool.false_eq_true, if_false, if_true]; omega)
    · exact cmp3_eq rfl
  · refine .inr (.inl ⟨by rw [h, cmp_is_gt g], ?_⟩)
    unfold ordI cmp3 okey
    rw [ha, hb]
    simp only [Bool.false_eq_true, if_false]
    rw [if_neg, if_pos]
    · split <;> split <;> omega
    · split <;> split <;> omega
theorem ordI_nn {a b : Nat} (ha : isNaN a = true) (hb : isNaN b = true) : ordI a b = 0 := by unfold ordI cmp3 okey; rw [ha, hb]; simp
theorem ordI_n {a b : Nat} (ha : isNaN a = true) (hb : isNaN b = false) : ordI a b = 1 := by
  have h := okey_lt hb
  unfold ordI cmp3
  have : okey a = 36893488147419103232 := by unfold okey; rw [ha]; rfl
  rw [this, if_neg (by omega), if_pos (by omega)]
theorem ordI_nb {a b : Nat} (ha : isNaN a = false) (hb : isNaN b = true) : ordI a b = -1 := by
  have h := okey_lt ha
  unfold ordI cmp3
  have : okey b = 36893488147419103232 := by unfold okey; rw [hb]; rfl
  rw [this, if_pos (by omega)]

def W64 (b : Nat) : Prop := b < 18446744073709551616

set_option maxHeartbeats 1000000 in
theorem Order (a b : Nat) (ha : W64 a) (hb : W64 b) (w : World) : Calls Try.prog 11 #[.float .f64 a, .float .f64 b] w fun e w' => e = .returned (.int .i64 (ordI a b)) ∧ w = w' := by
  cases na : isNaN a <;> cases nb : isNaN b
  · rcases ord_cases na nb with ⟨h1, h2⟩ | ⟨h1, h2⟩ | ⟨h1, h2⟩
    · have H := Lib.hid h2
      clear h2
      go_enter Try.func11, Try.ntmps11
      go_wp2_with (first | (go_at_call 31; refine (IsNaN _ _).mono ?_; rintro e w' ⟨rfl, rfl⟩) | (go_at_call 32; refine (Signbit _ (by assumption) _).mono ?_; rintro e w' ⟨rfl, rfl⟩))
      go_ret
      exact ⟨ret_int H.out.symm, rfl⟩
    · have H := Lib.hid h2
      clear h2
      go_enter Try.func11, Try.ntmps11
      go_wp2_with (first | (go_at_call 31; refine (IsNaN _ _).mono ?_; rintro e w' ⟨rfl, rfl⟩) | (go_at_call 32; refine (Signbit _ (by assumption) _).mono ?_; rintro e w' ⟨rfl, rfl⟩))
      go_ret
      exact ⟨ret_int H.out.symm, rfl⟩
    · have H := Lib.hid h2
      clear h2
      cases sa : neg a <;> cases sb : neg b
      all_goals
        rw [sa, sb] at H
        go_enter Try.func11, Try.ntmps11
        go_wp2_with (first | (go_at_call 31; refine (IsNaN _ _).mono ?_; rintro e w' ⟨rfl, rfl⟩) | (go_at_call 32; refine (Signbit _ (by assumption) _).mono ?_; rintro e w' ⟨rfl, rfl⟩))
        go_ret
        exact ⟨ret_int H.out.symm, rfl⟩
  · have H := Lib.hid (ordI_nb na nb)
    go_enter Try.func11, Try.ntmps11
    go_wp2_with (first | (go_at_call 31; refine (IsNaN _ _).mono ?_; rintro e w' ⟨rfl, rfl⟩))
    go_ret
    exact ⟨ret_int H.out.symm, rfl⟩
  · have H := Lib.hid (ordI_n na nb)
    go_enter Try.func11, Try.ntmps11
    go_wp2_with (first | (go_at_call 31; refine (IsNaN _ _).mono ?_; rintro e w' ⟨rfl, rfl⟩))
    go_ret
    exact ⟨ret_int H.out.symm, rfl⟩
  · have H := Lib.hid (ordI_nn na nb)
    go_enter Try.func11, Try.ntmps11
    go_wp2_with (first | (go_at_call 31; refine (IsNaN _ _).mono ?_; rintro e w' ⟨rfl, rfl⟩))
    go_ret
    exact ⟨ret_int H.out.symm, rfl⟩

set_option maxHeartbeats 400000 in
theorem refnan (b : Nat) (w : World) : Calls Try.prog 34 #[.float .f64 b] w fun e w' => e = .returned (.bool (isNaN b)) ∧ w = w' := by
  have h := selfNaN b
  go_enter Try.func34, Try.ntmps34
  go_wp2
  go_ret
  exact ⟨rfl, rfl⟩
set_option maxHeartbeats 400000 in
theorem told (b : Nat) (w : World) : Calls Try.prog 36 #[.float .f64 b] w fun e w' => e = .returned (.float .f64 (bitsT b)) ∧ w = w' := by
  unfold bitsT
  cases na : isNaN b
  · go_enter Try.func36, Try.ntmps36
    go_wp2_with (first | (go_at_call 31; refine (IsNaN _ _).mono ?_; rintro e w' ⟨rfl, rfl⟩))
    go_ret
    exact ⟨rfl, rfl⟩
  · go_enter Try.func36, Try.ntmps36
    go_wp2_with (first | (go_at_call 31; refine (IsNaN _ _).mono ?_; rintro e w' ⟨rfl, rfl⟩) | (go_at_call 37; refine (nan_ _).mono ?_; rintro e w' ⟨rfl, rfl⟩))
    go_ret
    exact ⟨rfl, rfl⟩
set_option maxHeartbeats 400000 in
theorem Bits (b : Nat) (w : World) : Calls Try.prog 14 #[.float .f64 b] w fun e w' => e = .returned (.int .u64 (bitsT b : Nat)) ∧ w = w' := by
  have h1 := f64bits
  go_enter Try.func14, Try.ntmps14
  go_wp2_with (first | (go_at_call 36; refine (told _ _).mono ?_; rintro e w' ⟨rfl, rfl⟩))
  go_ret
  exact ⟨rfl, rfl⟩
set_option maxHeartbeats 400000 in
theorem RefBits (b : Nat) (w : World) : Calls Try.prog 15 #[.float .f64 b] w fun e w' => e = .returned (.int .u64 (bitsT b : Nat)) ∧ w = w' := by
  have h1 := f64bits
  unfold bitsT
  cases na : isNaN b
  all_goals
    go_enter Try.func15, Try.ntmps15
    go_wp2_with (first | (go_at_call 34; refine (refnan _ _).mono ?_; rintro e w' ⟨rfl, rfl⟩))
    go_ret
    exact ⟨rfl, rfl⟩
set_option maxHeartbeats 400000 in
theorem at_ (n : Nat) (w : World) : Calls Try.prog 12 #[.int .u64 n] w fun e w' => e = .returned (.float .f64 n) ∧ w = w' := by
  have h1 := f64from
  go_enter Try.func12, Try.ntmps12
  go_wp2
  go_ret
  exact ⟨rfl, rfl⟩
set_option maxHeartbeats 400000 in
theorem same (a b : Nat) (w : World) : Calls Try.prog 17 #[.float .f64 a, .float .f64 b] w fun e w' => e = .returned (.bool (decide (bitsT a = bitsT b))) ∧ w = w' := by
  go_enter Try.func17, Try.ntmps17
  go_wp2_with (first | (go_at_call 15; refine (RefBits _ _).mono ?_; rintro e w' ⟨rfl, rfl⟩))
  go_ret
  exact ⟨ret_bool (by rw [Bool.eq_iff_iff]; simp; omega), rfl⟩

set_option maxHeartbeats 1000000 in
theorem RefOrder (a b : Nat) (ha : W64 a) (hb : W64 b) (w : World) : Calls Try.prog 13 #[.float .f64 a, .float .f64 b] w fun e w' => e = .returned (.int .i64 (ordI a b)) ∧ w = w' := by
  have g1 := f64bits
  cases na : isNaN a <;> cases nb : isNaN b
  · rcases ord_cases na nb with ⟨h1, h2⟩ | ⟨h1, h2⟩ | ⟨h1, h2⟩
    · have H := Lib.hid h2
      clear h2
      go_enter Try.func13, Try.ntmps13
      go_wp2_with (first | (go_at_call 34; refine (refnan _ _).mono ?_; rintro e w' ⟨rfl, rfl⟩))
      go_ret
      exact ⟨ret_int H.out.symm, rfl⟩
    · have H := Lib.hid h2
      clear h2
      go_enter Try.func13, Try.ntmps13
      go_wp2_with (first | (go_at_call 34; refine (refnan _ _).mono ?_; rintro e w' ⟨rfl, rfl⟩))
      go_ret
      exact ⟨ret_int H.out.symm, rfl⟩
    · have H := Lib.hid h2
      clear h2
      have n1 : neg a = decide (9223372036854775808 ≤ a) := by unfold neg; unfold W64 at ha; rw [Bool.eq_iff_iff]; simp; omega
      have n2 : neg b = decide (9223372036854775808 ≤ b) := by unfold neg; unfold W64 at hb; rw [Bool.eq_iff_iff]; simp; omega
      rw [n1, n2] at H
      clear n1 n2
      unfold W64 at ha hb
      by_cases sa : 9223372036854775808 ≤ a <;> by_cases sb : 9223372036854775808 ≤ b
      · have e1 : (a : Int) / 9223372036854775808 = 1 := by omega
        have e2 : (b : Int) / 9223372036854775808 = 1 := by omega
        have H2 : Hid (ordI a b = 0) := by show _ = _; rw [H.out]; simp [sa, sb]
        clear sa sb H
        go_enter Try.func13, Try.ntmps13
        go_wp2_with (first | (go_at_call 34; refine (refnan _ _).mono ?_; rintro e w' ⟨rfl, rfl⟩))
        go_ret
        exact ⟨ret_int H2.out.symm, rfl⟩
      · have e1 : (a : Int) / 9223372036854775808 = 1 := by omega
        have e2 : (b : Int) / 9223372036854775808 = 0 := by omega
        have H2 : Hid (ordI a b = -1) := by show _ = _; rw [H.out]; simp [sa, sb]
        clear sa sb H
        go_enter Try.func13, Try.ntmps13
        go_wp2_with (first | (go_at_call 34; refine (refnan _ _).mono ?_; rintro e w' ⟨rfl, rfl⟩))
        go_ret
        exact ⟨ret_int H2.out.symm, rfl⟩
      · have e1 : (a : Int) / 9223372036854775808 = 0 := by omega
        have e2 : (b : Int) / 9223372036854775808 = 1 := by omega
        have H2 : Hid (ordI a b = 1) := by show _ = _; rw [H.out]; simp [sa, sb]
        clear sa sb H
        go_enter Try.func13, Try.ntmps13
        go_wp2_with (first | (go_at_call 34; refine (refnan _ _).mono ?_; rintro e w' ⟨rfl, rfl⟩))
        go_ret
        exact ⟨ret_int H2.out.symm, rfl⟩
      · have e1 : (a : Int) / 9223372036854775808 = 0 := by omega
        have e2 : (b : Int) / 9223372036854775808 = 0 := by omega
        have H2 : Hid (ordI a b = 0) := by show _ = _; rw [H.out]; simp [sa, sb]
        clear sa sb H
        go_enter Try.func13, Try.ntmps13
        go_wp2_with (first | (go_at_call 34; refine (refnan _ _).mono ?_; rintro e w' ⟨rfl, rfl⟩))
        go_ret
        exact ⟨ret_int H2.out.symm, rfl⟩
  · have H := Lib.hid (ordI_nb na nb)
    go_enter Try.func13, Try.ntmps13
    go_wp2_with (first | (go_at_call 34; refine (refnan _ _).mono ?_; rintro e w' ⟨rfl, rfl⟩))
    go_ret
    exact ⟨ret_int H.out.symm, rfl⟩
  · have H := Lib.hid (ordI_n na nb)
    go_enter Try.func13, Try.ntmps13
    go_wp2_with (first | (go_at_call 34; refine (refnan _ _).mono ?_; rintro e w' ⟨rfl, rfl⟩))
    go_ret
    exact ⟨ret_int H.out.symm, rfl⟩
  · have H := Lib.hid (ordI_nn na nb)
    go_enter Try.func13, Try.ntmps13
    go_wp2_with (first | (go_at_call 34; refine (refnan _ _).mono ?_; rintro e w' ⟨rfl, rfl⟩))
    go_ret
    exact ⟨ret_int H.out.symm, rfl⟩

theorem over_max (b : Nat) : (FloatKind.f64.format.order (rung b) 9218868437227405311 == some .gt) = isInf b := by
  have hm : isNaN 9218868437227405311 = false := by decide
  have hr : rung (rung b) = rung b := by unfold rung; omega
  have hn : neg (rung b) = false := by have := rung_lt b; unfold neg; simp; omega
  have km : key 9218868437227405311 = 9218868437227405311 := by decide
  have kb : key (rung b) = (rung b : Int) := by unfold key; rw [hn, hr]; rfl
  show (ordF (rung b) 9218868437227405311 == some .gt) = isInf b
  unfold isInf
  cases h : isNaN (rung b)
  · have hle : rung b ≤ 9218868437227405312 := by unfold isNaN at h; rw [hr] at h; simpa using h
    rw [ordF_key h hm, km, kb]
    by_cases e : rung b = 9218868437227405312
    · rw [e]; rfl
    · rw [decide_eq_false e]
      by_cases e2 : rung b = 9218868437227405311
      · rw [e2]; rfl
      · rw [cmp_is_lt (by omega)]; rfl
  · have hgt : 9218868437227405312 < rung b := by unfold isNaN at h; rw [hr] at h; simpa using h
    rw [ordF_nan_left h, decide_eq_false (by omega)]; rfl

set_option maxHeartbeats 1000000 in
theorem MathAbs (b : Nat) (hb : W64 b) (w : World) : Calls Try.prog 54 #[.float .f64 b] w fun e w' => e = .returned (.float .f64 (rung b)) ∧ w = w' := by
  have g1 := f64bits
  have g2 := f64from
  have g3 : bits .andNot .u64 (b : Int) 9223372036854775808 = (rung b : Nat) := by
    unfold W64 at hb
    rw [show (9223372036854775808 : Int) = ((9223372036854775808 : Nat) : Int) from rfl, u64_andNot_nat _ _ hb (by omega)]
    rw [show 18446744073709551615 - 9223372036854775808 = 2 ^ 63 - 1 from rfl, Nat.and_two_pow_sub_one_eq_mod]
    rfl
  go_enter Try.func54, Try.ntmps54
  go_wp2
  go_ret
  exact ⟨rfl, rfl⟩
set_option maxHeartbeats 1000000 in
theorem IsInf (b : Nat) (hb : W64 b) (w : World) : Calls Try.prog 43 #[.float .f64 b, .int .i64 0] w fun e w' => e = .returned (.bool (isInf b)) ∧ w = w' := by
  have g1 := over_max b
  go_enter Try.func43, Try.ntmps43
  go_wp2_with (first | (go_at_call 54; refine (MathAbs _ hb _).mono ?_; rintro e w' ⟨rfl, rfl⟩))
  go_ret
  exact ⟨rfl, rfl⟩
/-- a number, and not beyond all -/
def isFin (b : Nat) : Bool := !isNaN b && !isInf b
set_option maxHeartbeats 1000000 in
theorem finite (b : Nat) (hb : W64 b) (w : World) : Calls Try.prog 39 #[.float .f64 b] w fun e w' => e = .returned (.bool (isFin b)) ∧ w = w' := by
  unfold isFin
  cases na : isNaN b
  all_goals
    go_enter Try.func39, Try.ntmps39
    go_wp2_with (first | (go_at_call 31; refine (IsNaN _ _).mono ?_; rintro e w' ⟨rfl, rfl⟩) | (go_at_call 43; refine (IsInf _ hb _).mono ?_; rintro e w' ⟨rfl, rfl⟩))
    go_ret
    exact ⟨ret_bool (by simp), rfl⟩
set_option maxHeartbeats 1000000 in
theorem reffinite (b : Nat) (hb : W64 b) (w : World) : Calls Try.prog 40 #[.float .f64 b] w fun e w' => e = .returned (.bool (isFin b)) ∧ w = w' := by
  unfold isFin
  cases na : isNaN b
  all_goals
    go_enter Try.func40, Try.ntmps40
    go_wp2_with (first | (go_at_call 34; refine (refnan _ _).mono ?_; rintro e w' ⟨rfl, rfl⟩) | (go_at_call 43; refine (IsInf _ hb _).mono ?_; rintro e w' ⟨rfl, rfl⟩))
    go_ret
    exact ⟨ret_bool (by simp), rfl⟩

end Meter
end Go.Proofs.Ytfhjboloielbnaa
