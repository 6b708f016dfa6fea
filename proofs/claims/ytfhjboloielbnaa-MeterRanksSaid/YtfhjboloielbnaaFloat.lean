/-
  Plain mathematics of floats of 64 bits: how they stand, by their words. No program in sight.
-/
import Derived.Test.YtfhjboloielbnaaRows
import Derived.Laws.FloatArith
namespace Go.Proofs.Ytfhjboloielbnaa
set_option linter.unusedVariables false
namespace Flt

/-- a word's magnitude, its sign -/
def rung (b : Nat) : Nat := b % 9223372036854775808
def neg (b : Nat) : Bool := b / 9223372036854775808 % 2 == 1
def isNaN (b : Nat) : Bool := decide (9218868437227405312 < rung b)
def isInf (b : Nat) : Bool := decide (rung b = 9218868437227405312)
def key (b : Nat) : Int := if neg b then -(rung b : Int) else (rung b : Int)

theorem cmp_congr {a b c d : Int} (h1 : a < b ↔ c < d) (h2 : a = b ↔ c = d) : compare a b = compare c d := by
  simp only [compare, compareOfLessAndEq]
  simp only [h1, h2]

/-- the magnitude in units of the least -/
def mv (r : Nat) : Nat := if r < 4503599627370496 then r else (4503599627370496 + r % 4503599627370496) * 2 ^ (r / 4503599627370496 - 1)
theorem mv_lt {r s : Nat} (h : r < s) : mv r < mv s := by
  unfold mv
  by_cases hs : s < 4503599627370496
  · rw [if_pos (by omega), if_pos hs]; exact h
  · rw [if_neg hs]
    have hp : 1 ≤ 2 ^ (s / 4503599627370496 - 1) := Nat.pow_pos (by omega)
    by_cases hr : r < 4503599627370496
    · rw [if_pos hr]
      have : (4503599627370496 + s % 4503599627370496) * 1 ≤ (4503599627370496 + s % 4503599627370496) * 2 ^ (s / 4503599627370496 - 1) := Nat.mul_le_mul_left _ hp
      omega
    · rw [if_neg hr]
      by_cases hq : r / 4503599627370496 = s / 4503599627370496
      · rw [hq]
        exact Nat.mul_lt_mul_of_pos_right (by omega) (by omega)
      · have hlt : r / 4503599627370496 < s / 4503599627370496 := by omega
        have e : 2 ^ (s / 4503599627370496 - 1) = 2 ^ (r / 4503599627370496 - 1) * 2 * 2 ^ (s / 4503599627370496 - r / 4503599627370496 - 1) := by
          rw [← Nat.pow_succ, ← Nat.pow_add]; congr 1; omega
        have h2 : 1 ≤ 2 ^ (s / 4503599627370496 - r / 4503599627370496 - 1) := Nat.pow_pos (by omega)
        have h3 : 1 ≤ 2 ^ (r / 4503599627370496 - 1) := Nat.pow_pos (by omega)
        calc (4503599627370496 + r % 4503599627370496) * 2 ^ (r / 4503599627370496 - 1)
            < (4503599627370496 * 2) * 2 ^ (r / 4503599627370496 - 1) := Nat.mul_lt_mul_of_pos_right (by omega) h3
          _ = 4503599627370496 * (2 ^ (r / 4503599627370496 - 1) * 2) := by rw [Nat.mul_assoc, Nat.mul_comm 2]
          _ ≤ 4503599627370496 * (2 ^ (r / 4503599627370496 - 1) * 2 * 2 ^ (s / 4503599627370496 - r / 4503599627370496 - 1)) := Nat.mul_le_mul_left _ (Nat.le_mul_of_pos_right _ h2)
          _ ≤ _ := by rw [← e]; exact Nat.mul_le_mul_right _ (by omega)
theorem mv_lt_iff (r s : Nat) : mv r < mv s ↔ r < s := by
  constructor
  · intro h
    rcases Nat.lt_trichotomy r s with g | g | g
    · exact g
    · subst g; omega
    · have := mv_lt g; omega
  · exact mv_lt
theorem mv_eq_iff (r s : Nat) : mv r = mv s ↔ r = s := by
  constructor
  · intro h
    rcases Nat.lt_trichotomy r s with g | g | g
    · have := mv_lt g; omega
    · exact g
    · have := mv_lt g; omega
  · rintro rfl; rfl
theorem mv_zero : mv 0 = 0 := rfl

def sgn (s : Bool) (m : Nat) : Int := if s then -(m : Int) else (m : Int)
theorem sgn_mv_lt (s t : Bool) (r q : Nat) : sgn s (mv r) < sgn t (mv q) ↔ sgn s r < sgn t q := by
  have h1 := mv_lt_iff r q
  have h2 := mv_lt_iff q r
  have h3 := mv_lt_iff 0 r
  have h4 := mv_lt_iff 0 q
  rw [mv_zero] at h3 h4
  cases s <;> cases t <;> simp only [sgn] <;> simp <;> omega
theorem sgn_mv_eq (s t : Bool) (r q : Nat) : sgn s (mv r) = sgn t (mv q) ↔ sgn s r = sgn t q := by
  have h1 := mv_eq_iff r q
  have h3 := mv_lt_iff 0 r
  have h4 := mv_lt_iff 0 q
  rw [mv_zero] at h3 h4
  cases s <;> cases t <;> simp only [sgn] <;> simp <;> omega

theorem signed_eq (s : Bool) (m p : Nat) : Ieee.signed s m p = sgn s (m * 2 ^ p) := by
  unfold Ieee.signed sgn
  rw [Nat.shiftLeft_eq]
theorem sgn_mul (s : Bool) (m k : Nat) : sgn s (m * k) = sgn s m * (k : Int) := by
  cases s <;> simp [sgn, Int.neg_mul]
theorem cmp_scale (a b : Int) (k : Nat) (hk : 0 < k) : compare (a * (k : Int)) (b * (k : Int)) = compare a b := by
  refine cmp_congr ?_ ?_
  · exact ⟨fun h => Int.lt_of_mul_lt_mul_right h (by omega), fun h => Int.mul_lt_mul_of_pos_right h (by omega)⟩
  · exact ⟨fun h => Int.eq_of_mul_eq_mul_right (by omega) h, fun h => by rw [h]⟩

/-- a finite word as it is read -/
theorem read_num (b : Nat) (h : rung b < 9218868437227405312) : ∃ m p, Ieee.double.read b = .number (neg b) m (Ieee.double.leastPlace + (p : Nat)) ∧ m * 2 ^ p = mv (rung b) := by
  have e1 : Ieee.double.signWeight = 9223372036854775808 := by decide
  have e2 : Ieee.double.binade = 4503599627370496 := by decide
  have e3 : Ieee.double.infRung = 9218868437227405312 := by decide
  unfold Ieee.Format.read
  simp only [e1, e2, e3]
  have hn : (b / 9223372036854775808 % 2 == 1) = neg b := rfl
  have hr : b % 9223372036854775808 = rung b := rfl
  rw [hn, hr]
  by_cases h1 : rung b < 4503599627370496
  · rw [if_pos h1]
    exact ⟨rung b, 0, by simp, by unfold mv; rw [if_pos h1]; simp⟩
  · rw [if_neg h1, if_pos h]
    exact ⟨_, _, rfl, by unfold mv; rw [if_neg h1]⟩
theorem read_inf (b : Nat) (h : rung b = 9218868437227405312) : Ieee.double.read b = .infinity (neg b) := by
  have e1 : Ieee.double.signWeight = 9223372036854775808 := by decide
  have e2 : Ieee.double.binade = 4503599627370496 := by decide
  have e3 : Ieee.double.infRung = 9218868437227405312 := by decide
  unfold Ieee.Format.read
  simp only [e1, e2, e3]
  have hr : b % 9223372036854775808 = rung b := rfl
  rw [hr, if_neg (by omega), if_neg (by omega), if_pos h]
  rfl
theorem read_nan (b : Nat) (h : 9218868437227405312 < rung b) : ∃ s f, Ieee.double.read b = .nan s f := by
  have e1 : Ieee.double.signWeight = 9223372036854775808 := by decide
  have e2 : Ieee.double.binade = 4503599627370496 := by decide
  have e3 : Ieee.double.infRung = 9218868437227405312 := by decide
  unfold Ieee.Format.read
  simp only [e1, e2, e3]
  have hr : b % 9223372036854775808 = rung b := rfl
  rw [hr, if_neg (by omega), if_neg (by omega), if_neg (by omega)]
  exact ⟨_, _, rfl⟩

theorem cmp_is_lt {x y : Int} (h : x < y) : compare x y = .lt := by simp only [compare, compareOfLessAndEq]; rw [if_pos h]
theorem cmp_is_gt {x y : Int} (h : y < x) : compare x y = .gt := by simp only [compare, compareOfLessAndEq]; rw [if_neg (by omega), if_neg (by omega)]
theorem key_inf {b : Nat} (h : rung b = 9218868437227405312) : key b = if neg b then -9218868437227405312 else 9218868437227405312 := by unfold key; rw [h]; rfl
theorem key_fin {b : Nat} (h : rung b < 9218868437227405312) : -9218868437227405312 < key b ∧ key b < 9218868437227405312 := by unfold key; split <;> omega

/-- how two words stand -/
def ordF (a b : Nat) : Option Ordering := FloatKind.f64.format.order a b
theorem ordF_nan_left {a b : Nat} (h : isNaN a = true) : ordF a b = none := by
  obtain ⟨s, f, e⟩ := read_nan a (by simpa [isNaN] using h)
  show (Ieee.double.read a).order (Ieee.double.read b) = none
  rw [e]; rfl
theorem ordF_nan_right {a b : Nat} (h : isNaN b = true) : ordF a b = none := by
  obtain ⟨s, f, e⟩ := read_nan b (by simpa [isNaN] using h)
  show (Ieee.double.read a).order (Ieee.double.read b) = none
  rw [e]
  cases Ieee.double.read a <;> rfl
theorem ordF_key {a b : Nat} (ha : isNaN a = false) (hb : isNaN b = false) : ordF a b = some (compare (key a) (key b)) := by
  have ha' : rung a ≤ 9218868437227405312 := by simpa [isNaN] using ha
  have hb' : rung b ≤ 9218868437227405312 := by simpa [isNaN] using hb
  show (Ieee.double.read a).order (Ieee.double.read b) = _
  rcases Nat.lt_or_eq_of_le ha' with h1 | h1 <;> rcases Nat.lt_or_eq_of_le hb' with h2 | h2
  · obtain ⟨m, p, e1, f1⟩ := read_num a h1
    obtain ⟨n, q, e2, f2⟩ := read_num b h2
    rw [e1, e2]
    simp only [Ieee.Datum.order]
    congr 1
    have hb1 : min (Ieee.double.leastPlace + (p : Int)) (Ieee.double.leastPlace + (q : Int)) = Ieee.double.leastPlace + ((min p q : Nat) : Int) := by omega
    have g1 : (Ieee.double.leastPlace + (p : Int) - (Ieee.double.leastPlace + ((min p q : Nat) : Int))).toNat = p - min p q := by omega
    have g2 : (Ieee.double.leastPlace + (q : Int) - (Ieee.double.leastPlace + ((min p q : Nat) : Int))).toNat = q - min p q := by omega
    rw [hb1, g1, g2, signed_eq, signed_eq, ← cmp_scale _ _ (2 ^ min p q) (Nat.pow_pos (by omega)), ← sgn_mul, ← sgn_mul, Nat.mul_assoc, Nat.mul_assoc, ← Nat.pow_add, ← Nat.pow_add,
      show p - min p q + min p q = p from by omega, show q - min p q + min p q = q from by omega, f1, f2]
    exact cmp_congr (sgn_mv_lt _ _ _ _) (sgn_mv_eq _ _ _ _)
  · obtain ⟨m, p, e1, f1⟩ := read_num a h1
    rw [e1, read_inf b h2]
    simp only [Ieee.Datum.order]
    congr 1
    have hk := key_fin h1
    rw [key_inf h2]
    cases neg b
    · simp only [Bool.false_eq_true, if_false]; exact (cmp_is_lt hk.2).symm
    · simp only [if_true]; exact (cmp_is_gt hk.1).symm
  · obtain ⟨n, q, e2, f2⟩ := read_num b h2
    rw [e2, read_inf a h1]
    simp only [Ieee.Datum.order]
    congr 1
    have hk := key_fin h2
    rw [key_inf h1]
    cases neg a
    · simp only [Bool.false_eq_true, if_false]; exact (cmp_is_gt hk.2).symm
    · simp only [if_true]; exact (cmp_is_lt hk.1).symm
  · rw [read_inf a h1, read_inf b h2]
    simp only [Ieee.Datum.order]
    congr 1
    unfold key
    rw [h1, h2]
    cases neg b <;> cases neg a <;> decide

/-- where a word stands: -0 ahead of 0, what is no number behind all -/
def okey (b : Nat) : Int := if isNaN b then 36893488147419103232 else 2 * key b + (if neg b then 0 else 1)
def cmp3 (x y : Int) : Int := if x < y then -1 else if y < x then 1 else 0
def ordI (a b : Nat) : Int := cmp3 (okey a) (okey b)
/-- the bits that are told -/
def bitsT (b : Nat) : Nat := if isNaN b then 9221120237041090561 else b
theorem rung_lt (b : Nat) : rung b < 9223372036854775808 := Nat.mod_lt _ (by omega)
theorem okey_lt {b : Nat} (h : isNaN b = false) : -36893488147419103232 < okey b ∧ okey b < 36893488147419103232 := by
  have := rung_lt b
  unfold okey key
  rw [h]
  cases neg b <;> simp <;> omega
theorem okey_inj {a b : Nat} (ha : a < 18446744073709551616) (hb : b < 18446744073709551616) : okey a = okey b ↔ bitsT a = bitsT b := by
  have h1 : neg a = true ↔ 9223372036854775808 ≤ a := by unfold neg; simp; omega
  have h2 : neg b = true ↔ 9223372036854775808 ≤ b := by unfold neg; simp; omega
  have g1 := rung_lt a
  have g2 := rung_lt b
  have n0 : isNaN 9221120237041090561 = true := by decide
  constructor
  · intro h
    unfold bitsT
    cases na : isNaN a <;> cases nb : isNaN b
    · simp only [Bool.false_eq_true, if_false]
      unfold okey key at h
      rw [na, nb] at h
      simp only [Bool.false_eq_true, if_false] at h
      unfold rung at h g1 g2
      cases sa : neg a <;> cases sb : neg b <;> simp [sa, sb] at h h1 h2 <;> omega
    · have := okey_lt na; unfold okey at h this; rw [na, nb] at h; rw [na] at this; simp at h this; omega
    · have := okey_lt nb; unfold okey at h this; rw [na, nb] at h; rw [nb] at this; simp at h this; omega
    · rfl
  · intro h
    unfold bitsT at h
    cases na : isNaN a <;> cases nb : isNaN b <;> rw [na, nb] at h <;> simp only [Bool.false_eq_true, if_false, if_true] at h
    · rw [h]
    · subst h; rw [na] at n0; cases n0
    · subst h; rw [nb] at n0; cases n0
    · unfold okey; rw [na, nb]; rfl

end Flt
end Go.Proofs.Ytfhjboloielbnaa
