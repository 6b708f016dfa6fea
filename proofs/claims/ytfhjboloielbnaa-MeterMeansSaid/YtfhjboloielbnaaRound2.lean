/-
  Plain mathematics of floats of 64 bits: whole numbers, and a part of one cut to a whole number. No program in sight.
-/
import Derived.Test.YtfhjboloielbnaaRound
namespace Go.Proofs.Ytfhjboloielbnaa
set_option linter.unusedVariables false
namespace Flt

def eN : Nat := 1074
theorem eN_val : eN = 1074 := rfl
theorem leastP : Ieee.double.leastPlace = -(eN : Int) := by decide
theorem pow_join (a b c : Nat) (h : a + b = c) : 2 ^ a * 2 ^ b = 2 ^ c := by rw [← Nat.pow_add, h]
attribute [irreducible] eN
theorem word_rung (s : Bool) (k : Nat) (h : k < 9223372036854775808) : rung (Ieee.double.word s k) = k ∧ neg (Ieee.double.word s k) = s := by
  have e1 : Ieee.double.signWeight = 9223372036854775808 := by decide
  unfold Ieee.Format.word rung neg
  rw [e1]
  cases s
  · simp only [Bool.false_eq_true, if_false]
    constructor
    · omega
    · simp; omega
  · simp only [if_true]
    constructor
    · omega
    · simp; omega

/-- the rung of a whole number -/
theorem whole_rung (m : Nat) (h1 : 1 ≤ m) (h2 : m ≤ 9007199254740991) : ∃ k, k < 9218868437227405312 ∧ mv k = m * 2 ^ eN := by
  have hE := eN_val
  have hlo : 2 ^ m.log2 ≤ m := Nat.log2_self_le (by omega)
  have hhi : m < 2 ^ (m.log2 + 1) := Nat.lt_log2_self
  have ht : m.log2 ≤ 52 := by
    rcases Nat.lt_or_ge 52 m.log2 with h | h
    · have : 2 ^ 53 ≤ 2 ^ m.log2 := Nat.pow_le_pow_right (by omega) h
      omega
    · exact h
  generalize m.log2 = t at *
  have j1 : 2 ^ t * 2 ^ (52 - t) ≤ m * 2 ^ (52 - t) := Nat.mul_le_mul_right _ hlo
  have j2 : m * 2 ^ (52 - t) < 2 ^ (t + 1) * 2 ^ (52 - t) := Nat.mul_lt_mul_of_pos_right hhi (Nat.pow_pos (by omega))
  rw [← Nat.pow_add, show t + (52 - t) = 52 from by omega] at j1
  rw [← Nat.pow_add, show t + 1 + (52 - t) = 53 from by omega] at j2
  refine ⟨(1022 + t) * 4503599627370496 + m * 2 ^ (52 - t), ?_, ?_⟩
  · have : (1022 + t) * 4503599627370496 ≤ eN * 4503599627370496 := Nat.mul_le_mul_right _ (by omega)
    omega
  · rw [mv_place _ _ (by omega) (by omega) (by omega), Nat.mul_assoc, ← Nat.pow_add]
    congr 2; omega
/-- a whole number as a float -/
theorem float_whole (m : Nat) (h1 : 1 ≤ m) (h2 : m ≤ 9007199254740991) : isNaN (floatOfInt .f64 m) = false ∧ neg (floatOfInt .f64 m) = false ∧ rung (floatOfInt .f64 m) < 9218868437227405312 ∧ mv (rung (floatOfInt .f64 m)) = m * 2 ^ eN := by
  have hE := eN_val
  obtain ⟨k, hk, hmv⟩ := whole_rung m h1 h2
  obtain ⟨k', e, hle, p1, p2⟩ := nearest_spec false m 0 (by omega)
  rw [leastP] at p1 p2
  have a1 := p1 k (by rw [hmv, show ((0 : Int) - -(eN : Int)).toNat = eN from by omega, show (-(eN : Int) - 0).toNat = 0 from by omega, Nat.pow_zero, Nat.mul_one]; exact Nat.le_refl _)
  have a2 := p2 k (by omega) (by rw [hmv, show ((0 : Int) - -(eN : Int)).toNat = eN from by omega, show (-(eN : Int) - 0).toNat = 0 from by omega, Nat.pow_zero, Nat.mul_one]; exact Nat.le_refl _)
  have hkk : k' = k := by omega
  subst hkk
  have ef : floatOfInt .f64 (m : Int) = Ieee.double.word false k' := by
    show Ieee.double.nearest (decide ((m : Int) < 0)) (m : Int).natAbs 0 = _
    rw [show decide ((m : Int) < 0) = false from by simp, Int.natAbs_natCast, e]
  obtain ⟨w1, w2⟩ := word_rung false k' (by omega)
  rw [ef]
  refine ⟨?_, w2, by rw [w1]; exact hk, by rw [w1]; exact hmv⟩
  unfold isNaN; rw [w1]; simp; omega

theorem cut_zero_le (s : Bool) (n drop j : Nat) (h : n ≤ j * 2 ^ drop) : Ieee.Toward.zero.cut s n drop ≤ j := by
  unfold Ieee.Toward.cut
  simp only
  rw [Nat.shiftLeft_eq, Nat.one_mul]
  have hlog : n < 2 ^ (n.log2 + 1) := Nat.lt_log2_self
  show n / 2 ^ min drop (n.log2 + 2) + (false).toNat ≤ j
  rw [Bool.toNat_false, Nat.add_zero]
  by_cases hd : drop ≤ n.log2 + 2
  · rw [Nat.min_eq_left hd]
    exact Nat.div_le_of_le_mul (by rw [Nat.mul_comm]; exact h)
  · rw [Nat.min_eq_right (by omega), Nat.div_eq_of_lt]
    · omega
    · exact Nat.lt_of_lt_of_le hlog (Nat.pow_le_pow_right (by omega) (by omega))
theorem cut_zero0 (s : Bool) (drop : Nat) : Ieee.Toward.zero.cut s 0 drop = 0 := Nat.le_zero.1 (cut_zero_le s 0 drop 0 (by simp))

/-- cut to a whole number: not below nought where the sign is plus or it is nought, and at most m where it is -/
theorem toInt_le (b m : Nat) (hr : rung b < 9218868437227405312) (hm : mv (rung b) ≤ m * 2 ^ eN) (hs : neg b = false ∨ rung b = 0) (hm2 : m ≤ 1000000) :
    ∃ n : Nat, floatToIntVal .f64 b .i64 = some (n : Int) ∧ n ≤ m := by
  have hE := eN_val
  obtain ⟨mm, p, e1, e2⟩ := read_num b hr
  have hcut : Ieee.Toward.zero.cut (neg b) (mm <<< (Ieee.double.leastPlace + (p : Int)).toNat) (-(Ieee.double.leastPlace + (p : Int))).toNat ≤ m := by
    apply cut_zero_le
    rw [Nat.shiftLeft_eq, leastP]
    rcases Nat.lt_or_ge p eN with h | h
    · rw [show (-(eN : Int) + (p : Int)).toNat = 0 from by omega, show (-(-(eN : Int) + (p : Int))).toNat = eN - p from by omega, Nat.pow_zero, Nat.mul_one]
      have h3 : mm * 2 ^ p ≤ m * 2 ^ (eN - p) * 2 ^ p := by
        rw [e2, Nat.mul_assoc, ← Nat.pow_add, show eN - p + p = eN from by omega]; exact hm
      exact Nat.le_of_mul_le_mul_right h3 (Nat.pow_pos (by omega))
    · rw [show (-(eN : Int) + (p : Int)).toNat = p - eN from by omega, show (-(-(eN : Int) + (p : Int))).toNat = 0 from by omega, Nat.pow_zero, Nat.mul_one]
      have h3 : mm * 2 ^ (p - eN) * 2 ^ eN ≤ m * 2 ^ eN := by
        rw [Nat.mul_assoc, ← Nat.pow_add, show p - eN + eN = p from by omega, e2]; exact hm
      exact Nat.le_of_mul_le_mul_right h3 (Nat.pow_pos (by omega))
  have hz : rung b = 0 → mm = 0 := by
    intro h
    rw [h, mv_zero] at e2
    rcases Nat.mul_eq_zero.1 e2 with h | h
    · exact h
    · have := Nat.pow_pos (n := p) (show 0 < 2 by omega); omega
  obtain ⟨c, hc⟩ : ∃ c, c = Ieee.Toward.zero.cut (neg b) (mm <<< (Ieee.double.leastPlace + (p : Int)).toNat) (-(Ieee.double.leastPlace + (p : Int))).toNat := ⟨_, rfl⟩
  rw [← hc] at hcut
  have ht : (FloatKind.f64.decode b).toInt .zero = some (Ieee.signed (neg b) c 0) := by
    show (Ieee.double.read b).toInt .zero = _
    rw [e1]
    simp only [Ieee.Datum.toInt, Ieee.Datum.integral]
    rw [← hc]
  have hsg : Ieee.signed (neg b) c 0 = (c : Int) := by
    rcases hs with h | h
    · rw [h]; simp [Ieee.signed]
    · have hm0 := hz h
      have hc0 : c = 0 := by rw [hc, hm0, Nat.zero_shiftLeft]; exact cut_zero0 _ _
      rw [hc0]; cases neg b <;> rfl
  refine ⟨c, ?_, hcut⟩
  unfold floatToIntVal
  rw [ht, hsg]
  simp only
  have e8 : IntKind.i64.min = -9223372036854775808 := by decide
  have e9 : IntKind.i64.max = 9223372036854775807 := by decide
  rw [e8, e9, if_pos (by omega)]

theorem mv_one : mv 4607182418800017408 = 2 ^ eN := by
  have hE := eN_val
  obtain ⟨d, hd⟩ : ∃ d : Nat, d = 1022 := ⟨_, rfl⟩
  have h := mv_place d 4503599627370496 (by omega) (Nat.le_refl _) (by omega)
  rw [show d * 4503599627370496 + 4503599627370496 = 4607182418800017408 from by omega] at h
  rw [h, show (4503599627370496 : Nat) = 2 ^ 52 from rfl]
  exact pow_join 52 d eN (by omega)

/-- a part (at least nought, below one) of a whole number, cut to a whole number -/
theorem part_of (q m : Nat) (h1 : 1 ≤ m) (h2 : m ≤ 1000000) (hq : isNaN q = false) (hk0 : 0 ≤ key q) (hk1 : key q < 4607182418800017408) :
    ∃ (r n : Nat), floatBits .mul .f64 q (floatOfInt .f64 m) = some r ∧ floatToIntVal .f64 r .i64 = some (n : Int) ∧ n ≤ m := by
  have hE := eN_val
  obtain ⟨f1, f2, f3, f4⟩ := float_whole m h1 (by omega)
  have hrq : rung q < 4607182418800017408 ∧ (neg q = false ∨ rung q = 0) := by
    unfold key at hk0 hk1
    cases hn : neg q
    · rw [hn] at hk0 hk1; simp at hk0 hk1; exact ⟨by omega, .inl rfl⟩
    · rw [hn] at hk0 hk1; simp at hk0 hk1; exact ⟨by omega, .inr (by omega)⟩
  obtain ⟨mq, pq, eq1, eq2⟩ := read_num q (by omega)
  obtain ⟨mL, pL, eL1, eL2⟩ := read_num (floatOfInt .f64 m) f3
  rw [f2] at eL1
  have hmul : floatBits .mul .f64 q (floatOfInt .f64 m) = some (Ieee.double.nearest (neg q ^^ false) (mq * mL) (Ieee.double.leastPlace + (pq : Int) + (Ieee.double.leastPlace + (pL : Int)))) := by
    show ((Ieee.double.read q).product (Ieee.double.read (floatOfInt .f64 m))).map Ieee.double.write = _
    rw [eq1, eL1]; rfl
  rcases Nat.eq_zero_or_pos (mq * mL) with h0 | h0
  · have hz : Ieee.double.nearest (neg q ^^ false) (mq * mL) (Ieee.double.leastPlace + (pq : Int) + (Ieee.double.leastPlace + (pL : Int))) = Ieee.double.word (neg q ^^ false) 0 := by
      unfold Ieee.Format.nearest; rw [if_pos h0]
    rw [hz] at hmul
    obtain ⟨w1, w2⟩ := word_rung (neg q ^^ false) 0 (by omega)
    obtain ⟨n, g1, g2⟩ := toInt_le (Ieee.double.word (neg q ^^ false) 0) m (by rw [w1]; omega) (by rw [w1, mv_zero]; omega) (.inr w1) h2
    exact ⟨_, n, hmul, g1, g2⟩
  · obtain ⟨k, e, hle, p1, p2⟩ := nearest_spec (neg q ^^ false) (mq * mL) (Ieee.double.leastPlace + (pq : Int) + (Ieee.double.leastPlace + (pL : Int))) h0
    rw [e] at hmul
    have hmvq : mv (rung q) ≤ 2 ^ eN := by
      rw [← mv_one]; exact Nat.le_of_lt (mv_lt hrq.1)
    have hkey : mq * mL * 2 ^ (pq + pL) ≤ mv (rung (floatOfInt .f64 m)) * 2 ^ eN := by
      rw [← eL2, Nat.pow_add]
      calc mq * mL * (2 ^ pq * 2 ^ pL) = (mq * 2 ^ pq) * (mL * 2 ^ pL) := by rw [Nat.mul_mul_mul_comm]
        _ ≤ 2 ^ eN * (mL * 2 ^ pL) := Nat.mul_le_mul_right _ (by rw [eq2]; exact hmvq)
        _ = _ := Nat.mul_comm _ _
    have hk : k ≤ rung (floatOfInt .f64 m) := by
      apply p1
      rw [leastP]
      rcases Nat.lt_or_ge (pq + pL) eN with h | h
      · rw [show (-(eN : Int) + (pq : Int) + (-(eN : Int) + (pL : Int)) - -(eN : Int)).toNat = 0 from by omega, show (-(eN : Int) - (-(eN : Int) + (pq : Int) + (-(eN : Int) + (pL : Int)))).toNat = eN - (pq + pL) from by omega, Nat.pow_zero, Nat.mul_one]
        have h3 : mq * mL * 2 ^ (pq + pL) ≤ mv (rung (floatOfInt .f64 m)) * 2 ^ (eN - (pq + pL)) * 2 ^ (pq + pL) := by
          rw [Nat.mul_assoc (mv _), ← Nat.pow_add, show eN - (pq + pL) + (pq + pL) = eN from by omega]; exact hkey
        exact Nat.le_of_mul_le_mul_right h3 (Nat.pow_pos (by omega))
      · rw [show (-(eN : Int) + (pq : Int) + (-(eN : Int) + (pL : Int)) - -(eN : Int)).toNat = pq + pL - eN from by omega, show (-(eN : Int) - (-(eN : Int) + (pq : Int) + (-(eN : Int) + (pL : Int)))).toNat = 0 from by omega, Nat.pow_zero, Nat.mul_one]
        have h3 : mq * mL * 2 ^ (pq + pL - eN) * 2 ^ eN ≤ mv (rung (floatOfInt .f64 m)) * 2 ^ eN := by
          rw [Nat.mul_assoc (mq * mL), ← Nat.pow_add, show pq + pL - eN + eN = pq + pL from by omega]; exact hkey
        exact Nat.le_of_mul_le_mul_right h3 (Nat.pow_pos (by omega))
    obtain ⟨w1, w2⟩ := word_rung (neg q ^^ false) k (by omega)
    have hs : neg q = false := by
      rcases hrq.2 with h | h
      · exact h
      · exfalso
        rw [h, mv_zero] at eq2
        have := Nat.pow_pos (n := pq) (show 0 < 2 by omega)
        rcases Nat.mul_eq_zero.1 eq2 with h4 | h4
        · rw [h4, Nat.zero_mul] at h0; omega
        · omega
    have hmk : mv k ≤ m * 2 ^ eN := by
      rw [← f4]
      rcases Nat.lt_or_eq_of_le hk with h | h
      · exact Nat.le_of_lt (mv_lt h)
      · rw [h]; exact Nat.le_refl _
    obtain ⟨n, g1, g2⟩ := toInt_le (Ieee.double.word (neg q ^^ false) k) m (by rw [w1]; omega) (by rw [w1]; exact hmk) (.inl (by rw [w2, hs]; rfl)) h2
    exact ⟨_, n, hmul, g1, g2⟩

end Flt
end Go.Proofs.Ytfhjboloielbnaa
