/-
  Plain mathematics of floats of 64 bits: the nearest word. No program in sight.
-/
import Derived.Test.YtfhjboloielbnaaFloat
namespace Go.Proofs.Ytfhjboloielbnaa
set_option linter.unusedVariables false
namespace Flt

/-- the whole number nearest to n / 2^drop stands as the numbers do -/
theorem cut_spec (neg : Bool) (n drop : Nat) : (∀ j, n ≤ j * 2 ^ drop → Ieee.Toward.even.cut neg n drop ≤ j) ∧ (∀ j, j * 2 ^ drop ≤ n → j ≤ Ieee.Toward.even.cut neg n drop) := by
  unfold Ieee.Toward.cut
  simp only
  rw [Nat.shiftLeft_eq, Nat.one_mul]
  have hlog : n < 2 ^ (n.log2 + 1) := Nat.lt_log2_self
  by_cases hd : drop ≤ n.log2 + 2
  · rw [Nat.min_eq_left hd]
    have hp : 0 < 2 ^ drop := Nat.pow_pos (by omega)
    have hdm := Nat.div_add_mod n (2 ^ drop)
    have hm := Nat.mod_lt n hp
    generalize hg : (2 : Nat) ^ drop = g at *
    generalize hq : n / g = q at *
    generalize hr : n % g = r at *
    constructor
    · intro j hj
      have h1 : q ≤ j := by
        rcases Nat.lt_or_ge j q with h | h
        · have : (j + 1) * g ≤ q * g := Nat.mul_le_mul_right _ h
          rw [Nat.add_mul, Nat.mul_comm q g] at this; omega
        · exact h
      by_cases h0 : r = 0
      · have e : (decide (g < 2 * r) || g == 2 * r && q % 2 == 1) = false := by rw [h0]; simp; omega
        rw [e]; simpa using h1
      · have h2 : q + 1 ≤ j := by
          rcases Nat.lt_or_ge q j with h | h
          · exact h
          · have : q = j := by omega
            subst this
            rw [Nat.mul_comm] at hj; omega
        have h3 : (decide (g < 2 * r) || g == 2 * r && q % 2 == 1).toNat ≤ 1 := Bool.toNat_le _
        omega
    · intro j hj
      have h1 : j ≤ q := by
        rcases Nat.lt_or_ge q j with h | h
        · have : (q + 1) * g ≤ j * g := Nat.mul_le_mul_right _ h
          rw [Nat.add_mul, Nat.mul_comm q g] at this; omega
        · exact h
      omega
  · rw [Nat.min_eq_right (by omega)]
    have hlt : n < 2 ^ (n.log2 + 2) := Nat.lt_of_lt_of_le hlog (Nat.pow_le_pow_right (by omega) (by omega))
    have hbig : 2 ^ (n.log2 + 2) ≤ 2 ^ drop := Nat.pow_le_pow_right (by omega) (by omega)
    have h4 : 2 ^ (n.log2 + 2) = 2 * 2 ^ (n.log2 + 1) := by rw [Nat.pow_succ, Nat.mul_comm]
    rw [Nat.div_eq_of_lt hlt, Nat.mod_eq_of_lt hlt]
    have e : (decide (2 ^ (n.log2 + 2) < 2 * n) || 2 ^ (n.log2 + 2) == 2 * n && 0 % 2 == 1) = false := by
      rw [Bool.or_eq_false_iff]
      exact ⟨by rw [decide_eq_false_iff_not]; omega, by simp⟩
    rw [e]
    constructor
    · intro j _; simp
    · intro j hj
      rcases Nat.eq_zero_or_pos j with h | h
      · simp [h]
      · have : 1 * 2 ^ drop ≤ j * 2 ^ drop := Nat.mul_le_mul_right _ h
        omega

theorem mv_place (d j : Nat) (hd : 0 < d) (h1 : 4503599627370496 ≤ j) (h2 : j ≤ 9007199254740992) : mv (d * 4503599627370496 + j) = j * 2 ^ d := by
  unfold mv
  rw [if_neg (by omega)]
  rcases Nat.lt_or_eq_of_le h2 with h | h
  · rw [show (d * 4503599627370496 + j) % 4503599627370496 = j - 4503599627370496 from by omega, show (d * 4503599627370496 + j) / 4503599627370496 - 1 = d from by omega, show 4503599627370496 + (j - 4503599627370496) = j from by omega]
  · subst h
    rw [show (d * 4503599627370496 + 9007199254740992) % 4503599627370496 = 0 from by omega, show (d * 4503599627370496 + 9007199254740992) / 4503599627370496 - 1 = d + 1 from by omega, Nat.pow_succ]
    omega
theorem mv_low (j : Nat) (h : j ≤ 9007199254740992) : mv j = j := by
  unfold mv
  by_cases h1 : j < 4503599627370496
  · rw [if_pos h1]
  · rw [if_neg h1]
    rcases Nat.lt_or_eq_of_le h with h2 | h2
    · rw [show j / 4503599627370496 - 1 = 0 from by omega, Nat.pow_zero, Nat.mul_one]; omega
    · subst h2
      rw [show (9007199254740992 : Nat) % 4503599627370496 = 0 from by omega, show (9007199254740992 : Nat) / 4503599627370496 - 1 = 1 from by omega]

/-- THE NEAREST WORD: how its rung stands to all rungs -/
theorem nearest_spec (ng : Bool) (mag : Nat) (place : Int) (hm : 0 < mag) :
    ∃ k, Ieee.double.nearest ng mag place = Ieee.double.word ng k ∧ k ≤ 9218868437227405312 ∧
      (∀ r, mag * 2 ^ (place - Ieee.double.leastPlace).toNat ≤ mv r * 2 ^ (Ieee.double.leastPlace - place).toNat → k ≤ r) ∧
      (∀ r, r ≤ 9218868437227405312 → mv r * 2 ^ (Ieee.double.leastPlace - place).toNat ≤ mag * 2 ^ (place - Ieee.double.leastPlace).toNat → r ≤ k) := by
  have e2 : Ieee.double.binade = 4503599627370496 := by decide
  have e3 : Ieee.double.infRung = 9218868437227405312 := by decide
  have e4 : Ieee.double.fractionBits = 52 := by decide
  unfold Ieee.Format.nearest
  simp only [e2, e3, e4]
  rw [if_neg (by omega)]
  generalize Ieee.double.leastPlace = L at *
  obtain ⟨last, hlast⟩ : ∃ last, last = max (place + (mag.log2 : Int) - (52 : Nat)) L := ⟨_, rfl⟩
  rw [← hlast]
  obtain ⟨hc1, hc2⟩ := cut_spec ng (mag <<< (place - last).toNat) (last - place).toNat
  generalize hkept : Ieee.Toward.even.cut ng (mag <<< (place - last).toNat) (last - place).toNat = kept at *
  rw [Nat.shiftLeft_eq] at hc1 hc2
  have hlo : 2 ^ mag.log2 ≤ mag := Nat.log2_self_le (by omega)
  have hhi : mag < 2 ^ (mag.log2 + 1) := Nat.lt_log2_self
  have hL : L ≤ last := by rw [hlast]; exact Int.le_max_right _ _
  have hT : place + (mag.log2 : Int) - 52 ≤ last := by rw [hlast]; exact Int.le_max_left _ _
  -- kept is at most 2^53
  have hk53 : kept ≤ 9007199254740992 := by
    apply hc1
    rw [show (9007199254740992 : Nat) = 2 ^ 53 from rfl, ← Nat.pow_add]
    have : mag * 2 ^ (place - last).toNat ≤ 2 ^ (mag.log2 + 1) * 2 ^ (place - last).toNat := Nat.mul_le_mul_right _ (Nat.le_of_lt hhi)
    rw [← Nat.pow_add] at this
    exact Nat.le_trans this (Nat.pow_le_pow_right (by omega) (by omega))
  have hk52 : L < last → 2 ^ 52 * 2 ^ (last - place).toNat ≤ mag * 2 ^ (place - last).toNat := by
    intro h
    have he : last = place + (mag.log2 : Int) - 52 := by omega
    have : 2 ^ mag.log2 * 2 ^ (place - last).toNat ≤ mag * 2 ^ (place - last).toNat := Nat.mul_le_mul_right _ hlo
    rw [← Nat.pow_add] at this
    rw [← Nat.pow_add]
    exact Nat.le_trans (Nat.pow_le_pow_right (by omega) (by omega)) this
  have hlt54 : mag * 2 ^ (place - last).toNat < 2 ^ 53 * 2 ^ (last - place).toNat := by
    have : mag * 2 ^ (place - last).toNat < 2 ^ (mag.log2 + 1) * 2 ^ (place - last).toNat := Nat.mul_lt_mul_of_pos_right hhi (Nat.pow_pos (by omega))
    rw [← Nat.pow_add] at this
    rw [← Nat.pow_add]
    exact Nat.lt_of_lt_of_le this (Nat.pow_le_pow_right (by omega) (by omega))
  -- the units
  obtain ⟨d, hd⟩ : ∃ d, d = (last - L).toNat := ⟨_, rfl⟩
  rw [← hd]
  have hE : mag * 2 ^ (place - L).toNat * 2 ^ (last - place).toNat = mag * 2 ^ (place - last).toNat * 2 ^ d * 2 ^ (L - place).toNat := by
    rw [Nat.mul_assoc, Nat.mul_assoc, Nat.mul_assoc, ← Nat.pow_add, ← Nat.pow_add, ← Nat.pow_add]
    congr 2; omega
  generalize ha : 2 ^ (place - L).toNat = PA at *
  generalize hb : 2 ^ (L - place).toNat = PB at *
  generalize hdr : 2 ^ (last - place).toNat = PD at *
  generalize hsh : mag * 2 ^ (place - last).toNat = n at *
  have pa : 0 < PA := by rw [← ha]; exact Nat.pow_pos (by omega)
  have pb : 0 < PB := by rw [← hb]; exact Nat.pow_pos (by omega)
  have pd : 0 < PD := by rw [← hdr]; exact Nat.pow_pos (by omega)
  have p2 : 0 < 2 ^ d := Nat.pow_pos (by omega)
  -- in units of the last place
  have up : ∀ j, mag * PA ≤ j * 2 ^ d * PB → n ≤ j * PD := by
    intro j h
    have h1 : mag * PA * PD ≤ j * 2 ^ d * PB * PD := Nat.mul_le_mul_right _ h
    rw [hE] at h1
    have h2 : (n) * (2 ^ d * PB) ≤ (j * PD) * (2 ^ d * PB) := by
      calc n * (2 ^ d * PB) = n * 2 ^ d * PB := by rw [Nat.mul_assoc]
        _ ≤ j * 2 ^ d * PB * PD := h1
        _ = (j * PD) * (2 ^ d * PB) := by rw [Nat.mul_assoc j, Nat.mul_assoc j, Nat.mul_assoc j, Nat.mul_comm (2 ^ d * PB) PD]
    exact Nat.le_of_mul_le_mul_right h2 (Nat.mul_pos p2 pb)
  have dn : ∀ j, j * 2 ^ d * PB ≤ mag * PA → j * PD ≤ n := by
    intro j h
    have h1 : j * 2 ^ d * PB * PD ≤ mag * PA * PD := Nat.mul_le_mul_right _ h
    rw [hE] at h1
    have h2 : (j * PD) * (2 ^ d * PB) ≤ n * (2 ^ d * PB) := by
      calc (j * PD) * (2 ^ d * PB) = j * 2 ^ d * PB * PD := by rw [Nat.mul_assoc j, Nat.mul_assoc j, Nat.mul_assoc j, Nat.mul_comm (2 ^ d * PB) PD]
        _ ≤ n * 2 ^ d * PB := h1
        _ = n * (2 ^ d * PB) := by rw [Nat.mul_assoc]
    exact Nat.le_of_mul_le_mul_right h2 (Nat.mul_pos p2 pb)
  refine ⟨_, rfl, Nat.min_le_right _ _, ?_, ?_⟩
  · intro r h
    refine Nat.le_trans (Nat.min_le_left _ _) ?_
    rcases Nat.lt_or_ge r (d * 4503599627370496 + kept) with hr | hr
    · exfalso
      rcases Nat.eq_zero_or_pos d with h0 | h0
      · subst h0
        rw [mv_low r (by omega)] at h
        have := hc1 r (up r (by simpa using h))
        omega
      · have hk := hk52 (by omega)
        rcases Nat.lt_or_ge r (d * 4503599627370496 + 4503599627370496) with h1 | h1
        · have h2 := mv_lt h1
          rw [mv_place d 4503599627370496 h0 (Nat.le_refl _) (by omega)] at h2
          have h3 : mag * PA < 4503599627370496 * 2 ^ d * PB := Nat.lt_of_le_of_lt h (Nat.mul_lt_mul_of_pos_right h2 pb)
          have h4 : 4503599627370496 * 2 ^ d * PB ≤ mag * PA := by
            have h5 : 4503599627370496 * PD * (2 ^ d * PB) ≤ n * (2 ^ d * PB) := Nat.mul_le_mul_right _ hk
            have h6 : 4503599627370496 * 2 ^ d * PB * PD ≤ mag * PA * PD := by
              rw [hE]
              calc 4503599627370496 * 2 ^ d * PB * PD = 4503599627370496 * PD * (2 ^ d * PB) := by rw [Nat.mul_assoc 4503599627370496, Nat.mul_assoc 4503599627370496, Nat.mul_assoc 4503599627370496, Nat.mul_comm (2 ^ d * PB) PD]
                _ ≤ n * (2 ^ d * PB) := h5
                _ = n * 2 ^ d * PB := by rw [Nat.mul_assoc]
            exact Nat.le_of_mul_le_mul_right h6 pd
          omega
        · obtain ⟨j, hj⟩ : ∃ j, r = d * 4503599627370496 + j := ⟨r - d * 4503599627370496, by omega⟩
          subst hj
          rw [mv_place d j h0 (by omega) (by omega)] at h
          have := hc1 j (up j h)
          omega
    · exact hr
  · intro r hri h
    apply Nat.le_min.2
    refine ⟨?_, hri⟩
    rcases Nat.lt_or_ge (d * 4503599627370496 + kept) r with hr | hr
    · exfalso
      rcases Nat.eq_zero_or_pos d with h0 | h0
      · subst h0
        rcases Nat.lt_or_ge r 9007199254740993 with h1 | h1
        · rw [mv_low r (by omega)] at h
          have := hc2 r (dn r (by simpa using h))
          omega
        · have h2 := mv_lt h1
          have h3 : mv 9007199254740992 < mv r := mv_lt (by omega)
          rw [mv_low _ (Nat.le_refl _)] at h3
          have h4 : 9007199254740992 * 2 ^ 0 * PB ≤ mag * PA := by
            refine Nat.le_trans ?_ h
            rw [Nat.pow_zero, Nat.mul_one]
            exact Nat.mul_le_mul_right _ (Nat.le_of_lt h3)
          have := dn 9007199254740992 h4
          omega
      · have hk := hk52 (by omega)
        have hk' : 4503599627370496 ≤ kept := hc2 _ hk
        rcases Nat.lt_or_ge r (d * 4503599627370496 + 9007199254740993) with h1 | h1
        · obtain ⟨j, hj⟩ : ∃ j, r = d * 4503599627370496 + j := ⟨r - d * 4503599627370496, by omega⟩
          subst hj
          rw [mv_place d j h0 (by omega) (by omega)] at h
          have := hc2 j (dn j h)
          omega
        · have h3 : mv (d * 4503599627370496 + 9007199254740992) < mv r := mv_lt (by omega)
          rw [mv_place d _ h0 (by omega) (Nat.le_refl _)] at h3
          have h4 : 9007199254740992 * 2 ^ d * PB ≤ mag * PA := Nat.le_trans (Nat.mul_le_mul_right _ (Nat.le_of_lt h3)) h
          have := dn 9007199254740992 h4
          omega
    · exact hr

end Flt
end Go.Proofs.Ytfhjboloielbnaa
