/-
  Plain facts on where ranks stand: parts of 255, rows of at most 100.
-/
import Derived.Test.YtfhjboloielbnaaNN
import Derived.Test.YtfhjboloielbnaaDyad
namespace Go.Proofs.Ytfhjboloielbnaa
open Go.RowKit
set_option linter.unusedVariables false
namespace Meter
open Flt

def e30 : Nat := 1044
theorem e30_val : e30 = 1044 := rfl
def cQ (p : Nat) : Nat := p * 1073741824 / 255
def okQ (p : Nat) : Bool := match floatBits .quo .f64 (floatOfInt .f64 (p : Int)) 4643176031446892544 with
  | some r => Nat.ble (cQ p * 2 ^ e30) (mv (rung r)) && (Nat.ble (mv (rung r)) ((cQ p + 1) * 2 ^ e30) && (!neg r && (Nat.ble (rung r) 4607182418800017408 && (!qLow r && (qHigh r == (p == 255))))))
  | none => false
theorem tab_ok : (List.range 256).all okQ = true := by decide +kernel
theorem tab_ends : (List.range 101).all (fun m => Nat.beq (rankAt m 0) 0 && Nat.beq (rankAt m 4607182418800017408) (m - 1)) = true := by decide +kernel
attribute [irreducible] e30
theorem quo_ok {p : Nat} (hp : p ≤ 255) : ∃ r, floatBits .quo .f64 (floatOfInt .f64 (p : Int)) 4643176031446892544 = some r ∧ cQ p * 2 ^ e30 ≤ mv (rung r) ∧ mv (rung r) ≤ (cQ p + 1) * 2 ^ e30 ∧ neg r = false ∧ rung r ≤ 4607182418800017408 ∧ qLow r = false ∧ qHigh r = (p == 255) := by
  have h := List.all_eq_true.1 tab_ok p (List.mem_range.2 (by omega))
  unfold okQ at h
  generalize floatBits .quo .f64 (floatOfInt .f64 (p : Int)) 4643176031446892544 = o at h
  cases o with
  | none => cases h
  | some r =>
    simp only [Bool.and_eq_true, Nat.ble_eq, Bool.not_eq_true'] at h
    obtain ⟨h1, h2, h3, h4, h5, h6⟩ := h
    exact ⟨r, rfl, h1, h2, h3, h4, h5, by simpa using h6⟩
theorem rank_ends {m : Nat} (hm : m ≤ 100) : rankAt m 0 = 0 ∧ rankAt m 4607182418800017408 = m - 1 := by
  have h := List.all_eq_true.1 tab_ends m (List.mem_range.2 (by omega))
  simp only [Bool.and_eq_true] at h
  exact ⟨Nat.eq_of_beq_eq_true h.1, Nat.eq_of_beq_eq_true h.2⟩

theorem cut_zero_eq (s : Bool) (n drop : Nat) : Ieee.Toward.zero.cut s n drop = n / 2 ^ drop := by
  unfold Ieee.Toward.cut
  simp only
  rw [Nat.shiftLeft_eq, Nat.one_mul]
  have hlog : n < 2 ^ (n.log2 + 1) := Nat.lt_log2_self
  show n / 2 ^ min drop (n.log2 + 2) + (false).toNat = _
  rw [Bool.toNat_false, Nat.add_zero]
  by_cases hd : drop ≤ n.log2 + 2
  · rw [Nat.min_eq_left hd]
  · rw [Nat.min_eq_right (by omega), Nat.div_eq_of_lt, Nat.div_eq_of_lt]
    · exact Nat.lt_of_lt_of_le hlog (Nat.pow_le_pow_right (by omega) (by omega))
    · exact Nat.lt_of_lt_of_le hlog (Nat.pow_le_pow_right (by omega) (by omega))
/-- cut to a whole number -/
theorem toInt_eq (b m : Nat) (hr : rung b < 9218868437227405312) (hs : neg b = false) (hm : mv (rung b) ≤ m * 2 ^ eN) (hm2 : m ≤ 1000000) : floatToIntVal .f64 b .i64 = some ((mv (rung b) / 2 ^ eN : Nat) : Int) := by
  have hE := eN_val
  obtain ⟨mm, p, e1, e2⟩ := read_num b hr
  have hpos := Nat.pow_pos (n := eN) (show 0 < 2 by omega)
  have hc : Ieee.Toward.zero.cut (neg b) (mm <<< (Ieee.double.leastPlace + (p : Int)).toNat) (-(Ieee.double.leastPlace + (p : Int))).toNat = mv (rung b) / 2 ^ eN := by
    rw [cut_zero_eq, Nat.shiftLeft_eq, leastP, ← e2]
    rcases Nat.lt_or_ge p eN with h | h
    · rw [show (-(eN : Int) + (p : Int)).toNat = 0 from by omega, show (-(-(eN : Int) + (p : Int))).toNat = eN - p from by omega, Nat.pow_zero, Nat.mul_one]
      rw [show (2 : Nat) ^ eN = 2 ^ p * 2 ^ (eN - p) from by rw [← Nat.pow_add]; congr 1; omega, ← Nat.div_div_eq_div_mul, Nat.mul_div_cancel _ (Nat.pow_pos (by omega))]
    · rw [show (-(eN : Int) + (p : Int)).toNat = p - eN from by omega, show (-(-(eN : Int) + (p : Int))).toNat = 0 from by omega, Nat.pow_zero, Nat.div_one]
      rw [show (2 : Nat) ^ p = 2 ^ (p - eN) * 2 ^ eN from by rw [← Nat.pow_add]; congr 1; omega, ← Nat.mul_assoc, Nat.mul_div_cancel _ hpos]
  have hle : mv (rung b) / 2 ^ eN ≤ m := Nat.div_le_of_le_mul (by rw [Nat.mul_comm]; exact hm)
  have ht : (FloatKind.f64.decode b).toInt .zero = some (Ieee.signed (neg b) (mv (rung b) / 2 ^ eN) 0) := by
    show (Ieee.double.read b).toInt .zero = _
    rw [e1]
    simp only [Ieee.Datum.toInt, Ieee.Datum.integral]
    rw [← hc]
  generalize mv (rung b) / 2 ^ eN = c at *
  have hsg : Ieee.signed (neg b) c 0 = (c : Int) := by rw [hs]; simp [Ieee.signed]
  unfold floatToIntVal
  rw [ht, hsg]
  simp only
  have e8 : IntKind.i64.min = -9223372036854775808 := by decide
  have e9 : IntKind.i64.max = 9223372036854775807 := by decide
  rw [e8, e9, if_pos (by omega)]

/-- a product lies between what its parts lie between -/
theorem mul_between {q m c d : Nat} (h1 : 1 ≤ m) (h2 : m ≤ 100) (hq : neg q = false) (hr : rung q < 9218868437227405312) (hc : c * 2 ^ e30 ≤ mv (rung q)) (hd : mv (rung q) ≤ d * 2 ^ e30) (hd2 : d ≤ 1073741825) :
    ∃ r, floatBits .mul .f64 q (floatOfInt .f64 m) = some r ∧ neg r = false ∧ rung r < 9218868437227405312 ∧ c * m * 2 ^ e30 ≤ mv (rung r) ∧ mv (rung r) ≤ d * m * 2 ^ e30 := by
  have hE := eN_val
  have h30 := e30_val
  obtain ⟨f1, f2, f3, f4⟩ := float_whole m h1 (by omega)
  obtain ⟨mq, pq, eq1, eq2⟩ := read_num q hr
  obtain ⟨mL, pL, eL1, eL2⟩ := read_num (floatOfInt .f64 m) f3
  rw [f2] at eL1
  rw [hq] at eq1
  have hcd : c ≤ d := Nat.le_of_mul_le_mul_right (Nat.le_trans hc hd) (Nat.pow_pos (by omega))
  have hdm : d * m ≤ 1073741825 * 100 := Nat.mul_le_mul hd2 h2
  have hcm : c * m ≤ d * m := Nat.mul_le_mul_right _ hcd
  obtain ⟨kc, kc1, kc2⟩ := rep_few (c * m) e30 (by omega) (by omega) (by omega)
  obtain ⟨kd, kd1, kd2⟩ := rep_few (d * m) e30 (by omega) (by omega) (by omega)
  have hmul : floatBits .mul .f64 q (floatOfInt .f64 m) = some (Ieee.double.nearest (false ^^ false) (mq * mL) (Ieee.double.leastPlace + (pq : Int) + (Ieee.double.leastPlace + (pL : Int)))) := by
    show ((Ieee.double.read q).product (Ieee.double.read (floatOfInt .f64 m))).map Ieee.double.write = _
    rw [eq1, eL1]; rfl
  have hval : mq * mL * 2 ^ (pq + pL) = mv (rung q) * m * 2 ^ eN := by
    rw [Nat.pow_add, Nat.mul_mul_mul_comm, eq2, eL2, f4, Nat.mul_assoc]
  have hlow : c * m * 2 ^ e30 * 2 ^ eN ≤ mq * mL * 2 ^ (pq + pL) := by
    rw [hval]
    refine Nat.mul_le_mul_right _ ?_
    rw [Nat.mul_right_comm]
    exact Nat.mul_le_mul_right _ hc
  have hup : mq * mL * 2 ^ (pq + pL) ≤ d * m * 2 ^ e30 * 2 ^ eN := by
    rw [hval]
    refine Nat.mul_le_mul_right _ ?_
    rw [Nat.mul_right_comm d]
    exact Nat.mul_le_mul_right _ hd
  rcases Nat.eq_zero_or_pos (mq * mL) with h0 | h0
  · have hz : Ieee.double.nearest (false ^^ false) (mq * mL) (Ieee.double.leastPlace + (pq : Int) + (Ieee.double.leastPlace + (pL : Int))) = Ieee.double.word false 0 := by
      unfold Ieee.Format.nearest; rw [if_pos h0]; rfl
    rw [hz] at hmul
    obtain ⟨w1, w2⟩ := word_rung false 0 (by omega)
    refine ⟨_, hmul, w2, by rw [w1]; omega, ?_, by rw [w1, mv_zero]; exact Nat.zero_le _⟩
    rw [h0, Nat.zero_mul] at hlow
    have : c * m * 2 ^ e30 = 0 := by
      rcases Nat.mul_eq_zero.1 (Nat.le_zero.1 hlow) with h | h
      · exact h
      · have := Nat.pow_pos (n := eN) (show 0 < 2 by omega); omega
    rw [this]; exact Nat.zero_le _
  · obtain ⟨k, e, hle, p1, p2⟩ := nearest_spec (false ^^ false) (mq * mL) (Ieee.double.leastPlace + (pq : Int) + (Ieee.double.leastPlace + (pL : Int))) h0
    rw [e] at hmul
    rw [leastP] at p1 p2
    have sc : ∀ X Y : Nat, (X * 2 ^ eN ≤ mq * mL * 2 ^ (pq + pL) → X * 2 ^ (-(eN : Int) - (-(eN : Int) + (pq : Int) + (-(eN : Int) + (pL : Int)))).toNat ≤ mq * mL * 2 ^ (-(eN : Int) + (pq : Int) + (-(eN : Int) + (pL : Int)) - -(eN : Int)).toNat) ∧
        (mq * mL * 2 ^ (pq + pL) ≤ Y * 2 ^ eN → mq * mL * 2 ^ (-(eN : Int) + (pq : Int) + (-(eN : Int) + (pL : Int)) - -(eN : Int)).toNat ≤ Y * 2 ^ (-(eN : Int) - (-(eN : Int) + (pq : Int) + (-(eN : Int) + (pL : Int)))).toNat) := by
      intro X Y
      rcases Nat.lt_or_ge (pq + pL) eN with h | h
      · rw [show (-(eN : Int) + (pq : Int) + (-(eN : Int) + (pL : Int)) - -(eN : Int)).toNat = 0 from by omega, show (-(eN : Int) - (-(eN : Int) + (pq : Int) + (-(eN : Int) + (pL : Int)))).toNat = eN - (pq + pL) from by omega, Nat.pow_zero, Nat.mul_one]
        rw [show (2 : Nat) ^ eN = 2 ^ (eN - (pq + pL)) * 2 ^ (pq + pL) from by rw [← Nat.pow_add]; congr 1; omega, ← Nat.mul_assoc, ← Nat.mul_assoc]
        exact ⟨fun g => Nat.le_of_mul_le_mul_right g (Nat.pow_pos (by omega)), fun g => Nat.le_of_mul_le_mul_right g (Nat.pow_pos (by omega))⟩
      · rw [show (-(eN : Int) + (pq : Int) + (-(eN : Int) + (pL : Int)) - -(eN : Int)).toNat = pq + pL - eN from by omega, show (-(eN : Int) - (-(eN : Int) + (pq : Int) + (-(eN : Int) + (pL : Int)))).toNat = 0 from by omega, Nat.pow_zero, Nat.mul_one, Nat.mul_one]
        rw [show (2 : Nat) ^ (pq + pL) = 2 ^ (pq + pL - eN) * 2 ^ eN from by rw [← Nat.pow_add]; congr 1; omega, ← Nat.mul_assoc]
        exact ⟨fun g => Nat.le_of_mul_le_mul_right g (Nat.pow_pos (by omega)), fun g => Nat.le_of_mul_le_mul_right g (Nat.pow_pos (by omega))⟩
    have a1 := p1 kd (by rw [kd2]; exact (sc 0 _).2 hup)
    have a2 := p2 kc (by omega) (by rw [kc2]; exact (sc _ 0).1 hlow)
    obtain ⟨w1, w2⟩ := word_rung (false ^^ false) k (by omega)
    have mono : ∀ {a b : Nat}, a ≤ b → mv a ≤ mv b := by
      intro a b hab
      rcases Nat.lt_or_eq_of_le hab with h | h
      · exact Nat.le_of_lt (mv_lt h)
      · rw [h]; exact Nat.le_refl _
    exact ⟨_, hmul, w2, by rw [w1]; omega, by rw [w1, ← kc2]; exact mono a2, by rw [w1, ← kd2]; exact mono a1⟩

/-- a part of 255 -/
def pq (p : Nat) : Nat := match floatBits .quo .f64 (floatOfInt .f64 (p : Int)) 4643176031446892544 with
  | some r => r
  | none => 0
theorem pq_some {p : Nat} (hp : p ≤ 255) : floatBits .quo .f64 (floatOfInt .f64 (p : Int)) 4643176031446892544 = some (pq p) := by
  obtain ⟨r, h, _⟩ := quo_ok hp
  unfold pq; rw [h]
theorem pq_lt {p : Nat} (hp : p ≤ 255) : W64 (pq p) := by
  have := floatBits_wf (pq_some hp)
  simpa [Lit.wf, W64] using this
theorem rank_le (m q : Nat) : rankAt m q ≤ m - 1 := by
  unfold rankAt
  split
  · omega
  · split
    · omega
    · split
      · split
        · omega
        · omega
      · omega
theorem rank_part {p m : Nat} (hp : p ≤ 254) (h1 : 1 ≤ m) (h2 : m ≤ 100) : ∃ V, rankAt m (pq p) = min (V / 2 ^ eN) (m - 1) ∧ cQ p * m * 2 ^ e30 ≤ V ∧ V ≤ (cQ p + 1) * m * 2 ^ e30 := by
  have hE := eN_val
  have h30 := e30_val
  obtain ⟨q, hq, q1, q2, q3, q4, q5, q6⟩ := quo_ok (show p ≤ 255 by omega)
  have hqp : pq p = q := by unfold pq; rw [hq]
  have hc : cQ p + 1 ≤ 1073741824 := by unfold cQ; omega
  obtain ⟨r, r1, r2, r3, r4, r5⟩ := mul_between h1 h2 q3 (by omega) q1 q2 (by omega)
  have hb : (cQ p + 1) * m * 2 ^ e30 ≤ m * 2 ^ eN := by
    rw [show (2 : Nat) ^ eN = 1073741824 * 2 ^ e30 from by rw [show (1073741824 : Nat) = 2 ^ 30 from rfl, ← Nat.pow_add]; congr 1; omega, Nat.mul_comm (cQ p + 1), ← Nat.mul_assoc]
    exact Nat.mul_le_mul_right _ (Nat.mul_le_mul_left _ hc)
  have hi := toInt_eq r m r3 r2 (Nat.le_trans r5 hb) (by omega)
  refine ⟨mv (rung r), ?_, r4, r5⟩
  rw [hqp]
  unfold rankAt
  rw [q5, q6, if_neg (by simp), if_neg (by simp; omega), r1]
  simp only
  rw [hi]
  simp only
  rw [Int.toNat_natCast]
theorem rank_rises {p q m : Nat} (hpq : p ≤ q) (hq : q ≤ 255) (h1 : 1 ≤ m) (h2 : m ≤ 100) : rankAt m (pq p) ≤ rankAt m (pq q) := by
  rcases Nat.lt_or_eq_of_le hpq with h | h
  · by_cases hq2 : q = 255
    · obtain ⟨r, g0, g1, g2, g3, g4, g5, g6⟩ := quo_ok hq
      have e : rankAt m (pq q) = m - 1 := by
        have hqp : pq q = r := by unfold pq; rw [g0]
        rw [hqp]
        unfold rankAt
        rw [g5, g6, if_neg (by simp), if_pos (by simp [hq2])]
      rw [e]; exact rank_le _ _
    · obtain ⟨V, e1, a1, a2⟩ := rank_part (show p ≤ 254 by omega) h1 h2
      obtain ⟨W, e2, b1, b2⟩ := rank_part (show q ≤ 254 by omega) h1 h2
      rw [e1, e2]
      have hc : cQ p + 1 ≤ cQ q := by unfold cQ; omega
      have : V ≤ W := Nat.le_trans a2 (Nat.le_trans (Nat.mul_le_mul_right _ (Nat.mul_le_mul_right _ hc)) b1)
      have := Nat.div_le_div_right (c := 2 ^ eN) this
      omega
  · rw [h]; exact Nat.le_refl _
end Meter
end Go.Proofs.Ytfhjboloielbnaa
