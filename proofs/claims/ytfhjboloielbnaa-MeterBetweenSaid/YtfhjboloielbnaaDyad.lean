/-
  Plain mathematics of floats of 64 bits: sums, products that are exact. No program in sight.
-/
import Derived.Test.YtfhjboloielbnaaRound2
namespace Go.Proofs.Ytfhjboloielbnaa
set_option linter.unusedVariables false
namespace Flt

/-- a word is a finite number of so many of the least -/
def Val (b : Nat) (V : Int) : Prop := b < 18446744073709551616 ∧ rung b < 9218868437227405312 ∧ sgn (neg b) (mv (rung b)) = V
/-- so many of the least are a number -/
def Rep (n : Nat) : Prop := ∃ k, k < 9218868437227405312 ∧ mv k = n
theorem word_lt (s : Bool) (k : Nat) (h : k < 9223372036854775808) : Ieee.double.word s k < 18446744073709551616 := by
  have e1 : Ieee.double.signWeight = 9223372036854775808 := by decide
  unfold Ieee.Format.word
  rw [e1]
  split <;> omega
theorem sgn_abs (s : Bool) (m : Nat) : (sgn s m).natAbs = m := by cases s <;> simp [sgn]

theorem nearest_exact (s : Bool) (mag : Nat) (place : Int) (n : Nat) (hn : Rep n)
    (he : mag * 2 ^ (place - Ieee.double.leastPlace).toNat = n * 2 ^ (Ieee.double.leastPlace - place).toNat) : Val (Ieee.double.nearest s mag place) (sgn s n) := by
  obtain ⟨k, hk, hmk⟩ := hn
  have hp1 := Nat.pow_pos (n := (place - Ieee.double.leastPlace).toNat) (show 0 < 2 by omega)
  have hp2 := Nat.pow_pos (n := (Ieee.double.leastPlace - place).toNat) (show 0 < 2 by omega)
  rcases Nat.eq_zero_or_pos mag with h0 | h0
  · have hz : Ieee.double.nearest s mag place = Ieee.double.word s 0 := by unfold Ieee.Format.nearest; rw [if_pos h0]
    have hn0 : n = 0 := by
      rw [h0, Nat.zero_mul] at he
      rcases Nat.mul_eq_zero.1 he.symm with h | h
      · exact h
      · omega
    obtain ⟨w1, w2⟩ := word_rung s 0 (by omega)
    rw [hz]
    exact ⟨word_lt _ _ (by omega), by rw [w1]; omega, by rw [w1, w2, mv_zero, hn0]⟩
  · obtain ⟨k', e, hle, p1, p2⟩ := nearest_spec s mag place h0
    have a1 := p1 k (by rw [hmk, he]; exact Nat.le_refl _)
    have a2 := p2 k (by omega) (by rw [hmk, he]; exact Nat.le_refl _)
    have hkk : k' = k := by omega
    subst hkk
    obtain ⟨w1, w2⟩ := word_rung s k' (by omega)
    rw [e]
    exact ⟨word_lt _ _ (by omega), by rw [w1]; exact hk, by rw [w1, w2, hmk]⟩

theorem val_read {b : Nat} {V : Int} (h : Val b V) : ∃ m p, Ieee.double.read b = .number (neg b) m (Ieee.double.leastPlace + (p : Nat)) ∧ sgn (neg b) (m * 2 ^ p) = V := by
  obtain ⟨m, p, e1, e2⟩ := read_num b h.2.1
  exact ⟨m, p, e1, by rw [e2]; exact h.2.2⟩
theorem sgn_of (T : Int) : sgn (decide (T < 0)) T.natAbs = T := by
  unfold sgn
  by_cases h : T < 0
  · rw [decide_eq_true h]; simp; omega
  · rw [decide_eq_false h]; simp; omega
theorem sum_read (s t : Bool) (m p n q : Nat) (X Y : Int) (hX : sgn s (m * 2 ^ p) = X) (hY : sgn t (n * 2 ^ q) = Y) (hr : Rep (X + Y).natAbs) :
    ∃ r, ((Ieee.Datum.number s m (Ieee.double.leastPlace + (p : Nat))).sum (Ieee.Datum.number t n (Ieee.double.leastPlace + (q : Nat)))).map Ieee.double.write = some r ∧ Val r (X + Y) := by
  simp only [Ieee.Datum.sum, Option.map_some]
  have hb1 : min (Ieee.double.leastPlace + (p : Int)) (Ieee.double.leastPlace + (q : Int)) = Ieee.double.leastPlace + ((min p q : Nat) : Int) := by omega
  have g1 : (Ieee.double.leastPlace + (p : Int) - (Ieee.double.leastPlace + ((min p q : Nat) : Int))).toNat = p - min p q := by omega
  have g2 : (Ieee.double.leastPlace + (q : Int) - (Ieee.double.leastPlace + ((min p q : Nat) : Int))).toNat = q - min p q := by omega
  rw [hb1, g1, g2, signed_eq, signed_eq]
  have hT : (sgn s (m * 2 ^ (p - min p q)) + sgn t (n * 2 ^ (q - min p q))) * ((2 ^ min p q : Nat) : Int) = X + Y := by
    rw [Int.add_mul, ← sgn_mul, ← sgn_mul, Nat.mul_assoc, Nat.mul_assoc, ← Nat.pow_add, ← Nat.pow_add, show p - min p q + min p q = p from by omega, show q - min p q + min p q = q from by omega, hX, hY]
  generalize sgn s (m * 2 ^ (p - min p q)) + sgn t (n * 2 ^ (q - min p q)) = T at *
  generalize min p q = z at *
  refine ⟨_, rfl, ?_⟩
  have habs : T.natAbs * 2 ^ z = (X + Y).natAbs := by rw [← hT, Int.natAbs_mul, Int.natAbs_natCast]
  have hne := nearest_exact (if T = 0 then s && t else decide (T < 0)) T.natAbs (Ieee.double.leastPlace + (z : Int)) _ hr (by
    rw [show (Ieee.double.leastPlace + (z : Int) - Ieee.double.leastPlace).toNat = z from by omega, show (Ieee.double.leastPlace - (Ieee.double.leastPlace + (z : Int))).toNat = 0 from by omega, habs, Nat.pow_zero, Nat.mul_one])
  have hs : sgn (if T = 0 then s && t else decide (T < 0)) (X + Y).natAbs = X + Y := by
    by_cases h0 : T = 0
    · have : X + Y = 0 := by rw [← hT, h0, Int.zero_mul]
      rw [this]; cases (if T = 0 then s && t else decide (T < 0)) <;> rfl
    · rw [if_neg h0]
      have hp : (0 : Int) < ((2 ^ z : Nat) : Int) := by have := Nat.pow_pos (n := z) (show 0 < 2 by omega); omega
      have hiff : decide (T < 0) = decide (X + Y < 0) := by
        rw [decide_eq_decide, ← hT]
        constructor
        · intro h; exact Int.mul_neg_of_neg_of_pos h hp
        · intro h
          rcases Int.lt_or_le T 0 with g | g
          · exact g
          · have := Int.mul_nonneg g (Int.le_of_lt hp); omega
      rw [hiff]; exact sgn_of _
  rw [hs] at hne
  exact hne
theorem add_exact {x y : Nat} {X Y : Int} (hx : Val x X) (hy : Val y Y) (hr : Rep (X + Y).natAbs) : ∃ r, floatBits .add .f64 x y = some r ∧ Val r (X + Y) := by
  obtain ⟨m, p, e1, f1⟩ := val_read hx
  obtain ⟨n, q, e2, f2⟩ := val_read hy
  obtain ⟨r, h1, h2⟩ := sum_read _ _ _ _ _ _ _ _ f1 f2 hr
  refine ⟨r, ?_, h2⟩
  show ((Ieee.double.read x).sum (Ieee.double.read y)).map Ieee.double.write = _
  rw [e1, e2]; exact h1
theorem sgn_not (s : Bool) (m : Nat) : sgn (!s) m = -sgn s m := by cases s <;> simp [sgn]
theorem sub_exact {x y : Nat} {X Y : Int} (hx : Val x X) (hy : Val y Y) (hr : Rep (X - Y).natAbs) : ∃ r, floatBits .sub .f64 x y = some r ∧ Val r (X - Y) := by
  obtain ⟨m, p, e1, f1⟩ := val_read hx
  obtain ⟨n, q, e2, f2⟩ := val_read hy
  obtain ⟨r, h1, h2⟩ := sum_read (neg x) (!neg y) m p n q X (-Y) f1 (by rw [sgn_not, f2]) (by rw [← Int.sub_eq_add_neg]; exact hr)
  refine ⟨r, ?_, by rw [Int.sub_eq_add_neg]; exact h2⟩
  show ((Ieee.double.read x).sum (Ieee.double.read y).opposite).map Ieee.double.write = _
  rw [e1, e2]; exact h1
theorem sgn_xor (s t : Bool) (a b : Nat) : sgn (s ^^ t) (a * b) = sgn s a * sgn t b := by cases s <;> cases t <;> simp [sgn, Int.neg_mul, Int.mul_neg]
theorem mul_exact {x y : Nat} {X Y Z : Int} (hx : Val x X) (hy : Val y Y) (hz : X * Y = Z * ((2 ^ eN : Nat) : Int)) (hr : Rep Z.natAbs) : ∃ r, floatBits .mul .f64 x y = some r ∧ Val r Z := by
  obtain ⟨m, p, e1, f1⟩ := val_read hx
  obtain ⟨n, q, e2, f2⟩ := val_read hy
  have hE : (0 : Int) < ((2 ^ eN : Nat) : Int) := by have := Nat.pow_pos (n := eN) (show 0 < 2 by omega); omega
  have hXY : sgn (neg x ^^ neg y) (m * n * 2 ^ (p + q)) = Z * ((2 ^ eN : Nat) : Int) := by
    rw [← hz, ← f1, ← f2, ← sgn_xor, Nat.pow_add, Nat.mul_mul_mul_comm]
  have habs : m * n * 2 ^ (p + q) = Z.natAbs * 2 ^ eN := by
    have := congrArg Int.natAbs hXY
    rw [sgn_abs, Int.natAbs_mul, Int.natAbs_natCast] at this
    exact this
  have hs : sgn (neg x ^^ neg y) Z.natAbs = Z := by
    have e : sgn (neg x ^^ neg y) (Z.natAbs * 2 ^ eN) = Z * ((2 ^ eN : Nat) : Int) := by rw [← habs]; exact hXY
    rw [sgn_mul] at e
    exact Int.eq_of_mul_eq_mul_right (by omega) e
  have hne := nearest_exact (neg x ^^ neg y) (m * n) (Ieee.double.leastPlace + (p : Int) + (Ieee.double.leastPlace + (q : Int))) _ hr (by
    rw [leastP]
    rcases Nat.lt_or_ge (p + q) eN with h | h
    · rw [show (-(eN : Int) + (p : Int) + (-(eN : Int) + (q : Int)) - -(eN : Int)).toNat = 0 from by omega, show (-(eN : Int) - (-(eN : Int) + (p : Int) + (-(eN : Int) + (q : Int)))).toNat = eN - (p + q) from by omega, Nat.pow_zero, Nat.mul_one]
      have h3 : m * n * 2 ^ (p + q) = Z.natAbs * 2 ^ (eN - (p + q)) * 2 ^ (p + q) := by
        rw [Nat.mul_assoc Z.natAbs, ← Nat.pow_add, show eN - (p + q) + (p + q) = eN from by omega]; exact habs
      exact Nat.eq_of_mul_eq_mul_right (Nat.pow_pos (by omega)) h3
    · rw [show (-(eN : Int) + (p : Int) + (-(eN : Int) + (q : Int)) - -(eN : Int)).toNat = p + q - eN from by omega, show (-(eN : Int) - (-(eN : Int) + (p : Int) + (-(eN : Int) + (q : Int)))).toNat = 0 from by omega, Nat.pow_zero, Nat.mul_one]
      have h3 : m * n * 2 ^ (p + q - eN) * 2 ^ eN = Z.natAbs * 2 ^ eN := by
        rw [Nat.mul_assoc (m * n), ← Nat.pow_add, show p + q - eN + eN = p + q from by omega]; exact habs
      exact Nat.eq_of_mul_eq_mul_right (Nat.pow_pos (by omega)) h3)
  rw [hs] at hne
  refine ⟨_, ?_, hne⟩
  show ((Ieee.double.read x).product (Ieee.double.read y)).map Ieee.double.write = _
  rw [e1, e2]; rfl

/-- few digits are a number -/
theorem rep_few (c e : Nat) (hc : c < 9007199254740992) (he1 : 53 ≤ e) (he2 : e ≤ eN) : Rep (c * 2 ^ e) := by
  have hE := eN_val
  rcases Nat.eq_zero_or_pos c with h0 | h0
  · exact ⟨0, by omega, by rw [h0, Nat.zero_mul]; rfl⟩
  have hlo : 2 ^ c.log2 ≤ c := Nat.log2_self_le (by omega)
  have hhi : c < 2 ^ (c.log2 + 1) := Nat.lt_log2_self
  have ht : c.log2 ≤ 52 := by
    rcases Nat.lt_or_ge 52 c.log2 with h | h
    · have : 2 ^ 53 ≤ 2 ^ c.log2 := Nat.pow_le_pow_right (by omega) h
      omega
    · exact h
  generalize c.log2 = t at *
  have j1 : 2 ^ t * 2 ^ (52 - t) ≤ c * 2 ^ (52 - t) := Nat.mul_le_mul_right _ hlo
  have j2 : c * 2 ^ (52 - t) < 2 ^ (t + 1) * 2 ^ (52 - t) := Nat.mul_lt_mul_of_pos_right hhi (Nat.pow_pos (by omega))
  rw [← Nat.pow_add, show t + (52 - t) = 52 from by omega] at j1
  rw [← Nat.pow_add, show t + 1 + (52 - t) = 53 from by omega] at j2
  refine ⟨(e + t - 52) * 4503599627370496 + c * 2 ^ (52 - t), ?_, ?_⟩
  · have : (e + t - 52) * 4503599627370496 ≤ eN * 4503599627370496 := Nat.mul_le_mul_right _ (by omega)
    omega
  · rw [mv_place _ _ (by omega) (by omega) (by omega), Nat.mul_assoc, ← Nat.pow_add]
    congr 2; omega
theorem val_key {x y : Nat} {X Y : Int} (hx : Val x X) (hy : Val y Y) : (key x < key y ↔ X < Y) ∧ (key x = key y ↔ X = Y) := by
  have kx : key x = sgn (neg x) (rung x) := by unfold key sgn; rfl
  have ky : key y = sgn (neg y) (rung y) := by unfold key sgn; rfl
  rw [kx, ky, ← hx.2.2, ← hy.2.2]
  exact ⟨(sgn_mv_lt _ _ _ _).symm, (sgn_mv_eq _ _ _ _).symm⟩
theorem val_nan {x : Nat} {X : Int} (hx : Val x X) : isNaN x = false := by unfold isNaN; have := hx.2.1; simp; omega
theorem val_order {x y : Nat} {X Y : Int} (hx : Val x X) (hy : Val y Y) : FloatKind.f64.format.order x y = some (compare X Y) := by
  show ordF x y = _
  rw [ordF_key (val_nan hx) (val_nan hy)]
  congr 1
  exact cmp_congr (val_key hx hy).1 (val_key hx hy).2
/-- a whole number as a float -/
theorem val_int (z : Int) (h1 : -32768 ≤ z) (h2 : z ≤ 32767) : Val (floatOfInt .f64 z) (z * ((2 ^ eN : Nat) : Int)) := by
  have hE := eN_val
  have hne := nearest_exact (decide (z < 0)) z.natAbs 0 (z.natAbs * 2 ^ eN) (rep_few _ _ (by omega) (by omega) (by omega)) (by
    rw [leastP, show ((0 : Int) - -(eN : Int)).toNat = eN from by omega, show (-(eN : Int) - 0).toNat = 0 from by omega, Nat.pow_zero, Nat.mul_one])
  rw [sgn_mul, sgn_of] at hne
  exact hne

end Flt
end Go.Proofs.Ytfhjboloielbnaa
