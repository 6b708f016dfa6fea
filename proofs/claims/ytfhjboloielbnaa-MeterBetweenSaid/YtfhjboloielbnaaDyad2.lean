/-
  Plain mathematics: a value that goes on by halves, quarters, eighths among whole numbers is exact, and between.
-/
import Derived.Test.YtfhjboloielbnaaDyad
import Derived.Test.YtfhjboloielbnaaLoad
namespace Go.Proofs.Ytfhjboloielbnaa
open Go.RowKit
set_option linter.unusedVariables false
namespace Meter
open Flt

/-- the unit: an eighteenth half -/
def U : Int := ((2 ^ (eN - 18) : Nat) : Int)
theorem U_pos : 0 < U := by unfold U; have := Nat.pow_pos (n := eN - 18) (show 0 < 2 by omega); omega
theorem eU : ((2 ^ eN : Nat) : Int) = 262144 * U := by
  have hE := eN_val
  unfold U
  rw [← pow_join 18 (eN - 18) eN (by omega)]
  simp
attribute [irreducible] U
theorem rep_U (a : Int) (h1 : -17179869184 ≤ a) (h2 : a ≤ 17179869184) : Rep (a * U).natAbs := by
  have hE := eN_val
  have : (a * U).natAbs = a.natAbs * 2 ^ (eN - 18) := by unfold U; rw [Int.natAbs_mul, Int.natAbs_natCast]
  rw [this]
  exact rep_few _ _ (by omega) (by omega) (by omega)
theorem val_fin {b : Nat} {V : Int} (h : Val b V) : isFin b = true := by
  unfold isFin
  rw [val_nan h]
  unfold isInf
  have := h.2.1
  simp; omega
theorem val_w64 {b : Nat} {V : Int} (h : Val b V) : W64 b := h.1

/-- the parts -/
theorem part0 : Val 4607182418800017408 (262144 * U) := by
  rw [← eU]
  refine ⟨by omega, by decide, ?_⟩
  rw [show neg 4607182418800017408 = false from by decide, show rung 4607182418800017408 = 4607182418800017408 from by decide, mv_one]; rfl
theorem mv_part (d s : Nat) (hd : d + s + 53 = eN + 1) (h : 0 < d) : mv (d * 4503599627370496 + 4503599627370496) = 2 ^ (eN - s) := by
  have hE := eN_val
  rw [mv_place d 4503599627370496 h (Nat.le_refl _) (by omega), show (4503599627370496 : Nat) = 2 ^ 52 from rfl]
  exact pow_join 52 d _ (by omega)
theorem pU (s c : Nat) (hs : s + c = 18) : ((2 ^ (eN - s) : Nat) : Int) = ((2 ^ c : Nat) : Int) * U := by
  have hE := eN_val
  unfold U
  rw [← pow_join c (eN - 18) (eN - s) (by omega), Int.natCast_mul]
theorem part1 : Val 4602678819172646912 (131072 * U) := by
  have hE := eN_val
  have h := mv_part 1021 1 (by omega) (by omega)
  rw [show (1021 * 4503599627370496 + 4503599627370496 : Nat) = 4602678819172646912 from by omega] at h
  refine ⟨by omega, by decide, ?_⟩
  rw [show neg 4602678819172646912 = false from by decide, show rung 4602678819172646912 = 4602678819172646912 from by decide, h]
  exact pU 1 17 (by omega)
theorem part2 : Val 4598175219545276416 (65536 * U) := by
  have hE := eN_val
  have h := mv_part 1020 2 (by omega) (by omega)
  rw [show (1020 * 4503599627370496 + 4503599627370496 : Nat) = 4598175219545276416 from by omega] at h
  refine ⟨by omega, by decide, ?_⟩
  rw [show neg 4598175219545276416 = false from by decide, show rung 4598175219545276416 = 4598175219545276416 from by decide, h]
  exact pU 2 16 (by omega)
theorem part3 : Val 4593671619917905920 (32768 * U) := by
  have hE := eN_val
  have h := mv_part 1019 3 (by omega) (by omega)
  rw [show (1019 * 4503599627370496 + 4503599627370496 : Nat) = 4593671619917905920 from by omega] at h
  refine ⟨by omega, by decide, ?_⟩
  rw [show neg 4593671619917905920 = false from by decide, show rung 4593671619917905920 = 4593671619917905920 from by decide, h]
  exact pU 3 15 (by omega)
/-- a part of two's powers -/
def PartIs (p : Nat) (k : Int) : Prop := (k = 1 ∨ k = 2 ∨ k = 4 ∨ k = 8) ∧ Val p (262144 / k * U)

/-- one step: exact, and between -/
theorem step_exact {p v x : Nat} {k a c : Int} (hp : PartIs p k) (hv : Val v (a * U)) (hx : Val x (c * U)) (ha1 : -8589934592 ≤ a) (ha2 : a ≤ 8589934592) (hc1 : -8589934592 ≤ c) (hc2 : c ≤ 8589934592) (hd : (c - a) % k = 0) :
    Val (stepV p v x) ((a + (c - a) / k) * U) := by
  obtain ⟨hk, hp⟩ := hp
  have e1 : c * U - a * U = (c - a) * U := by rw [Int.sub_mul]
  obtain ⟨d, g1, g2⟩ := sub_exact hx hv (by rw [e1]; exact rep_U _ (by omega) (by omega))
  rw [e1] at g2
  have hkd : (c - a) / k * k = c - a := by have := Int.mul_ediv_add_emod (c - a) k; rw [Int.mul_comm]; omega
  have hz : 262144 / k * U * ((c - a) * U) = (c - a) / k * U * ((2 ^ eN : Nat) : Int) := by
    rw [eU]
    have e2 : 262144 / k * (c - a) = (c - a) / k * 262144 := by
      generalize (c - a) / k = y at *
      rcases hk with rfl | rfl | rfl | rfl <;> omega
    calc 262144 / k * U * ((c - a) * U) = (262144 / k * (c - a)) * (U * U) := by rw [Int.mul_assoc, Int.mul_left_comm U, ← Int.mul_assoc]
      _ = ((c - a) / k * 262144) * (U * U) := by rw [e2]
      _ = _ := by rw [Int.mul_assoc, Int.mul_assoc, Int.mul_left_comm U]
  have hb : -17179869184 ≤ (c - a) / k ∧ (c - a) / k ≤ 17179869184 := by
    generalize (c - a) / k = y at *
    rcases hk with rfl | rfl | rfl | rfl <;> omega
  obtain ⟨s, g3, g4⟩ := mul_exact hp g2 hz (rep_U _ hb.1 hb.2)
  have e3 : a * U + (c - a) / k * U = (a + (c - a) / k) * U := by rw [Int.add_mul]
  have hb2 : -8589934592 ≤ a + (c - a) / k ∧ a + (c - a) / k ≤ 8589934592 := by
    generalize (c - a) / k = y at *
    rcases hk with rfl | rfl | rfl | rfl <;> omega
  obtain ⟨r, g5, g6⟩ := add_exact hv g4 (by rw [e3]; exact rep_U _ (by omega) (by omega))
  rw [e3] at g6
  have : stepV p v x = r := by
    unfold stepV
    rw [g1]; simp only
    rw [g3]; simp only
    rw [g5]; simp only
    rw [val_fin g6, if_pos rfl]
  rw [this]; exact g6
theorem step_new {p v x n : Nat} {k a c : Int} (hn : n ≠ 0) (hp : PartIs p k) (hv : Val v (a * U)) (hx : Val x (c * U)) (ha1 : -8589934592 ≤ a) (ha2 : a ≤ 8589934592) (hc1 : -8589934592 ≤ c) (hc2 : c ≤ 8589934592) (hd : (c - a) % k = 0) :
    Val (newV p v n x) ((a + (c - a) / k) * U) := by
  unfold newV
  rw [if_neg hn, val_fin hv, if_pos rfl]
  exact step_exact hp hv hx ha1 ha2 hc1 hc2 hd
theorem f64neg (x : Nat) : (FloatKind.f64.decode x).neg = neg x := by
  show (Ieee.double.read x).neg = neg x
  rcases Nat.lt_trichotomy (rung x) 9218868437227405312 with h | h | h
  · obtain ⟨m, p, e, _⟩ := read_num x h; rw [e]; rfl
  · rw [read_inf x h]; rfl
  · have e1 : Ieee.double.signWeight = 9223372036854775808 := by decide
    unfold Ieee.Format.read
    simp only [e1]
    have e2 : Ieee.double.binade = 4503599627370496 := by decide
    have e3 : Ieee.double.infRung = 9218868437227405312 := by decide
    simp only [e2, e3]
    have hr : x % 9223372036854775808 = rung x := rfl
    rw [hr, if_neg (by omega), if_neg (by omega), if_neg (by omega)]
    rfl
theorem run_fmin {P : Program} {x y : Nat} {X Y : Int} (hx : Val x X) (hy : Val y Y) : ∃ r, (∀ ts t w, (Builtin.min_ ts t #[.float .f64 x, .float .f64 y]).run P w = .ok (.float .f64 r) w) ∧ Val r (min X Y) := by
  have ho := val_order hx hy
  rcases Int.lt_trichotomy X Y with g | g | g
  · rw [cmp_is_lt g] at ho
    exact ⟨x, fun ts t w => by simp [Builtin.min_, Builtin.min2, ho], by rw [Int.min_eq_left (by omega)]; exact hx⟩
  · have hc : compare X Y = .eq := by rw [g]; simp [compare, compareOfLessAndEq]
    rw [hc] at ho
    refine ⟨if neg x then x else y, fun ts t w => by simp [Builtin.min_, Builtin.min2, ho, f64neg], ?_⟩
    subst g
    rw [Int.min_self]
    split
    · exact hx
    · exact hy
  · rw [cmp_is_gt g] at ho
    exact ⟨y, fun ts t w => by simp [Builtin.min_, Builtin.min2, ho], by rw [Int.min_eq_right (by omega)]; exact hy⟩
theorem run_fmax {P : Program} {x y : Nat} {X Y : Int} (hx : Val x X) (hy : Val y Y) : ∃ r, (∀ ts t w, (Builtin.max_ ts t #[.float .f64 x, .float .f64 y]).run P w = .ok (.float .f64 r) w) ∧ Val r (max X Y) := by
  have ho := val_order hx hy
  rcases Int.lt_trichotomy X Y with g | g | g
  · rw [cmp_is_lt g] at ho
    exact ⟨y, fun ts t w => by simp [Builtin.max_, Builtin.max2, ho], by rw [Int.max_eq_right (by omega)]; exact hy⟩
  · have hc : compare X Y = .eq := by rw [g]; simp [compare, compareOfLessAndEq]
    rw [hc] at ho
    refine ⟨if neg x then y else x, fun ts t w => by simp [Builtin.max_, Builtin.max2, ho, f64neg], ?_⟩
    subst g
    rw [Int.max_self]
    split
    · exact hy
    · exact hx
  · rw [cmp_is_gt g] at ho
    exact ⟨x, fun ts t w => by simp [Builtin.max_, Builtin.max2, ho], by rw [Int.max_eq_left (by omega)]; exact hx⟩

end Meter
end Go.Proofs.Ytfhjboloielbnaa
