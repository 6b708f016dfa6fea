/-
  The walk of signetlaw10.MeterBetween.
-/
import Derived.Test.YtfhjboloielbnaaMLoads
import Derived.Test.YtfhjboloielbnaaDyad2
import Derived.RegionTactic
import Derived.ChangeAlike
namespace Go.Proofs.Ytfhjboloielbnaa
open Go.RowKit
set_option linter.unusedVariables false
namespace Meter
open Flt

def i16V (z : Int) : Value := .int .i16 z
theorem Cs.i16 {w : World} {A : Option Addr} {l : List Int} (h : Cs w A (l.map i16V)) {i : Nat} (hi : i < l.length) :
    ∃ b off, A = some ⟨b, off, none⟩ ∧ b < w.heap.size ∧ w.cell? ⟨b, off + i, none⟩ = some (.int .i16 l[i]) := by
  refine h i _ ?_
  simp [i16V, hi]
/-- what a value is a multiple of -/
def dv : Nat → Int
  | 0 => 262144
  | 1 => 262144
  | 2 => 32768
  | 3 => 4096
  | 4 => 512
  | 5 => 64
  | _ => 8
theorem div_step {j : Nat} {a x k : Int} (h1 : 1 ≤ j) (h2 : j ≤ 5) (hk : k = 1 ∨ k = 2 ∨ k = 4 ∨ k = 8) (ha : a % dv j = 0) : (x * 262144 - a) % k = 0 ∧ (a + (x * 262144 - a) / k) % dv (j + 1) = 0 := by
  have hj : j = 1 ∨ j = 2 ∨ j = 3 ∨ j = 4 ∨ j = 5 := by omega
  rcases hj with rfl | rfl | rfl | rfl | rfl <;> simp only [dv] at * <;> rcases hk with rfl | rfl | rfl | rfl <;> omega
theorem between_step {a c k L H : Int} (hk : k = 1 ∨ k = 2 ∨ k = 4 ∨ k = 8) (hd : (c - a) % k = 0) (h1 : L ≤ a) (h2 : a ≤ H) (h3 : L ≤ c) (h4 : c ≤ H) : L ≤ a + (c - a) / k ∧ a + (c - a) / k ≤ H := by
  rcases hk with rfl | rfl | rfl | rfl <;> omega
theorem not_lt {x y : Int} (h : y ≤ x) : (some (compare x y) == some .lt) = false := by
  rcases Int.lt_or_eq_of_le h with g | g
  · rw [cmp_is_gt g]; rfl
  · rw [g]; simp [compare, compareOfLessAndEq]
theorem not_gt {x y : Int} (h : x ≤ y) : (some (compare x y) == some .gt) = false := by
  rcases Int.lt_or_eq_of_le h with g | g
  · rw [cmp_is_lt g]; rfl
  · rw [g]; simp [compare, compareOfLessAndEq]
theorem U_mono {a b : Int} (h : a ≤ b) : a * U ≤ b * U := Int.mul_le_mul_of_nonneg_right h (Int.le_of_lt U_pos)
theorem val_i16 {z : Int} (h : -32768 ≤ z ∧ z ≤ 32767) : Val (floatOfInt .f64 z) (z * 262144 * U) := by
  have := val_int z h.1 h.2
  rw [eU, ← Int.mul_assoc] at this
  exact this
theorem min_U (a b : Int) : min (a * 262144 * U) (b * 262144 * U) = min a b * 262144 * U := by
  rcases Int.le_total a b with h | h
  · rw [Int.min_eq_left h, Int.min_eq_left (U_mono (by omega))]
  · rw [Int.min_eq_right h, Int.min_eq_right (U_mono (by omega))]
theorem max_U (a b : Int) : max (a * 262144 * U) (b * 262144 * U) = max a b * 262144 * U := by
  rcases Int.le_total a b with h | h
  · rw [Int.max_eq_right h, Int.max_eq_right (U_mono (by omega))]
  · rw [Int.max_eq_left h, Int.max_eq_left (U_mono (by omega))]

/-- the state ahead of number j -/
def BetS (p : Nat) (j v : Nat) (b1 b2 : Nat) (L H : Int) : Prop :=
  -32768 ≤ L ∧ L ≤ H ∧ H ≤ 32767 ∧ Val b1 (L * 262144 * U) ∧ Val b2 (H * 262144 * U) ∧ W64 v ∧ (1 ≤ j → ∃ a, Val v (a * U) ∧ L * 262144 ≤ a ∧ a ≤ H * 262144 ∧ a % dv j = 0)
/-- a round: what holds behind it -/
theorem bet_step {P : Program} {p j v b1 b2 : Nat} {L H z k : Int} (hp : PartIs p k) (h : BetS p j v b1 b2 L H) (hz : -32768 ≤ z ∧ z ≤ 32767) (hj : j ≤ 5) :
    ∃ c1 c2, (∀ ts t (w : World), (Builtin.min_ ts t #[.float .f64 b1, .float .f64 (floatOfInt .f64 z)]).run P w = .ok (.float .f64 c1) w) ∧
      (∀ ts t (w : World), (Builtin.max_ ts t #[.float .f64 b2, .float .f64 (floatOfInt .f64 z)]).run P w = .ok (.float .f64 c2) w) ∧
      BetS p (j + 1) (newV p v j (floatOfInt .f64 z)) c1 c2 (min L z) (max H z) ∧
      (FloatKind.f64.format.order (newV p v j (floatOfInt .f64 z)) c1 == some .lt) = false ∧ (FloatKind.f64.format.order (newV p v j (floatOfInt .f64 z)) c2 == some .gt) = false := by
  obtain ⟨h1, h2, h3, h4, h5, h6, h7⟩ := h
  have hx := val_i16 hz
  obtain ⟨c1, r1, v1⟩ := run_fmin (P := P) h4 hx
  obtain ⟨c2, r2, v2⟩ := run_fmax (P := P) h5 hx
  rw [min_U] at v1
  rw [max_U] at v2
  have key : ∃ a, Val (newV p v j (floatOfInt .f64 z)) (a * U) ∧ min L z * 262144 ≤ a ∧ a ≤ max H z * 262144 ∧ a % dv (j + 1) = 0 := by
    by_cases h0 : j = 0
    · subst h0
      refine ⟨z * 262144, ?_, by omega, by omega, by simp only [dv]; omega⟩
      unfold newV; rw [if_pos rfl]; exact hx
    · obtain ⟨a, g1, g2, g3, g4⟩ := h7 (by omega)
      obtain ⟨d1, d2⟩ := div_step (x := z) (by omega) hj hp.1 g4
      obtain ⟨e1, e2⟩ := between_step (L := min L z * 262144) (H := max H z * 262144) hp.1 d1 (by omega) (by omega) (by omega) (by omega)
      exact ⟨a + (z * 262144 - a) / k, step_new h0 hp g1 hx (by omega) (by omega) (by omega) (by omega) d1, e1, e2, d2⟩
  obtain ⟨a, g1, g2, g3, g4⟩ := key
  refine ⟨c1, c2, r1, r2, ⟨by omega, by omega, by omega, v1, v2, g1.1, fun _ => ⟨a, g1, g2, g3, g4⟩⟩, ?_, ?_⟩
  · rw [val_order g1 v1]; exact not_lt (U_mono g2)
  · rw [val_order g1 v2]; exact not_gt (U_mono g3)

def BetR (l : List Int) (w : World) (g p : Nat) (s6 s7 i : Value) (wr : World) : Prop :=
  ∃ (j v b1 b2 : Nat) (L H : Int), j ≤ l.length ∧ i = .int .i64 j ∧ s6 = .float .f64 b1 ∧ s7 = .float .f64 b2 ∧ BetS p j v b1 b2 L H ∧ LoadAt wr 58 g p v j ∧ Below w.heap.size w wr
theorem part_is {r : Nat} (h : r < 4) : ∃ p k, (∀ h' : r < ([Value.float FloatKind.f64 4602678819172646912, Value.float FloatKind.f64 4598175219545276416, Value.float FloatKind.f64 4593671619917905920, Value.float FloatKind.f64 4607182418800017408] : List Value).length, ([Value.float FloatKind.f64 4602678819172646912, Value.float FloatKind.f64 4598175219545276416, Value.float FloatKind.f64 4593671619917905920, Value.float FloatKind.f64 4607182418800017408] : List Value)[r]'h' = .float .f64 p) ∧ PartIs p k ∧ partV p = p ∧ W64 p := by
  have hr : r = 0 ∨ r = 1 ∨ r = 2 ∨ r = 3 := by omega
  rcases hr with rfl | rfl | rfl | rfl
  · exact ⟨_, 2, fun _ => rfl, ⟨by omega, part1⟩, by decide +kernel, by unfold W64; omega⟩
  · exact ⟨_, 4, fun _ => rfl, ⟨by omega, part2⟩, by decide +kernel, by unfold W64; omega⟩
  · exact ⟨_, 8, fun _ => rfl, ⟨by omega, part3⟩, by decide +kernel, by unfold W64; omega⟩
  · exact ⟨_, 1, fun _ => rfl, ⟨by omega, part0⟩, by decide +kernel, by unfold W64; omega⟩

set_option maxHeartbeats 2000000 in
theorem MeterBetween (A : Option Addr) (l : List Int) (cap k : Nat) (w : World) (hc : Cs w A (l.map i16V)) (hw : ∀ x ∈ l, -32768 ≤ x ∧ x ≤ 32767) (hk : k < 256) :
    Calls Try.prog 5 #[.slice A l.length cap, .int .u8 k] w fun e w' => e = .returned (.bool true) ∧ Below w.heap.size w w' := by
  have HW := Lib.hid hw
  clear hw
  by_cases hz : l.length = 0
  · have hz' : ((l.length : Int) == 0) = true := by rw [beq_iff_eq]; omega
    clear hz
    go_enter Try.func5, Try.ntmps5
    go_wp2_with (go_at_call 10; refine (known _).mono ?_; rintro e w1 ⟨rfl, hb1⟩)
    go_ret
    exact ⟨rfl, hb1⟩
  · have hz' : ((l.length : Int) == 0) = false := by rw [beq_eq_false_iff_ne]; omega
    have hpos : 0 < l.length := by omega
    clear hz
    by_cases hlen : 6 < l.length
    · have hlen' : (6 : Int) < (l.length : Int) := by omega
      go_enter Try.func5, Try.ntmps5
      go_wp2_with (go_at_call 10; refine (known _).mono ?_; rintro e w1 ⟨rfl, hb1⟩)
      go_ret
      exact ⟨rfl, hb1⟩
    · have hlen' : (l.length : Int) ≤ 6 := by omega
      obtain ⟨r, hr⟩ : ∃ r, k % 4 = r := ⟨_, rfl⟩
      have hr4 : r < 4 := by omega
      obtain ⟨p, kk, hp, hpart, hpv, hpw⟩ := part_is hr4
      have hkr : (k : Int) % 4 = (r : Int) := by omega
      have HP := Lib.hid hpart
      have HPV := Lib.hid hpv
      have HPI := Lib.hid hp
      clear hr hp hpart hpv
      go_enter Try.func5, Try.ntmps5
      go_wp2_with (go_at_call 10; refine (known _).mono ?_; rintro e w1 ⟨rfl, hb1⟩)
      rw [HPI.out]
      refine (New p _).mono ?_
      rintro e w2 ⟨g, rfl, hg, hL, hb2⟩
      rw [HPV.out] at hL
      have hbel2 : Below w.heap.size w w2 := (hb1.alloc hb1.size _).trans (hb2.mono (by have := hb1.size; simp; omega))
      have hgw : w.heap.size ≤ g := by have := hb1.size; simp at hg; omega
      have HL := Lib.hid hL
      clear hL hb2
      obtain ⟨bk, off, rfl, hbl, hc0⟩ := Cs.i16 hc hpos
      have hc1 := (hbel2.cell (p := ⟨bk, off + 0, none⟩) hbl).trans hc0
      rw [Nat.add_zero] at hc1
      have hW0 := HW.out l[0] (List.getElem_mem hpos)
      go_wp2_with fail
      go_quiet (fail)
      go_wp2_with fail
      go_loopw [6, 7, 8] (BetR l w g p) (fun _ _ i _ => l.length - (intOf i).toNat)
      case atStart => exact ⟨0, 9221120237041090561, _, _, l[0], l[0], Nat.zero_le _, rfl, rfl, rfl, ⟨hW0.1, Int.le_refl _, hW0.2, val_i16 hW0, val_i16 hW0, by unfold W64; omega, fun h => by omega⟩, HL.out.drewN _, below_drewN hbel2 _⟩
      case round =>
        obtain ⟨j, v, b1, b2, L, H, hj, rfl, rfl, rfl, hS, hLo, hbw⟩ := hrel
        have HS := Lib.hid hS
        have HLo := Lib.hid hLo
        clear hS hLo hc1 hc0
        by_cases hlt : j < l.length
        · obtain ⟨bk2, off2, he2, hbl2, hc3⟩ := Cs.i16 hc hlt
          cases he2
          have hc1 := (hbw.cell (p := ⟨bk, off + j, none⟩) hbl).trans hc3
          have hWj := HW.out l[j] (List.getElem_mem hlt)
          obtain ⟨c1, c2, r1, r2, hS2, o1, o2⟩ := bet_step (P := Try.prog) HP.out HS.out hWj (by omega)
          have HS2 := Lib.hid hS2
          clear hS2
          have hvx := val_i16 hWj
          have HX := Lib.hid hvx
          have hnx := Lib.hid (val_nan hvx)
          clear hvx
          go_wp2_with fail
          refine (Add HLo.out (by omega) HS.out.2.2.2.2.2.1 _ HX.out.1).mono ?_
          rintro e w4 ⟨rfl, hA4⟩
          obtain ⟨hL4, hgr4⟩ := hA4.num hnx.out
          have hbw4 := hbw.grown hgr4 hbw.size (fun k hk => by cases hk; exact hgw)
          clear hA4 hgr4
          have HL4 := Lib.hid hL4
          clear hL4
          go_wp2_with (first | (go_at_call 20; refine (Value_ HL4.out).mono ?_; rintro e w' ⟨rfl, rfl⟩))
          exact ⟨⟨j + 1, _, c1, c2, _, _, by omega, by go_num, rfl, rfl, HS2.out, HL4.out, hbw4⟩, by simp [intOf]; omega⟩
        · have hjl : j = l.length := by omega
          have hd : ((j : Int) == (l.length : Int)) = true := by rw [beq_iff_eq]; omega
          clear hjl
          go_wp2_with (first | (go_at_call 21; refine (Count_ HLo.out).mono ?_; rintro e w' ⟨rfl, rfl⟩))
          go_ret
          exact ⟨rfl, hbw⟩

end Meter
end Go.Proofs.Ytfhjboloielbnaa
