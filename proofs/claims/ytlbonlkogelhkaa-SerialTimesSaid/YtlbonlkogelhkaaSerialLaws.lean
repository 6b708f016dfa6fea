/-
  The walks of the laws SerialCounts, SerialRises, SerialTimes, SerialRounds (signetlaw13): each returns true, for all arguments.
-/
import Derived.Test.YtlbonlkogelhkaaSerial
namespace Go.Proofs.Ytlbonlkogelhkaa
open Go.RowKit
set_option linter.unusedVariables false
namespace Serial

theorem nextU {a : Int} (h : U32 a) : U32 (nextI a) := by unfold U32 nextI at *; split <;> omega
theorem plusU {a b : Int} (h : U32 a) (h' : U32 b) : U32 (plusI a b) := by unfold U32 plusI at *; split <;> omega
theorem addU {a b : Int} (h : U32 a) (h' : U32 b) : U32 (addI a b) := by unfold U32 addI at *; split <;> omega
theorem cmp1 : cmpI 4294967295 0 = -1 := by decide
theorem cmp2 : cmpB 4294967295 0 = true := by decide
theorem cmp3 : cmpB 0 2147483648 = false := by decide
theorem add1 : addI 4294967295 2 = 1 := by decide
theorem add2 : addB 2 = true := by decide
theorem next1 : nextI 4294967295 = 1 := by decide
theorem plus1 : plusI 4294967294 9 = 4294967295 := by decide
theorem due1 : dueB 5 5 = true := by decide

set_option maxHeartbeats 400000 in
theorem known (w : World) : Calls Try.prog 12 #[] w fun e w' => e = .returned (.bool true) ∧ w = w' := by
  have c1 := cmp1
  have c2 := cmp2
  have c3 := cmp3
  have c4 := add1
  have c5 := add2
  have c6 := next1
  have c7 := plus1
  have c8 := due1
  go_enter Try.func12, Try.ntmps12
  go_wp2_with (first | (go_at_call 13; refine (Compare _ _ (by unfold U32; omega) (by unfold U32; omega) _).mono ?_; rintro e w' ⟨rfl, rfl⟩) | (go_at_call 15; refine (Add _ _ (by unfold U32; omega) (by unfold U32; omega) _).mono ?_; rintro e w' ⟨rfl, rfl⟩) | (go_at_call 19; refine (Plus _ _ (by unfold U32; omega) (by unfold U32; omega) _).mono ?_; rintro e w' ⟨rfl, rfl⟩) | (go_at_call 17; refine (Next _ (by unfold U32; omega) _).mono ?_; rintro e w' ⟨rfl, rfl⟩) | (go_at_call 21; refine (Due _ _ (by unfold U32; omega) (by unfold U32; omega) _).mono ?_; rintro e w' ⟨rfl, rfl⟩))
  go_ret
  exact ⟨rfl, rfl⟩

set_option maxHeartbeats 400000 in
theorem SerialCounts (a b : Int) (ha : U32 a) (hb : U32 b) (w : World) : Calls Try.prog 3 #[.int .u32 a, .int .u32 b] w fun e w' => e = .returned (.bool true) ∧ w = w' := by
  go_enter Try.func3, Try.ntmps3
  go_wp2_with (first | (go_at_call 12; refine (known _).mono ?_; rintro e w' ⟨rfl, rfl⟩) | (go_at_call 13; refine (Compare _ _ ha hb _).mono ?_; rintro e w' ⟨rfl, rfl⟩) | (go_at_call 14; refine (RefCompare _ _ ha hb _).mono ?_; rintro e w' ⟨rfl, rfl⟩) | (go_at_call 15; refine (Add _ _ ha hb _).mono ?_; rintro e w' ⟨rfl, rfl⟩) | (go_at_call 16; refine (RefSum _ _ ha hb _).mono ?_; rintro e w' ⟨rfl, rfl⟩) | (go_at_call 19; refine (Plus _ _ ha hb _).mono ?_; rintro e w' ⟨rfl, rfl⟩) | (go_at_call 20; refine (RefPlus _ _ ha hb _).mono ?_; rintro e w' ⟨rfl, rfl⟩) | (go_at_call 17; refine (Next _ ha _).mono ?_; rintro e w' ⟨rfl, rfl⟩) | (go_at_call 18; refine (RefNext _ ha _).mono ?_; rintro e w' ⟨rfl, rfl⟩) | (go_at_call 21; refine (Due _ _ ha hb _).mono ?_; rintro e w' ⟨rfl, rfl⟩))
  go_ret
  exact ⟨ret_bool (by simp [dueB]), rfl⟩

/-- what is added is ahead -/
theorem ahead (a m : Int) (ha : U32 a) (h1 : 0 < m) (h2 : m < 2147483648) : cmpI a (addI a m) = -1 ∧ cmpB a (addI a m) = true ∧ cmpI (addI a m) a = 1 ∧ cmpB (addI a m) a = true := by
  unfold U32 at ha
  have e : addI a m = (a + m) % 4294967296 := by unfold addI; rw [if_neg (by omega)]
  rw [e]
  have e1 : (a - (a + m) % 4294967296) % 4294967296 = 4294967296 - m := by omega
  have e2 : ((a + m) % 4294967296 - a) % 4294967296 = m := by omega
  unfold cmpI cmpB
  rw [e1, e2]
  refine ⟨?_, ?_, ?_, ?_⟩
  · rw [if_neg (by omega), if_neg (by omega), if_neg (by omega)]
  · simp; omega
  · rw [if_neg (by omega), if_neg (by omega), if_pos (by omega)]
  · simp; omega
theorem self (a : Int) : cmpI a a = 0 ∧ cmpB a a = true := by
  unfold cmpI cmpB
  rw [Int.sub_self]
  exact ⟨rfl, rfl⟩
theorem add0 (a : Int) (ha : U32 a) : addI a 0 = a := by
  unfold U32 at ha
  unfold addI
  rw [if_neg (by omega)]; omega
theorem nextAhead (a : Int) (ha : U32 a) : cmpI a (nextI a) = -1 ∧ cmpB a (nextI a) = true ∧ cmpI (nextI a) a = 1 ∧ cmpB (nextI a) a = true := by
  unfold U32 at ha
  unfold nextI
  by_cases h : a = 4294967295
  · subst h; decide
  · rw [if_neg h]
    have := ahead a 1 ha (by omega) (by omega)
    have e : addI a 1 = a + 1 := by unfold addI; rw [if_neg (by omega)]; omega
    rwa [e] at this
theorem next_ne (a : Int) (ha : U32 a) : nextI a ≠ 0 := by
  unfold U32 at ha
  unfold nextI; split <;> omega

set_option maxHeartbeats 400000 in
theorem SerialRises (a n : Int) (ha : U32 a) (hb : U32 n) (w : World) : Calls Try.prog 4 #[.int .u32 a, .int .u32 n] w fun e w' => e = .returned (.bool true) ∧ w = w' := by
  unfold U32 at hb
  have hm : U32 (n % 2147483648) := by unfold U32; omega
  have hs : U32 (addI a (n % 2147483648)) := addU ha hm
  have hx := nextU ha
  obtain ⟨k1, k2, k3, k4⟩ := nextAhead a ha
  have k5 : (nextI a != 0) = true := by simpa using next_ne a ha
  have k6 : addB (n % 2147483648) = true := by unfold addB; simp; omega
  by_cases h : n % 2147483648 = 0
  · have g1 := add0 a ha
    obtain ⟨g2, g3⟩ := self a
    have g4 : (n % 2147483648 == 0) = true := by simpa using h
    rw [← h] at g1
    rw [g1] at hs
    clear h k3 k4
    go_enter Try.func4, Try.ntmps4
    go_wp2_with (first | (go_at_call 12; refine (known _).mono ?_; rintro e w' ⟨rfl, rfl⟩) | (go_at_call 13; refine (Compare _ _ (by assumption) (by assumption) _).mono ?_; rintro e w' ⟨rfl, rfl⟩) | (go_at_call 15; refine (Add _ _ (by assumption) (by assumption) _).mono ?_; rintro e w' ⟨rfl, rfl⟩) | (go_at_call 17; refine (Next _ (by assumption) _).mono ?_; rintro e w' ⟨rfl, rfl⟩))
    go_ret
    exact ⟨rfl, rfl⟩
  · obtain ⟨g1, g2, g3, g4⟩ := ahead a (n % 2147483648) ha (by omega) (by omega)
    have g5 : (n % 2147483648 == 0) = false := by simpa using h
    have g6 : 0 < n % 2147483648 := by omega
    clear h k3 k4
    go_enter Try.func4, Try.ntmps4
    go_wp2_with (first | (go_at_call 12; refine (known _).mono ?_; rintro e w' ⟨rfl, rfl⟩) | (go_at_call 13; refine (Compare _ _ (by assumption) (by assumption) _).mono ?_; rintro e w' ⟨rfl, rfl⟩) | (go_at_call 15; refine (Add _ _ (by assumption) (by assumption) _).mono ?_; rintro e w' ⟨rfl, rfl⟩) | (go_at_call 17; refine (Next _ (by assumption) _).mono ?_; rintro e w' ⟨rfl, rfl⟩))
    go_ret
    exact ⟨rfl, rfl⟩

set_option maxHeartbeats 400000 in
theorem SerialTimes (a b c : Int) (ha : U32 a) (hb : U32 b) (hc : U32 c) (w : World) : Calls Try.prog 6 #[.int .u32 a, .int .u32 b, .int .u32 c] w fun e w' => e = .returned (.bool true) ∧ w = w' := by
  have hp := plusU ha hb
  have k1 : dueB (plusI a b) a = true := by unfold dueB plusI U32 at *; simp; split <;> omega
  have k2 : b ≤ plusI a b := by unfold plusI U32 at *; split <;> omega
  have k3 : plusI a b ≤ plusI (plusI a b) c := by unfold U32 at *; generalize plusI a b = x at *; unfold plusI; split <;> omega
  have k4 : (dueB a (plusI a b) == (plusI a b == a)) = true := by
    have h : a ≤ plusI a b := by unfold plusI U32 at *; split <;> omega
    generalize plusI a b = x at *
    unfold dueB; simp only [beq_iff_eq]; rw [Bool.eq_iff_iff]; simp; omega
  have k5 : (plusI a b == plusI b a) = true := by unfold plusI; rw [Int.add_comm]; simp
  go_enter Try.func6, Try.ntmps6
  go_wp2_with (first | (go_at_call 12; refine (known _).mono ?_; rintro e w' ⟨rfl, rfl⟩) | (go_at_call 19; refine (Plus _ _ (by assumption) (by assumption) _).mono ?_; rintro e w' ⟨rfl, rfl⟩) | (go_at_call 21; refine (Due _ _ (by assumption) (by assumption) _).mono ?_; rintro e w' ⟨rfl, rfl⟩))
  go_ret
  exact ⟨rfl, rfl⟩

/-- 'Next' done so many times -/
def nextN : Nat → Int → Int
  | 0, a => a
  | k + 1, a => nextI (nextN k a)
theorem nextN_u {a : Int} (ha : U32 a) (k : Nat) : U32 (nextN k a) := by
  induction k with
  | zero => exact ha
  | succ k ih => exact nextU ih
/-- so many steps on: the sum that comes round, one more where the nought was passed over -/
theorem nextN_val {a : Int} (ha : U32 a) (k : Nat) (hk : k < 300) : nextN k a = (if a + k < 4294967296 then a + k else a + k - 4294967295) := by
  unfold U32 at ha
  induction k with
  | zero => simp [nextN]; omega
  | succ k ih =>
    have ih := ih (by omega)
    show nextI (nextN k a) = _
    rw [ih]
    unfold nextI
    (repeat' split) <;> omega
theorem nextN_far {a : Int} (ha : U32 a) (k : Nat) (hk : k < 300) (h0 : 0 < k) : cmpI (nextN k a) a = 1 ∧ cmpB (nextN k a) a = true := by
  rw [nextN_val ha k hk]
  unfold U32 at ha
  unfold cmpI cmpB
  constructor
  · (repeat' split) <;> omega
  · split <;> simp <;> omega

set_option maxHeartbeats 400000 in
theorem SerialRounds (a n : Int) (ha : U32 a) (h0 : 0 ≤ n) (h1 : n ≤ 255) (w : World) : Calls Try.prog 5 #[.int .u32 a, .int .u8 n] w fun e w' => e = .returned (.bool true) ∧ w = w' := by
  go_enter Try.func5, Try.ntmps5
  go_wp2_with (first | (go_at_call 12; refine (known _).mono ?_; rintro e w' ⟨rfl, rfl⟩))
  go_loop [5, 6] (fun x i => ∃ k : Nat, k ≤ n.toNat ∧ i = .int .i64 k ∧ x = .int .u32 (nextN k a)) (fun _ i => n.toNat - (intOf i).toNat)
  case atStart => exact ⟨0, Nat.zero_le _, rfl, rfl⟩
  case round =>
    obtain ⟨k, hk, rfl, rfl⟩ := hrel
    have hu := nextN_u ha k
    have hv := nextU hu
    by_cases hlt : (k : Int) < n
    · obtain ⟨g1, g2, g3, g4⟩ := nextAhead _ hu
      have g5 : (nextI (nextN k a) == 0) = false := by simpa using next_ne _ hu
      clear g1 g2
      go_wp2_with (first | (go_at_call 13; refine (Compare _ _ (by assumption) (by assumption) _).mono ?_; rintro e w' ⟨rfl, rfl⟩) | (go_at_call 17; refine (Next _ (by assumption) _).mono ?_; rintro e w' ⟨rfl, rfl⟩))
      go_round
      case rel => exact ⟨k + 1, by omega, by go_num, rfl⟩
      case measure => simp [intOf]; omega
    · by_cases hz : n = 0
      · subst hz
        obtain rfl : k = 0 := by omega
        simp only [nextN]
        go_wp2
        go_ret
        exact ⟨by simp, rfl⟩
      · have e : (k : Int) = n := by omega
        have hz' : (n == 0) = false := by simpa using hz
        obtain ⟨g1, g2⟩ := nextN_far ha k (by omega) (by omega)
        clear hz e
        go_wp2_with (first | (go_at_call 13; refine (Compare _ _ (by assumption) (by assumption) _).mono ?_; rintro e w' ⟨rfl, rfl⟩))
        go_ret
        exact ⟨rfl, rfl⟩

end Serial
end Go.Proofs.Ytlbonlkogelhkaa
