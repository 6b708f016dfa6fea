/-
  The walks of signetlaw10.MeterParts and MeterEdges.
-/
import Derived.Test.YtfhjboloielbnaaMLoads
import Derived.Test.YtfhjboloielbnaaMMeans
namespace Go.Proofs.Ytfhjboloielbnaa
open Go.RowKit
set_option linter.unusedVariables false
namespace Meter
open Flt

theorem part_one : partV 4607182418800017408 = 4607182418800017408 := by decide +kernel
def v0 : Nat := 9221120237041090561
theorem v0_w : W64 v0 := by unfold W64 v0; omega
set_option maxHeartbeats 2000000 in
theorem MeterParts (a x y : Nat) (ha : W64 a) (hx : W64 x) (hy : W64 y) (w : World) : Calls Try.prog 8 #[.int .u64 a, .int .u64 x, .int .u64 y] w fun e w' => e = .returned (.bool true) ∧ Below w.heap.size w w' := by
  have HP : Hid (partV a = if partOK a then a else 4607182418800017408) := Lib.hid rfl
  unfold partOK at HP
  cases h1 : FloatKind.f64.format.order a 0 == some .gt <;> cases h2 : (FloatKind.f64.format.order a 4607182418800017408 == some .lt || FloatKind.f64.format.order a 4607182418800017408 == some .eq)
  all_goals
    rw [h1, h2] at HP
    simp at HP
    have hwx : W64 (addV (partV a) v0 0 x) := addV_lt v0_w hx
    have hn1 := addN_le 0 x
    have hn2 := addN_le (addN 0 x) y
    go_enter Try.func8, Try.ntmps8
    go_wp2_with (first | (go_at_call 10; refine (known _).mono ?_; rintro e w1 ⟨rfl, hb1⟩) | (go_at_call 12; refine (at_ _ _).mono ?_; rintro e w' ⟨rfl, rfl⟩))
    refine (New a _).mono ?_
    rintro e w2 ⟨g1, rfl, hg1, hL1, hb2⟩
    have hg1w : w.heap.size ≤ g1 := by have := hb1.size; omega
    have hbel2 : Below w.heap.size w w2 := (hb1.trans (hb2.mono hb1.size))
    have HL1 := Lib.hid hL1
    clear hL1
    go_wp2_with (first | (go_at_call 12; refine (at_ _ _).mono ?_; rintro e w' ⟨rfl, rfl⟩))
    refine (Add HL1.out (by omega) v0_w x hx).mono ?_
    rintro e w3 ⟨rfl, hA⟩
    obtain ⟨hL3, hgr3⟩ := hA.at
    clear hA
    have hbel3 := hbel2.grown hgr3 hbel2.size (fun k hk => by cases hk; exact hg1w)
    have HL3 := Lib.hid hL3
    clear hL3 hgr3
    go_wp2_with (first | (go_at_call 12; refine (at_ _ _).mono ?_; rintro e w' ⟨rfl, rfl⟩))
    refine (Add HL3.out (by omega) hwx y hy).mono ?_
    rintro e w4 ⟨rfl, hA⟩
    obtain ⟨hL4, hgr4⟩ := hA.at
    clear hA
    have hbel4 := hbel3.grown hgr4 hbel3.size (fun k hk => by cases hk; exact hg1w)
    have HL4 := Lib.hid hL4
    clear hL4 hgr4
    go_wp2_with fail
    refine (RefNew _ _).mono ?_
    rintro e w5 ⟨g2, rfl, hg2, hL5, hb5⟩
    have hg12 : g1 < g2 := by have := lt_block HL4.out; omega
    have hg2w : w.heap.size ≤ g2 := by omega
    have hbel5 : Below w.heap.size w w5 := hbel4.trans (hb5.mono hbel4.size)
    have HA5 := Lib.hid (HL4.out.below hb5)
    first | rw [part_one, ← HP.out] at hL5 | skip
    have HB5 := Lib.hid hL5
    clear hL5 hb5
    go_wp2_with (first | (go_at_call 12; refine (at_ _ _).mono ?_; rintro e w' ⟨rfl, rfl⟩))
    refine (RefAdd HB5.out (by omega) v0_w x hx).mono ?_
    rintro e w6 ⟨rfl, hA⟩
    obtain ⟨hL6, hgr6⟩ := hA.at
    clear hA
    have HA6 := Lib.hid (HA5.out.grown hgr6 (by omega))
    have hbel6 := hbel5.grown hgr6 hbel5.size (fun k hk => by cases hk; exact hg2w)
    have HB6 := Lib.hid hL6
    clear hL6 hgr6
    go_wp2_with (first | (go_at_call 12; refine (at_ _ _).mono ?_; rintro e w' ⟨rfl, rfl⟩))
    refine (RefAdd HB6.out (by omega) hwx y hy).mono ?_
    rintro e w7 ⟨rfl, hA⟩
    obtain ⟨hL7, hgr7⟩ := hA.at
    clear hA
    have HA7 := Lib.hid (HA6.out.grown hgr7 (by omega))
    have hbel7 := hbel6.grown hgr7 hbel6.size (fun k hk => by cases hk; exact hg2w)
    have c1 := hL7.cells.2.1
    have c2 := hL7.cells.2.2.1
    clear hL7 hgr7
    go_wp2_with fail
    go_quiet ((first
      | (go_at_call 20; exact Calls.quiet_of_same ((Value_ (HA7.out.drewN _)).mono fun e w' ⟨h1, h2⟩ => ⟨h1, h2.symm⟩))
      | (go_at_call 21; exact Calls.quiet_of_same ((Count_ (HA7.out.drewN _)).mono fun e w' ⟨h1, h2⟩ => ⟨h1, h2.symm⟩))
      | (go_at_call 17; exact Calls.quiet_of_same ((same _ _ _).mono fun e w' ⟨h1, h2⟩ => ⟨h1, h2.symm⟩))))
    go_wp2_with fail
    go_ret
    exact ⟨rfl, below_drewN hbel7 _⟩

theorem rank00 : rankV [0, 9223372036854775808] 0 = 9223372036854775808 := by
  have h5 : W64 0 := by unfold W64; omega
  have h1 : W64 9223372036854775808 := by unfold W64; omega
  have n5 : isNaN 0 = false := by decide
  have n1 : isNaN 9223372036854775808 = false := by decide
  have e : nums [0, 9223372036854775808] = [⟨_, h5, n5⟩, ⟨_, h1, n1⟩] := by
    unfold nums toNN
    rw [List.filterMap_cons, dif_pos ⟨h5, n5⟩]
    simp only
    rw [List.filterMap_cons, dif_pos ⟨h1, n1⟩]
    simp only [List.filterMap_nil]
  unfold rankV
  rw [e, if_neg (by simp)]
  rw [sortN_eq (ys := [⟨_, h1, n1⟩, ⟨_, h5, n5⟩]) (List.Perm.swap _ _ _) (by
    refine List.Pairwise.cons ?_ (List.Pairwise.cons (fun _ h => by cases h) List.Pairwise.nil)
    intro b hb
    rw [List.mem_singleton] at hb
    subst hb
    show okey 9223372036854775808 ≤ okey 0
    decide)]
  rw [show rankAt (List.length [(⟨_, h5, n5⟩ : NN), ⟨_, h1, n1⟩]) 0 = 0 from (show rankAt 2 0 = 0 by decide +kernel)]
  rfl
theorem edge_v (x : Nat) : addV 4602678819172646912 9218868437227405312 1 x = if isNaN x then 9218868437227405312 else x := by
  unfold addV newV
  rw [show isFin 9218868437227405312 = false from by decide]
  rfl

set_option maxHeartbeats 2000000 in
theorem MeterEdges (x n : Nat) (hx : W64 x) (w : World) : Calls Try.prog 9 #[.int .u64 x, .int .u8 n] w fun e w' => e = .returned (.bool true) ∧ Below w.heap.size w w' := by
  have Q1 := Lib.hid (show partV 4602678819172646912 = 4602678819172646912 by decide +kernel)
  have Q2 := Lib.hid (show addV 4602678819172646912 9221120237041090561 0 9221120237041090561 = 9221120237041090561 by decide +kernel)
  have Q2n := Lib.hid (show addN 0 9221120237041090561 = 0 by decide +kernel)
  have Q3 := Lib.hid (show addV 4602678819172646912 9221120237041090561 0 9218868437227405312 = 9218868437227405312 by decide +kernel)
  have Q3n := Lib.hid (show addN 0 9218868437227405312 = 1 by decide +kernel)
  have Q4 := Lib.hid (edge_v x)
  have Q5 := Lib.hid (show meanT [9218868437227405312, 18442240474082181120] = 9221120237041090561 by decide +kernel)
  have Q6 := Lib.hid (show meanT [] = 9221120237041090561 by decide +kernel)
  have Q7 := Lib.hid (show meanT [9223372036854775808] = 0 by decide +kernel)
  have Q8 := Lib.hid (show ordI 9221120237041090561 9218868437227405312 = 1 by decide +kernel)
  have Q9 := Lib.hid (show ordI x x = 0 from cmp3_eq rfl)
  have Q10 := Lib.hid rank00
  have o1 : FloatKind.f64.format.order 9221120237041090561 9221120237041090561 = none := by decide +kernel
  have hs := selfNaN x
  have g2 := f64nan
  cases nx : isNaN x
  all_goals
    rw [nx] at hs
    have HX := Lib.hid (show addV 4602678819172646912 9218868437227405312 1 x = _ from Q4.out)
    rw [nx] at HX
    simp only [Bool.false_eq_true, if_false, if_true] at HX
    have HNX := Lib.hid nx
    clear nx Q4
    go_enter Try.func9, Try.ntmps9
    go_wp2_with (first | (go_at_call 10; refine (known _).mono ?_; rintro e w1 ⟨rfl, hb1⟩) | (go_at_call 12; refine (at_ _ _).mono ?_; rintro e w' ⟨rfl, rfl⟩) | (go_at_call 28; refine (Inf1 _).mono ?_; rintro e w' ⟨rfl, rfl⟩))
    refine (New 4602678819172646912 _).mono ?_
    rintro e w2 ⟨g1, rfl, hg1, hL1, hb2⟩
    rw [Q1.out] at hL1
    have hg1w : w.heap.size ≤ g1 := by have := hb1.size; omega
    have hbel2 : Below w.heap.size w w2 := (hb1.trans (hb2.mono hb1.size))
    have HL1 := Lib.hid hL1
    clear hL1
    go_wp2_with (first | (go_at_call 29; refine (MathNaN _).mono ?_; rintro e w' ⟨rfl, rfl⟩))
    refine (Add HL1.out (by omega) v0_w 9221120237041090561 v0_w).mono ?_
    rintro e w3 ⟨rfl, hA⟩
    obtain ⟨hL3, hgr3⟩ := hA.at
    rw [Q2.out, Q2n.out] at hL3
    clear hA
    have hbel3 := hbel2.grown hgr3 hbel2.size (fun k hk => by cases hk; exact hg1w)
    have HL3 := Lib.hid hL3
    clear hL3 hgr3
    go_wp2_with (first | (go_at_call 20; refine (Value_ HL3.out).mono ?_; rintro e w' ⟨rfl, rfl⟩) | (go_at_call 21; refine (Count_ HL3.out).mono ?_; rintro e w' ⟨rfl, rfl⟩))
    refine (Add HL3.out (by omega) v0_w 9218868437227405312 (by unfold W64; omega)).mono ?_
    rintro e w4 ⟨rfl, hA⟩
    obtain ⟨hL4, hgr4⟩ := hA.at
    rw [Q3.out, Q3n.out] at hL4
    clear hA
    have hbel4 := hbel3.grown hgr4 hbel3.size (fun k hk => by cases hk; exact hg1w)
    have HL4 := Lib.hid hL4
    clear hL4 hgr4
    go_wp2_with fail
    refine (Add HL4.out (by omega) (by unfold W64; omega) x hx).mono ?_
    rintro e w5 ⟨rfl, hA⟩
    obtain ⟨hL5, hgr5⟩ := hA.at
    rw [HX.out] at hL5
    clear hA
    have hbel5 := hbel4.grown hgr5 hbel4.size (fun k hk => by cases hk; exact hg1w)
    have HL5 := Lib.hid hL5
    clear hL5 hgr5
    go_wp2_with (first | (go_at_call 20; refine (Value_ HL5.out).mono ?_; rintro e w' ⟨rfl, rfl⟩) | (go_at_call 17; refine (same _ _ _).mono ?_; rintro e w' ⟨rfl, rfl⟩) | (go_at_call 28; refine (InfNeg _).mono ?_; rintro e w' ⟨rfl, rfl⟩))
    refine (Mean _ [9218868437227405312, 18442240474082181120] 2 _ (cs_new _ _ ([9218868437227405312, 18442240474082181120].map fV) _) (by decide)).mono ?_
    rintro e w6 ⟨rfl, hb6⟩
    rw [Q5.out]
    have hbel6 := (hbel5.alloc hbel5.size _).trans (hb6.mono (by have := hbel5.size; simp; omega))
    go_wp2_with fail
    refine (Mean none [] 0 _ (Cs.nil _ _) (by decide)).mono ?_
    rintro e w7 ⟨rfl, hb7⟩
    rw [Q6.out]
    have hbel7 := hbel6.trans (hb7.mono hbel6.size)
    go_wp2_with (first | (go_at_call 30; refine (CopysignNeg0 _).mono ?_; rintro e w' ⟨rfl, rfl⟩))
    refine (Mean _ [9223372036854775808] 1 _ (cs_new _ _ ([9223372036854775808].map fV) _) (by decide)).mono ?_
    rintro e w8 ⟨rfl, hb8⟩
    rw [Q7.out]
    have hbel8 := (hbel7.alloc hbel7.size _).trans (hb8.mono (by have := hbel7.size; simp; omega))
    go_wp2_with (first | (go_at_call 17; refine (same _ _ _).mono ?_; rintro e w' ⟨rfl, rfl⟩))
    refine (Order x x hx hx _).mono ?_
    rintro e w' ⟨rfl, rfl⟩
    rw [Q9.out]
    go_wp2_with (first | (go_at_call 29; refine (MathNaN _).mono ?_; rintro e w' ⟨rfl, rfl⟩))
    refine (Order _ _ v0_w (by unfold W64; omega) _).mono ?_
    rintro e w' ⟨rfl, rfl⟩
    rw [show ordI v0 9218868437227405312 = 1 from Q8.out]
    go_wp2_with (first | (go_at_call 30; refine (CopysignNeg0 _).mono ?_; rintro e w' ⟨rfl, rfl⟩))
    refine (Rank _ [0, 9223372036854775808] 2 0 _ (cs_new _ _ ([0, 9223372036854775808].map fV) _) (by intro x hx; unfold W64; simp at hx; omega) (by decide) (by unfold W64; omega)).mono ?_
    rintro e w9 ⟨rfl, hb9⟩
    rw [Q10.out]
    have hbel9 := (hbel8.alloc hbel8.size _).trans (hb9.mono (by have := hbel8.size; simp; omega))
    go_wp2_with (first | (go_at_call 30; refine (CopysignNeg0 _).mono ?_; rintro e w' ⟨rfl, rfl⟩) | (go_at_call 17; refine (same _ _ _).mono ?_; rintro e w' ⟨rfl, rfl⟩))
    go_ret
    exact ⟨rfl, hbel9⟩

end Meter
end Go.Proofs.Ytfhjboloielbnaa
