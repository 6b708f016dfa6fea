/-
  The contract of signetlaw10's known.
-/
import Derived.Test.YtfhjboloielbnaaMKnown
import Derived.Test.YtfhjboloielbnaaRank
namespace Go.Proofs.Ytfhjboloielbnaa
open Go.RowKit
set_option linter.unusedVariables false
namespace Meter
open Flt

theorem sortN_srt (xs : List NN) : Srt (sortN xs) := by
  unfold sortN Srt
  refine (List.pairwise_mergeSort ?_ ?_ xs).imp ?_
  · intro a b c h1 h2
    rw [ltN] at *; simp at *; omega
  · intro a b
    rw [ltN, ltN]; simp; omega
  · intro a b h
    rw [ltN] at h; unfold okN; simp at h; omega
theorem sortN_perm (xs : List NN) : (sortN xs).Perm xs := by unfold sortN; exact List.mergeSort_perm _ _
theorem sortN_eq {xs ys : List NN} (hp : ys.Perm xs) (hs : Srt ys) : sortN xs = ys := srt_unique ((sortN_perm xs).trans hp.symm) (sortN_srt xs) hs
theorem rank51 : rankV [4617315517961601024, 4607182418800017408] 4602678819172646912 = 4617315517961601024 := by
  have h5 : W64 4617315517961601024 := by unfold W64; omega
  have h1 : W64 4607182418800017408 := by unfold W64; omega
  have n5 : isNaN 4617315517961601024 = false := by decide
  have n1 : isNaN 4607182418800017408 = false := by decide
  have e : nums [4617315517961601024, 4607182418800017408] = [⟨_, h5, n5⟩, ⟨_, h1, n1⟩] := by
    unfold nums toNN
    rw [List.filterMap_cons, dif_pos ⟨h5, n5⟩]
    simp only
    rw [List.filterMap_cons, dif_pos ⟨h1, n1⟩]
    simp only [List.filterMap_nil]
  unfold rankV
  rw [e, if_neg (by simp)]
  rw [sortN_eq (ys := [⟨_, h1, n1⟩, ⟨_, h5, n5⟩]) (List.Perm.swap _ _ _) (by
    refine List.Pairwise.cons ?_ (List.Pairwise.cons (fun _ h => by cases h) List.Pairwise.nil)
    intro b hb
    rw [List.mem_singleton] at hb
    subst hb
    show okey 4607182418800017408 ≤ okey 4617315517961601024
    decide)]
  rw [show rankAt (List.length [(⟨_, h5, n5⟩ : NN), ⟨_, h1, n1⟩]) 4602678819172646912 = 1 from (show rankAt 2 4602678819172646912 = 1 by decide +kernel)]
  rfl

theorem Added.num {w : World} {T g p v n x : Nat} {w' : World} (h : Added w T g p v n x w') (hx : isNaN x = false) : LoadAt w' T g p (newV p v n x) (n + 1) ∧ w.grownBy w' (some g) := by
  unfold Added at h
  rw [hx] at h
  exact ⟨by simpa using h.1, h.2⟩
theorem Added.nan {w : World} {T g p v n x : Nat} {w' : World} (h : Added w T g p v n x w') (hx : isNaN x = true) : LoadAt w' T g p v n ∧ w.grownBy w' (some g) := by
  unfold Added at h
  rw [hx] at h
  exact ⟨by simpa using h.1, h.2⟩
theorem LoadAt.below {w w' : World} {T g p v n : Nat} (h : LoadAt w T g p v n) (hb : Below w.heap.size w w') : LoadAt w' T g p v n := by
  unfold LoadAt at *
  rw [hb.block g (lt_block h)]; exact h
theorem LoadAt.grown {w w' : World} {T g p v n g2 : Nat} (h : LoadAt w T g p v n) (hb : w.grownBy w' (some g2)) (hne : g ≠ g2) : LoadAt w' T g p v n := by
  unfold LoadAt at *
  rw [hb.block g (lt_block h) (fun e => hne (by cases e; rfl))]; exact h

set_option maxHeartbeats 2000000 in
theorem known (w : World) : Calls Try.prog 10 #[] w fun e w' => e = .returned (.bool true) ∧ Below w.heap.size w w' := by
  have q1 : partV 4602678819172646912 = 4602678819172646912 := by decide +kernel
  have q2 : newV 4602678819172646912 9221120237041090561 0 4607182418800017408 = 4607182418800017408 := by decide +kernel
  have q3 : newV 4602678819172646912 4607182418800017408 1 4613937818241073152 = 4611686018427387904 := by decide +kernel
  have q4 : ordI 9223372036854775808 0 = -1 := by decide +kernel
  have q5 : meanT [4607182418800017408, 4613937818241073152] = 4611686018427387904 := by decide +kernel
  have q7 : bitsT 4607182418800017408 = 4607182418800017408 := by decide +kernel
  have o1 : FloatKind.f64.format.order 4611686018427387904 4611686018427387904 = some .eq := by decide +kernel
  have o2 : FloatKind.f64.format.order 4617315517961601024 4617315517961601024 = some .eq := by decide +kernel
  have Q1 := Lib.hid q1
  have Q2 := Lib.hid q2
  have Q3 := Lib.hid q3
  have Q4 := Lib.hid q4
  have Q5 := Lib.hid q5
  have Q7 := Lib.hid q7
  have Q8 := Lib.hid rank51
  clear q1 q2 q3 q4 q5 q7
  go_enter Try.func10, Try.ntmps10
  go_wp2_with fail
  refine (New 4602678819172646912 _).mono ?_
  rintro e w1 ⟨g, rfl, hg, hL, hb1⟩
  rw [Q1.out] at hL
  go_wp2_with fail
  refine (Add hL (by omega) (by unfold W64; omega) 4607182418800017408 (by unfold W64; omega)).mono ?_
  rintro e w2 ⟨rfl, hA⟩
  obtain ⟨hL2, hg2⟩ := hA.num (by decide)
  rw [Q2.out] at hL2
  clear hA
  go_wp2_with fail
  refine (Add hL2 (by omega) (by unfold W64; omega) 4613937818241073152 (by unfold W64; omega)).mono ?_
  rintro e w3 ⟨rfl, hA⟩
  obtain ⟨hL3, hg3⟩ := hA.num (by decide)
  rw [Q3.out] at hL3
  clear hA
  go_wp2_with (first | (go_at_call 30; refine (CopysignNeg0 _).mono ?_; rintro e w' ⟨rfl, rfl⟩))
  refine (Order 9223372036854775808 0 (by unfold W64; omega) (by unfold W64; omega) _).mono ?_
  rintro e w' ⟨rfl, rfl⟩
  rw [Q4.out]
  go_wp2_with fail
  refine (Mean _ [4607182418800017408, 4613937818241073152] 2 _ (cs_new _ _ ([4607182418800017408, 4613937818241073152].map fV) _) (by decide)).mono ?_
  rintro e w4 ⟨rfl, hb4⟩
  rw [Q5.out]
  have hx4 : Below w3.heap.size w3 w4 := Below.trans ((Below.refl _ _).alloc (Nat.le_refl _) _) (hb4.mono (by simp))
  have hL4 := hL3.below hx4
  go_wp2_with (first | (go_at_call 20; refine (Value_ hL4).mono ?_; rintro e w' ⟨rfl, rfl⟩) | (go_at_call 21; refine (Count_ hL4).mono ?_; rintro e w' ⟨rfl, rfl⟩))
  refine (Rank _ [4617315517961601024, 4607182418800017408] 2 4602678819172646912 _ (cs_new _ _ ([4617315517961601024, 4607182418800017408].map fV) _) (by intro x hx; unfold W64; simp at hx; omega) (by decide) (by unfold W64; omega)).mono ?_
  rintro e w5 ⟨rfl, hb5⟩
  rw [Q8.out]
  go_wp2_with fail
  refine (Bits _ _).mono ?_
  rintro e w' ⟨rfl, rfl⟩
  rw [Q7.out]
  go_wp2_with fail
  go_ret
  refine ⟨rfl, ?_⟩
  have b3 : Below w.heap.size w w3 := (hb1.grown hg2 hb1.size (fun k hk => by cases hk; exact hg)).grown hg3 (by have := hb1.size; have := hg2.size; omega) (fun k hk => by cases hk; exact hg)
  have b4 := b3.trans (hx4.mono b3.size)
  exact (b4.alloc b4.size _).trans (hb5.mono (by have := b4.size; simp; omega))

end Meter
end Go.Proofs.Ytfhjboloielbnaa
