/-
  The walks of signetlaw10.MeterMeans, MeterParts.
-/
import Derived.Test.YtfhjboloielbnaaMKnow2
namespace Go.Proofs.Ytfhjboloielbnaa
open Go.RowKit
set_option linter.unusedVariables false
namespace Meter
open Flt

theorem bitsT_idem (b : Nat) : bitsT (bitsT b) = bitsT b := by
  cases h : isNaN b
  · rw [bitsT_num h, bitsT_num h]
  · rw [bitsT_nan h]; decide
theorem opT_told (op : BinOp) (s x : Nat) : bitsT (opT op s x) = opT op s x := by
  unfold opT
  split
  · exact bitsT_idem _
  · decide
theorem meanT_told (l : List Nat) : bitsT (meanT l) = meanT l := by
  unfold meanT
  split
  · decide
  · exact opT_told _ _ _
theorem rank_eq {l : List Nat} {xs : List NN} (hp : xs.Perm (nums l)) (hs : Srt xs) (q : Nat) : (if xs.length = 0 then nanB else atN xs (rankAt xs.length q)) = rankV l q := by
  unfold rankV
  rw [sortN_eq hp hs, hp.length_eq]

set_option maxHeartbeats 2000000 in
theorem MeterMeans (A : Option Addr) (l : List Nat) (cap q : Nat) (w : World) (hc : Cs w A (l.map word64)) (hw : ∀ x ∈ l, W64 x) (hq : W64 q) :
    Calls Try.prog 6 #[.slice A l.length cap, .int .u64 q] w fun e w' => e = .returned (.bool true) ∧ Below w.heap.size w w' := by
  have HW := Lib.hid hw
  clear hw
  by_cases hlen : 100 < l.length
  · have hlen' : (100 : Int) < (l.length : Int) := by omega
    go_enter Try.func6, Try.ntmps6
    go_wp2_with (go_at_call 10; refine (known _).mono ?_; rintro e w1 ⟨rfl, hb1⟩)
    go_ret
    exact ⟨rfl, hb1⟩
  · have hlen' : (l.length : Int) ≤ 100 := by omega
    go_enter Try.func6, Try.ntmps6
    go_wp2_with (go_at_call 10; refine (known _).mono ?_; rintro e w1 ⟨rfl, hb1⟩)
    refine (all _ l _ _ (hc.below hb1) (by omega)).mono ?_
    rintro e w2 ⟨⟨A2, cap2, rfl, hc2⟩, hb2⟩
    go_wp2_with fail
    refine (Mean _ l _ _ hc2 (by omega)).mono ?_
    rintro e w3 ⟨rfl, hb3⟩
    have hc3 := hc2.below hb3
    go_wp2_with fail
    refine (RefMean _ l _ _ hc3 (by omega)).mono ?_
    rintro e w4 ⟨⟨m, rfl, hm⟩, hb4⟩
    have HS : Hid (bitsT (meanT l) = bitsT m) := by show _ = _; rw [hm, meanT_told]
    have hd : decide (bitsT (meanT l) = bitsT m) = true := decide_eq_true HS.out
    have hc4 := hc3.below hb4
    clear hm
    go_wp2_with fail
    refine (same _ _ _).mono ?_
    rintro e w' ⟨rfl, rfl⟩
    rw [hd]
    clear hd
    go_wp2_with (first | (go_at_call 12; refine (at_ _ _).mono ?_; rintro e w' ⟨rfl, rfl⟩))
    refine (Rank _ l _ q _ hc4 HW.out (by omega) hq).mono ?_
    rintro e w5 ⟨rfl, hb5⟩
    have hc5 := hc4.below hb5
    go_wp2_with (first | (go_at_call 12; refine (at_ _ _).mono ?_; rintro e w' ⟨rfl, rfl⟩))
    refine (RefRank _ l _ q _ hc5 HW.out (by omega) hq).mono ?_
    rintro e w6 ⟨⟨xs, hp, hs, rfl⟩, hb6⟩
    rw [rank_eq hp hs q]
    clear hp hs
    go_wp2_with fail
    refine (same _ _ _).mono ?_
    rintro e w' ⟨rfl, rfl⟩
    rw [decide_eq_true rfl]
    go_wp2_with fail
    go_ret
    refine ⟨rfl, ?_⟩
    have k2 := hb1.trans (hb2.mono hb1.size)
    have k3 := k2.trans (hb3.mono k2.size)
    have k4 := k3.trans (hb4.mono k3.size)
    have k5 := k4.trans (hb5.mono k4.size)
    exact k5.trans (hb6.mono k5.size)

end Meter
end Go.Proofs.Ytfhjboloielbnaa
