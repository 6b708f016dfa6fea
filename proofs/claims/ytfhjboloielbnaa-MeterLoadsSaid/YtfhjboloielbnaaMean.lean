/-
  Contracts of the means: meter.Mean and the reference's.
-/
import Derived.Test.YtfhjboloielbnaaLoad
namespace Go.Proofs.Ytfhjboloielbnaa
open Go.RowKit
set_option linter.unusedVariables false
namespace Meter
open Flt

def fV (n : Nat) : Value := .float .f64 n
theorem Cs.flt {w : World} {A : Option Addr} {l : List Nat} (h : Cs w A (l.map fV)) {i : Nat} (hi : i < l.length) :
    ∃ b off, A = some ⟨b, off, none⟩ ∧ b < w.heap.size ∧ w.cell? ⟨b, off + i, none⟩ = some (.float .f64 l[i]) := by
  refine h i _ ?_
  simp [fV, hi]
def nanB : Nat := 9221120237041090561
theorem nanB_nan : isNaN nanB = true := by decide
def opT (op : BinOp) (s x : Nat) : Nat := match floatBits op .f64 s x with
  | some r => bitsT r
  | none => nanB
theorem bitsT_nan {b : Nat} (h : isNaN b = true) : bitsT b = nanB := by unfold bitsT nanB; rw [h]; rfl
theorem bitsT_num {b : Nat} (h : isNaN b = false) : bitsT b = b := by unfold bitsT; rw [h]; rfl
theorem opT_l (op : BinOp) {s t : Nat} (x : Nat) (W : World) (h : bitsT s = t) : bitsT (fr op s x W) = opT op t x := by
  unfold opT
  cases hs : isNaN s
  · rw [bitsT_num hs] at h
    subst h
    cases hf : floatBits op .f64 s x with
    | none => rw [bitsT_nan (fr_none hf W)]
    | some r => rw [fr_some hf]
  · rw [bitsT_nan hs] at h
    subst h
    rw [arith_nan_l op x nanB_nan, bitsT_nan (fr_none (arith_nan_l op x hs) W)]
def sumT (l : List Nat) : Nat := l.foldl (fun s x => opT .add s x) 0
theorem sumT_succ (l : List Nat) (k : Nat) (h : k < l.length) : sumT (l.take (k + 1)) = opT .add (sumT (l.take k)) l[k] := by
  unfold sumT
  rw [List.take_succ_eq_append_getElem h, List.foldl_append]; rfl
def meanT (l : List Nat) : Nat := if l.length = 0 then nanB else opT .quo (sumT l) (floatOfInt .f64 l.length)
theorem quo00 : opT .quo 0 (floatOfInt .f64 0) = nanB := by decide +kernel

theorem bitsT0 : bitsT 0 = 0 := by decide
def MeanR (l : List Nat) (w : World) (s i : Value) (wr : World) : Prop :=
  ∃ k b : Nat, k ≤ l.length ∧ i = .int .i64 k ∧ s = .float .f64 b ∧ bitsT b = sumT (l.take k) ∧ Below w.heap.size w wr

set_option maxHeartbeats 1000000 in
theorem Mean (A : Option Addr) (l : List Nat) (cap : Nat) (w : World) (hc : Cs w A (l.map fV)) (hl : l.length ≤ 1000000) :
    Calls Try.prog 23 #[.slice A l.length cap] w fun e w' => e = .returned (.float .f64 (meanT l)) ∧ Below w.heap.size w w' := by
  have hadd := fun t y z W => run_arith .add (.inl rfl) t y z W
  have hquo := fun t y z W => run_arith .quo (.inr (.inr (.inr rfl))) t y z W
  go_enter Try.func23, Try.ntmps23
  go_wp2
  go_loopw [3, 8] (MeanR l w) (fun _ i _ => l.length - (intOf i).toNat)
  case atStart => exact ⟨0, 0, Nat.zero_le _, rfl, rfl, bitsT0, Below.refl _ _⟩
  case round =>
    obtain ⟨k, b, hk, rfl, rfl, hb, hbel⟩ := hrel
    have HB := Lib.hid hb
    clear hb
    by_cases hlt : k < l.length
    · obtain ⟨bk, off, rfl, hbl, hc0⟩ := Cs.flt hc hlt
      have hc1 := (hbel.cell (p := ⟨bk, off + k, none⟩) hbl).trans hc0
      go_wp2
      refine ⟨⟨k + 1, _, by omega, by go_num, rfl, ?_, below_drewN hbel _⟩, by simp [intOf]; omega⟩
      rw [sumT_succ l k hlt]
      exact opT_l .add _ _ HB.out
    · have hkl : k = l.length := by omega
      have hs : bitsT b = sumT l := by rw [HB.out, hkl, List.take_length]
      have HS := Lib.hid hs
      clear hs hkl
      by_cases h0 : l.length = 0
      · have h0' : ((l.length : Int) == 0) = true := by rw [beq_iff_eq]; omega
        have HM : Hid (meanT l = nanB) := by show _ = _; unfold meanT; rw [if_pos h0]
        clear h0
        go_wp2_with (first | (go_at_call 37; refine (nan_ _).mono ?_; rintro e w' ⟨rfl, rfl⟩))
        go_ret
        exact ⟨by rw [HM.out]; rfl, hbel⟩
      · have h0' : ((l.length : Int) == 0) = false := by rw [beq_eq_false_iff_ne]; omega
        have HM : Hid (meanT l = opT .quo (sumT l) (floatOfInt .f64 l.length)) := by show _ = _; unfold meanT; rw [if_neg h0]
        clear h0
        go_wp2_with (first | (go_at_call 36; refine (told _ _).mono ?_; rintro e w' ⟨rfl, rfl⟩))
        go_ret
        exact ⟨by rw [HM.out, ← opT_l .quo _ _ HS.out]; rfl, below_drewN hbel _⟩

set_option maxHeartbeats 1000000 in
theorem RefMean (A : Option Addr) (l : List Nat) (cap : Nat) (w : World) (hc : Cs w A (l.map fV)) (hl : l.length ≤ 1000000) :
    Calls Try.prog 24 #[.slice A l.length cap] w fun e w' => (∃ m, e = .returned (.float .f64 m) ∧ bitsT m = meanT l) ∧ Below w.heap.size w w' := by
  have hadd := fun t y z W => run_arith .add (.inl rfl) t y z W
  have hquo := fun t y z W => run_arith .quo (.inr (.inr (.inr rfl))) t y z W
  go_enter Try.func24, Try.ntmps24
  go_wp2
  go_loopw [3, 4] (MeanR l w) (fun _ i _ => l.length - (intOf i).toNat)
  case atStart => exact ⟨0, 0, Nat.zero_le _, rfl, rfl, bitsT0, Below.refl _ _⟩
  case round =>
    obtain ⟨k, b, hk, rfl, rfl, hb, hbel⟩ := hrel
    have HB := Lib.hid hb
    clear hb
    by_cases hlt : k < l.length
    · obtain ⟨bk, off, rfl, hbl, hc0⟩ := Cs.flt hc hlt
      have hc1 := (hbel.cell (p := ⟨bk, off + k, none⟩) hbl).trans hc0
      go_wp2
      refine ⟨⟨k + 1, _, by omega, by go_num, rfl, ?_, below_drewN hbel _⟩, by simp [intOf]; omega⟩
      rw [sumT_succ l k hlt]
      exact opT_l .add _ _ HB.out
    · have hkl : k = l.length := by omega
      have hs : bitsT b = sumT l := by rw [HB.out, hkl, List.take_length]
      have HS := Lib.hid hs
      have HM : Hid (meanT l = opT .quo (sumT l) (floatOfInt .f64 l.length)) := by
        show _ = _
        unfold meanT
        by_cases h0 : l.length = 0
        · rw [if_pos h0]
          have hl0 : l = [] := List.eq_nil_of_length_eq_zero h0
          subst hl0
          exact quo00.symm
        · rw [if_neg h0]
      clear hs hkl
      go_wp2
      go_ret
      exact ⟨⟨_, rfl, by rw [HM.out, ← opT_l .quo _ _ HS.out]⟩, below_drewN hbel _⟩

end Meter
end Go.Proofs.Ytfhjboloielbnaa
