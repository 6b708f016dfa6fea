/-
  Words of floats that are numbers, the numbers of a list, and where a rank stands. No walk.
-/
import Derived.Test.YtfhjboloielbnaaMean
namespace Go.Proofs.Ytfhjboloielbnaa
open Go.RowKit
set_option linter.unusedVariables false
namespace Meter
open Flt

/-- a word that is a number -/
structure NN where
  n : Nat
  lt : W64 n
  nn : isNaN n = false
instance : Inhabited NN := ⟨⟨0, by unfold W64; omega, by decide⟩⟩
theorem NN.ext' {a b : NN} (h : a.n = b.n) : a = b := by cases a; cases b; simp only at h; subst h; rfl
def encN (x : NN) : Value := .float .f64 x.n
theorem okeyN {x y : NN} (h : okey x.n = okey y.n) : x = y := by
  apply NN.ext'
  have := (okey_inj x.lt y.lt).1 h
  unfold bitsT at this
  rw [x.nn, y.nn] at this
  exact this
theorem info_f64 : (Try.prog.info? 25).map (fun i => (i.zero, i.size, i.bytes)) = some (some (.float .f64 0), 1, 8) := by kernel_rfl

def toNN (n : Nat) : Option NN := if h : n < 18446744073709551616 ∧ isNaN n = false then some ⟨n, h.1, h.2⟩ else none
def nums (l : List Nat) : List NN := l.filterMap toNN
theorem nums_succ_nan (l : List Nat) (k : Nat) (h : k < l.length) (hn : isNaN l[k] = true) : nums (l.take (k + 1)) = nums (l.take k) := by
  unfold nums
  rw [List.take_succ_eq_append_getElem h, List.filterMap_append]
  have : toNN l[k] = none := by unfold toNN; rw [dif_neg]; rintro ⟨_, h2⟩; rw [hn] at h2; cases h2
  simp [this]
theorem nums_succ_num (l : List Nat) (k : Nat) (h : k < l.length) (hw : W64 l[k]) (hn : isNaN l[k] = false) : nums (l.take (k + 1)) = nums (l.take k) ++ [⟨l[k], hw, hn⟩] := by
  unfold nums
  rw [List.take_succ_eq_append_getElem h, List.filterMap_append]
  have : toNN l[k] = some ⟨l[k], hw, hn⟩ := by unfold toNN; rw [dif_pos ⟨hw, hn⟩]
  simp [this]

def qLow (q : Nat) : Bool := isNaN q || (FloatKind.f64.format.order q 0 == some .lt)
def qHigh (q : Nat) : Bool := FloatKind.f64.format.order q 4607182418800017408 == some .gt || FloatKind.f64.format.order q 4607182418800017408 == some .eq
/-- the place in a row of so many -/
def rankAt (m q : Nat) : Nat := if qLow q then 0 else if qHigh q then m - 1 else
  match floatBits .mul .f64 q (floatOfInt .f64 m) with
  | some r => match floatToIntVal .f64 r .i64 with
    | some n => min n.toNat (m - 1)
    | none => 0
  | none => 0
def atN (xs : List NN) (j : Nat) : Nat := (xs.getD j default).n
theorem nums_le (l : List Nat) : (nums l).length ≤ l.length := List.length_filterMap_le _ _
theorem own_form {w : World} {B : Nat} {e : TypeId} {v : Value} {n : Nat} {xs : List Value} (h : w.ownsRow B e 1 v n xs) (hn : 0 < n) : ∃ g cap, v = .slice (some ⟨g, 0, none⟩) n cap := by
  rcases h.2 with ⟨_, h0⟩ | ⟨g, cap, cur, hv, _⟩
  · omega
  · exact ⟨g, cap, hv⟩


end Meter
end Go.Proofs.Ytfhjboloielbnaa
