/-
  What a record's data say: plain Lean, no program in sight (all types but NSEC3).
-/
import Derived.Test.YtkeimgamjnpcbaaGreatParse
namespace Go.Proofs.YtkeimgamjnpcbaaGreat
open Go.RowKit
set_option linter.unusedVariables false
namespace Nm
def openO (b : Lab) : Option (List Lab × Nat) := match parse b with
  | none => none
  | some (n, k) => if 255 < k then none else some (n, k)
theorem openO_some {b : Lab} {n : List Lab} {k : Nat} (h : openO b = some (n, k)) : parse b = some (n, k) ∧ k ≤ 255 ∧ openE b = 0 ∧ openN b = n ∧ openK b = k := by
  unfold openO at h
  unfold openE openN openK
  cases hp : parse b with
  | none => rw [hp] at h; cases h
  | some p =>
    obtain ⟨n', k'⟩ := p
    rw [hp] at h
    simp only at h ⊢
    split at h
    · cases h
    · rename_i h1
      cases h
      rw [if_neg h1, if_neg h1, if_neg h1]
      exact ⟨rfl, by omega, rfl, rfl, rfl⟩
theorem openO_none {b : Lab} (h : openO b = none) : openE b ≠ 0 ∧ openN b = [] ∧ openK b = 0 := by
  unfold openO at h
  unfold openE openN openK
  cases hp : parse b with
  | none => exact ⟨by decide, rfl, rfl⟩
  | some p =>
    obtain ⟨n', k'⟩ := p
    rw [hp] at h
    simp only at h ⊢
    split at h
    · rename_i h1
      rw [if_pos h1, if_pos h1, if_pos h1]
      exact ⟨by decide, rfl, rfl⟩
    · cases h
theorem openO_le {b : Lab} {n : List Lab} {k : Nat} (h : openO b = some (n, k)) : k ≤ b.length ∧ wire n = b.take k ∧ (∀ l ∈ n, 1 ≤ l.length ∧ l.length ≤ 63) ∧ n.length < k := by
  obtain ⟨h1, _⟩ := openO_some h
  exact parse_some b.length b (Nat.le_refl _) h1
/-- a name and nothing behind it -/
def wholeB (b : Lab) : Bool := match openO b with
  | none => false
  | some (_, k) => k == b.length
/-- texts, each behind its length -/
def textsB : Nat → Lab → Bool
  | 0, _ => false
  | _ + 1, [] => true
  | f + 1, c :: r => decide (c.toNat ≤ r.length) && textsB f (r.drop c.toNat)
/-- a SOA's names, how many bytes they take -/
def soaO (b : Lab) : Option (List Lab × List Lab × Nat) := match openO b with
  | none => none
  | some (m, i) => match openO (b.drop i) with
    | none => none
    | some (x, k) => if b.length = i + k + 20 then some (m, x, i + k) else none
/-- data of a type -/
def chk (t : Int) (b : Lab) : Bool := decide (b.length ≤ 8192) &&
  (if t = 1 then b.length == 4 else if t = 28 then b.length == 16 else if t = 2 ∨ t = 5 then wholeB b else if t = 15 then decide (2 ≤ b.length) && wholeB (b.drop 2)
   else if t = 6 then (soaO b).isSome else if t = 16 then !b.isEmpty && textsB (b.length + 1) b else if t = 43 then decide (5 ≤ b.length)
   else if t = 46 then decide (18 ≤ b.length) && (openO (b.drop 18)).isSome else if t = 48 then decide (4 ≤ b.length)
   else if t = 51 then decide (5 ≤ b.length) && b.length == 5 + (b.getD 4 0).toNat else true)
/-- data with its names in small letters -/
def canonO (t : Int) (b : Lab) : Lab :=
  if t = 2 ∨ t = 5 then wire (lower (openN b)) else if t = 15 then b.take 2 ++ wire (lower (openN (b.drop 2)))
  else if t = 6 then (match soaO b with | none => [] | some (m, x, k) => wire (lower m) ++ wire (lower x) ++ b.drop k)
  else if t = 46 then b.take 18 ++ wire (lower (openN (b.drop 18))) ++ b.drop (18 + openK (b.drop 18)) else b
/-- data by which it is held against others -/
def canonD (t : Int) (b : Lab) : Lab := if chk t b then canonO t b else b
/-- numbers, the highest byte first -/
def numOf : Lab → Nat → Nat
  | [], acc => acc
  | c :: r, acc => numOf r ((acc * 256 + c.toNat) % 4294967296)
end Nm
end Go.Proofs.YtkeimgamjnpcbaaGreat
