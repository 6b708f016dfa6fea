/-
  Contracts of package serial and of the reference's twins (signetref10: Compare, Sum, Next, Plus): each call returns
  what the plain function of this text says, and leaves the world alone. Conditions: the arguments are numbers of uint32.
-/
import Derived.Test.YtlbonlkogelhkaaRows
import Derived.WalkKit
import Derived.WalkSpells
import Derived.WalkLawsBesides
import Derived.OpenShut
namespace Go.Proofs.Ytlbonlkogelhkaa
open Go.RowKit
set_option linter.unusedVariables false
namespace Serial

/-- how numbers that come round stand -/
def cmpI (a b : Int) : Int := if (a - b) % 4294967296 = 0 then 0 else if (a - b) % 4294967296 = 2147483648 then 0 else if (a - b) % 4294967296 < 2147483648 then 1 else -1
def cmpB (a b : Int) : Bool := !decide ((a - b) % 4294967296 = 2147483648)
def addI (a n : Int) : Int := if 2147483648 ≤ n then a else (a + n) % 4294967296
def addB (n : Int) : Bool := decide (n < 2147483648)
def nextI (a : Int) : Int := if a = 4294967295 then 1 else a + 1
def plusI (a b : Int) : Int := if a + b < 4294967295 then a + b else 4294967295
def dueB (a b : Int) : Bool := decide (b ≤ a)

def U32 (a : Int) : Prop := 0 ≤ a ∧ a < 4294967296

theorem u32_of_wf {a : Int} (h : (Lit.int .u32 a).wf = true) : U32 a := by
  have := bounds_u32 h
  unfold U32; omega

theorem tup {k : IntKind} {a b : Int} {x y : Bool} (h : a = b) (h' : x = y) : Ending.returned (.tuple #[.int k a, .bool x]) = .returned (.tuple #[.int k b, .bool y]) := by rw [h, h']
theorem ret_int {k : IntKind} {a b : Int} (h : a = b) : Ending.returned (.int k a) = .returned (.int k b) := by rw [h]
theorem ret_bool {a b : Bool} (h : a = b) : Ending.returned (.bool a) = .returned (.bool b) := by rw [h]

set_option maxHeartbeats 400000 in
theorem Compare (a b : Int) (ha : U32 a) (hb : U32 b) (w : World) : Calls Try.prog 13 #[.int .u32 a, .int .u32 b] w fun e w' => e = .returned (.tuple #[.int .i64 (cmpI a b), .bool (cmpB a b)]) ∧ w = w' := by
  unfold U32 at ha hb
  go_enter Try.func13, Try.ntmps13
  go_wp2
  all_goals
    go_ret2
    refine ⟨tup ?_ ?_, rfl⟩ <;> simp only [cmpI, cmpB, beq_iff_eq, beq_eq_false_iff_ne, ne_eq] at * <;> simp [*] <;> omega

set_option maxHeartbeats 400000 in
theorem RefCompare (a b : Int) (ha : U32 a) (hb : U32 b) (w : World) : Calls Try.prog 14 #[.int .u32 a, .int .u32 b] w fun e w' => e = .returned (.tuple #[.int .i64 (cmpI a b), .bool (cmpB a b)]) ∧ w = w' := by
  unfold U32 at ha hb
  go_enter Try.func14, Try.ntmps14
  go_wp2
  all_goals
    go_ret2
    refine ⟨tup ?_ ?_, rfl⟩ <;> simp only [cmpI, cmpB, beq_iff_eq, beq_eq_false_iff_ne, ne_eq] at * <;> (repeat' split) <;> simp <;> omega

set_option maxHeartbeats 400000 in
theorem Add (a b : Int) (ha : U32 a) (hb : U32 b) (w : World) : Calls Try.prog 15 #[.int .u32 a, .int .u32 b] w fun e w' => e = .returned (.tuple #[.int .u32 (addI a b), .bool (addB b)]) ∧ w = w' := by
  unfold U32 at ha hb
  go_enter Try.func15, Try.ntmps15
  go_wp2
  all_goals
    go_ret2
    refine ⟨tup ?_ ?_, rfl⟩ <;> simp only [addI, addB] <;> (repeat' split) <;> first | rfl | omega | (simp; done) | (simp; omega)

set_option maxHeartbeats 400000 in
theorem RefSum (a b : Int) (ha : U32 a) (hb : U32 b) (w : World) : Calls Try.prog 16 #[.int .u32 a, .int .u32 b] w fun e w' => e = .returned (.tuple #[.int .u32 (addI a b), .bool (addB b)]) ∧ w = w' := by
  unfold U32 at ha hb
  go_enter Try.func16, Try.ntmps16
  go_wp2
  all_goals
    go_ret2
    refine ⟨tup ?_ ?_, rfl⟩ <;> simp only [addI, addB] <;> (repeat' split) <;> first | rfl | omega | (simp; done) | (simp; omega)

set_option maxHeartbeats 400000 in
theorem Plus (a b : Int) (ha : U32 a) (hb : U32 b) (w : World) : Calls Try.prog 19 #[.int .u32 a, .int .u32 b] w fun e w' => e = .returned (.int .u32 (plusI a b)) ∧ w = w' := by
  unfold U32 at ha hb
  go_enter Try.func19, Try.ntmps19
  go_wp2
  all_goals
    go_ret
    refine ⟨ret_int ?_, rfl⟩ <;> simp only [plusI] <;> (repeat' split) <;> omega

set_option maxHeartbeats 400000 in
theorem RefPlus (a b : Int) (ha : U32 a) (hb : U32 b) (w : World) : Calls Try.prog 20 #[.int .u32 a, .int .u32 b] w fun e w' => e = .returned (.int .u32 (plusI a b)) ∧ w = w' := by
  unfold U32 at ha hb
  go_enter Try.func20, Try.ntmps20
  go_wp2
  all_goals
    go_ret
    refine ⟨ret_int ?_, rfl⟩ <;> simp only [plusI] <;> (repeat' split) <;> omega

set_option maxHeartbeats 400000 in
theorem Due (a b : Int) (ha : U32 a) (hb : U32 b) (w : World) : Calls Try.prog 21 #[.int .u32 a, .int .u32 b] w fun e w' => e = .returned (.bool (dueB a b)) ∧ w = w' := by
  unfold U32 at ha hb
  go_enter Try.func21, Try.ntmps21
  go_wp2
  all_goals
    go_ret
    refine ⟨ret_bool ?_, rfl⟩ <;> simp only [dueB] <;> (repeat' split) <;> first | rfl | (simp; done) | (simp; omega)

set_option maxHeartbeats 400000 in
theorem Next (a : Int) (ha : U32 a) (w : World) : Calls Try.prog 17 #[.int .u32 a] w fun e w' => e = .returned (.int .u32 (nextI a)) ∧ w = w' := by
  unfold U32 at ha
  go_enter Try.func17, Try.ntmps17
  go_wp2
  all_goals
    go_ret
    refine ⟨ret_int ?_, rfl⟩ <;> simp only [nextI] <;> (repeat' split) <;> omega

set_option maxHeartbeats 400000 in
theorem RefNext (a : Int) (ha : U32 a) (w : World) : Calls Try.prog 18 #[.int .u32 a] w fun e w' => e = .returned (.int .u32 (nextI a)) ∧ w = w' := by
  unfold U32 at ha
  go_enter Try.func18, Try.ntmps18
  go_wp2
  all_goals
    go_ret
    refine ⟨ret_int ?_, rfl⟩ <;> simp only [nextI] <;> simp at * <;> (repeat' split) <;> omega

end Serial
end Go.Proofs.Ytlbonlkogelhkaa
