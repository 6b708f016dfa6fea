/-
  Contracts of the laws' help: names held against one another; light names.
-/
import Derived.Test.YtkeimgamjnpcbaaGreatFresh2
namespace Go.Proofs.YtkeimgamjnpcbaaGreat
open Go.RowKit
set_option linter.unusedVariables false
namespace Nm
def NameR (a b : List Lab) (w : World) (i : Value) (wr : World) : Prop :=
  ∃ k : Nat, k ≤ a.length ∧ i = .int .i64 k ∧ a.take k = b.take k ∧ Below w.heap.size w wr
set_option maxRecDepth 100000 in
set_option maxHeartbeats 4000000 in
theorem HName (A B : Option Addr) (a b : List Lab) (ca cb : Nat) (w : World) (hca : Cs w A (a.map strV)) (hcb : Cs w B (b.map strV)) (hla : a.length ≤ 1000000) (hlb : b.length ≤ 1000000) :
    Calls Tryz.prog 32 #[.slice A a.length ca, .slice B b.length cb] w fun e w' => Below w.heap.size w w' ∧ e = .returned (.bool (decide (a = b))) := by
  have HA := Lib.hid hca
  have HB := Lib.hid hcb
  clear hca hcb
  by_cases hl : a.length = b.length
  · have hlb2 : ((a.length : Int) != (b.length : Int)) = false := by simp [hl]
    have HL := Lib.hid hl
    clear hl
    go_enter Tryz.func32, Tryz.ntmps32
    go_wp2_with fail
    go_loopw [5] (NameR a b w) (fun i _ => a.length - (intOf i).toNat)
    case atStart => exact ⟨0, Nat.zero_le _, rfl, rfl, Below.refl _ _⟩
    case round =>
      obtain ⟨k, hk, rfl, htk, hbel⟩ := hrel
      have HT := Lib.hid htk
      clear htk
      by_cases hlt : k < a.length
      · have hlt2 : k < b.length := by have := HL.out; omega
        obtain ⟨ba, oa, rfl, hba, hxa⟩ := Cs.str HA.out hlt
        obtain ⟨bb, ob, rfl, hbb, hxb⟩ := Cs.str HB.out hlt2
        have hxa1 := (hbel.cell (p := ⟨ba, oa + k, none⟩) hba).trans hxa
        have hxb1 := (hbel.cell (p := ⟨bb, ob + k, none⟩) hbb).trans hxb
        have HN : Hid (∀ h : a[k] = b[k], a.take (k + 1) = b.take (k + 1)) := Lib.hid (fun h => by rw [List.take_succ_eq_append_getElem hlt, List.take_succ_eq_append_getElem hlt2, HT.out, h])
        have HD : Hid (a[k] ≠ b[k] → a ≠ b) := Lib.hid (fun h e => h (by subst e; rfl))
        clear hxa hxb
        generalize a[k] = x at *
        generalize b[k] = y at *
        by_cases hxy : x = y
        · subst hxy
          have HN2 := Lib.hid (HN.out rfl)
          clear HN HD
          go_wp2_with fail
          go_region
          go_wp2_with fail
          exact ⟨⟨k + 1, hlt, by go_num, HN2.out, hbel.drew⟩, by simp [intOf]; omega⟩
        · have HD2 := Lib.hid (HD.out hxy)
          have hne : ((strB x).toList == (strB y).toList) = false := by rw [strB_toList, strB_toList, beq_eq_false_iff_ne]; exact hxy
          have hne2 : ((strB x).toList != (strB y).toList) = true := by rw [strB_toList, strB_toList, bne_iff_ne]; exact hxy
          clear HN HD hxy
          go_wp2_with fail
          go_region
          go_wp2_with fail
          go_ret
          exact ⟨hbel.drew, ret_bool (by simp [HD2.out])⟩
      · have HE : Hid (a = b) := Lib.hid (by
          have h1 := HT.out
          have h2 := HL.out
          rw [List.take_of_length_le (by omega), List.take_of_length_le (by omega)] at h1
          exact h1)
        go_wp2_with fail
        go_ret
        exact ⟨hbel, ret_bool (by simp [HE.out])⟩
  · have hlb2 : ((a.length : Int) != (b.length : Int)) = true := by simp; omega
    have HD : Hid (a ≠ b) := Lib.hid (fun e => hl (by rw [e]))
    go_enter Tryz.func32, Tryz.ntmps32
    go_wp2_with fail
    go_ret
    exact ⟨Below.refl _ _, ret_bool (by simp [HD.out])⟩
end Nm
end Go.Proofs.YtkeimgamjnpcbaaGreat
