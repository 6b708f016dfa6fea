/-
  Contracts of package name: Check.
-/
import Derived.Test.YtkeimgamjnpcbaaGreatName2
import Derived.Test.YtkeimgamjnpcbaaGreatParse
namespace Go.Proofs.YtkeimgamjnpcbaaGreat
open Go.RowKit
set_option linter.unusedVariables false
namespace Nm
theorem wire_len_take {n : List Lab} {k : Nat} (h : k < n.length) : (wire (n.take (k + 1))).length = (wire (n.take k)).length + 1 + n[k].length := by
  unfold wire
  rw [wires_take h]
  simp; omega
def TotR (n : List Lab) (t : Int) : Prop := 1 ≤ t ∧ t ≤ 510 ∧ (t = ((wire n).length : Int) ∨ (255 < t ∧ 255 < (wire n).length))
def longB (n : List Lab) : Bool := n.any fun l => decide (63 < l.length)
def CheckR (n : List Lab) (w : World) (tt lg i : Value) (wr : World) : Prop :=
  ∃ (k : Nat) (t : Int), k ≤ n.length ∧ i = .int .i64 k ∧ tt = .int .i64 t ∧ lg = .bool (longB (n.take k)) ∧ TotR (n.take k) t ∧ (∀ l ∈ n.take k, l ≠ []) ∧ w = wr
theorem longB_take {n : List Lab} {k : Nat} (h : k < n.length) : longB (n.take (k + 1)) = (longB (n.take k) || decide (63 < n[k].length)) := by
  unfold longB
  rw [List.take_succ_eq_append_getElem h, List.any_append]
  simp
theorem nameE_bad {n : List Lab} (h : [] ∈ n) : nameE n = 30 := by
  unfold nameE
  rw [if_pos]
  rw [List.any_eq_true]
  exact ⟨[], h, rfl⟩
theorem nameE_good {n : List Lab} (h : ∀ l ∈ n, l ≠ []) : nameE n = if longB n = true ∨ 255 < (wire n).length then 31 else 0 := by
  unfold nameE
  rw [if_neg]
  · unfold longB
    simp
  · simp
    exact fun hl => h [] hl rfl
set_option maxHeartbeats 1000000 in
theorem Check (A : Option Addr) (n : List Lab) (cap : Nat) (w : World) (hc : Cs w A (n.map strV)) (hf : Few n) :
    Calls Tryz.prog 65 #[.slice A n.length cap] w fun e w' => e = .returned (.int .i64 (nameE n)) ∧ w = w' := by
  have hlen := hf.1
  have HF := Lib.hid hf
  clear hf
  go_enter Tryz.func65, Tryz.ntmps65
  go_wp2_with fail
  go_loopw [3, 4, 9] (CheckR n w) (fun _ _ i _ => n.length - (intOf i).toNat)
  case atStart => exact ⟨0, 1, Nat.zero_le _, rfl, rfl, rfl, ⟨by omega, by omega, .inl (by simp [wire, wires])⟩, by simp, rfl⟩
  case round =>
    obtain ⟨k, t, hk, rfl, rfl, rfl, ⟨ht1, ht2, ht3⟩, hne, rfl⟩ := hrel
    by_cases hlt : k < n.length
    · obtain ⟨bk, off, rfl, hbl, hc0⟩ := Cs.str hc hlt
      have hl6 : n[k].length ≤ 100000 := HF.out.2 n[k] (List.getElem_mem hlt)
      have HM : Hid (n[k] ∈ n) := Lib.hid (List.getElem_mem hlt)
      have HW := Lib.hid (wire_len_take hlt)
      have HL := Lib.hid (longB_take hlt)
      have HN : Hid (∀ l ∈ n.take (k + 1), l ∈ n.take k ∨ l = n[k]) := Lib.hid (by
        intro l hl
        rw [List.take_succ_eq_append_getElem hlt] at hl
        rw [List.mem_append] at hl
        simpa only [List.mem_singleton] using hl)
      have hsz := strB_size n[k]
      have htl := strB_toList n[k]
      generalize n[k] = l at *
      generalize longB (n.take k) = lg at *
      by_cases hl0 : l = []
      · subst hl0
        have HE := Lib.hid (nameE_bad HM.out)
        cases lg
        all_goals
          go_wp2_with fail
          go_ret
          exact ⟨ret_int HE.out.symm, rfl⟩
      · have hpos : 0 < l.length := List.length_pos_iff.2 hl0
        have hne2 : ((strB l).toList == []) = false := by
          rw [htl, beq_eq_false_iff_ne]; exact hl0
        have hne3 : (strB l).toList.isEmpty = false := by
          rw [htl]; simpa using hl0
        have HZ := Lib.hid hl0
        clear hl0 htl
        cases lg
        all_goals
          go_wp2_with fail
          refine ⟨⟨k + 1, _, by omega, by go_num, rfl, ?_, ⟨?_, ?_, ?_⟩, ?_, rfl⟩, by simp [intOf]; omega⟩
          · rw [HL.out]
            first
              | rfl
              | (have e : ((63 : Int) < (l.length : Int)) = (63 < l.length) := propext (by omega)
                 simp [e])
          · split <;> split <;> omega
          · split <;> split <;> omega
          · rw [HW.out]
            split <;> split <;> omega
          · intro x hx
            rcases HN.out x hx with h | h
            · exact hne x h
            · rw [h]; exact HZ.out
    · have hkl : k = n.length := by omega
      rw [hkl, List.take_length] at ht3 hne ⊢
      clear hkl
      have HE := Lib.hid (nameE_good hne)
      generalize longB n = lg at *
      clear hne
      by_cases h5 : 255 < t
      · have h6 : 255 < (wire n).length := by omega
        generalize (wire n).length = m at *
        cases lg
        all_goals
          go_wp2_with fail
          go_ret
          exact ⟨ret_int (by rw [HE.out]; simp [h6]), rfl⟩
      · have h6 : ¬ 255 < (wire n).length := by omega
        generalize (wire n).length = m at *
        cases lg
        all_goals
          go_wp2_with fail
          go_ret
          exact ⟨ret_int (by rw [HE.out]; simp [h6]), rfl⟩
end Nm
end Go.Proofs.YtkeimgamjnpcbaaGreat
