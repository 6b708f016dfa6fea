/-
  Contracts of package name: Compare, Same, Within.
-/
import Derived.Test.YtkeimgamjnpcbaaGreatRel2
import Derived.Test.YtkeimgamjnpcbaaGreatCheck
import Derived.Test.YtkeimgamjnpcbaaGreatShelf
import Derived.IntWalk
namespace Go.Proofs.YtkeimgamjnpcbaaGreat
open Go.RowKit
set_option linter.unusedVariables false
namespace Nm
theorem mixed0 : Tryz.prog.follows .mixedOrders = true := by kernel_rfl
/-- labels held against one another, the last ones first -/
def cmpR : List Lab → List Lab → Int
  | [], [] => 0
  | [], _ :: _ => -1
  | _ :: _, [] => 1
  | x :: a, y :: b => if Lib.compareBytes (low x) (low y) = 0 then cmpR a b else Lib.compareBytes (low x) (low y)
def cmpN (a b : List Lab) : Int := cmpR a.reverse b.reverse
theorem strCompare (a b : Lab) (w : World) : Calls Tryz.prog 120 #[.string (strB a), .string (strB b)] w fun e w' => e = .returned (.int .i64 (Lib.compareBytes a b)) ∧ w = w' := by
  have h := Any.strings_Compare Tryz.strCmp (strB a) (strB b) w
  exact h.mono fun e w' ⟨h1, h2⟩ => ⟨h1, h2.symm⟩
theorem cmpR_step {a b : List Lab} {j : Nat} (ha : j < a.length) (hb : j < b.length) : cmpR (a.reverse.drop j) (b.reverse.drop j) =
    if Lib.compareBytes (low (a[a.length - 1 - j]'(by omega))) (low (b[b.length - 1 - j]'(by omega))) = 0 then cmpR (a.reverse.drop (j + 1)) (b.reverse.drop (j + 1)) else Lib.compareBytes (low (a[a.length - 1 - j]'(by omega))) (low (b[b.length - 1 - j]'(by omega))) := by
  rw [List.drop_eq_getElem_cons (l := a.reverse) (by simpa using ha), List.drop_eq_getElem_cons (l := b.reverse) (by simpa using hb)]
  simp only [cmpR, List.getElem_reverse]
theorem cmpR_end {a b : List Lab} {j : Nat} (h : ¬ (j < a.length ∧ j < b.length)) (ha : j ≤ a.length) (hb : j ≤ b.length) : cmpR (a.reverse.drop j) (b.reverse.drop j) = if a.length < b.length then -1 else if b.length < a.length then 1 else 0 := by
  by_cases h1 : j < a.length
  · have h2 : j = b.length := by omega
    rw [List.drop_eq_getElem_cons (l := a.reverse) (by simpa using h1), List.drop_eq_nil_of_le (show b.reverse.length ≤ j by simp; omega), if_neg (by omega), if_pos (by omega)]
    rfl
  · have h2 : j = a.length := by omega
    rw [List.drop_eq_nil_of_le (show a.reverse.length ≤ j by simp; omega)]
    by_cases h3 : j < b.length
    · rw [List.drop_eq_getElem_cons (l := b.reverse) (by simpa using h3), if_pos (by omega)]
      rfl
    · rw [List.drop_eq_nil_of_le (show b.reverse.length ≤ j by simp; omega), if_neg (by omega), if_neg (by omega)]
      rfl
def CmpR (a b : List Lab) (w : World) (i : Value) (wr : World) : Prop :=
  ∃ j : Nat, j ≤ a.length ∧ j ≤ b.length ∧ i = .int .i64 j ∧ cmpN a b = cmpR (a.reverse.drop j) (b.reverse.drop j) ∧ Below w.heap.size w wr
set_option maxRecDepth 100000 in
set_option maxHeartbeats 20000000 in
theorem Compare (A B : Option Addr) (a b : List Lab) (ca cb : Nat) (w : World) (hca : Cs w A (a.map strV)) (hcb : Cs w B (b.map strV)) (ha : Few a) (hb : Few b) :
    Calls Tryz.prog 77 #[.slice A a.length ca, .slice B b.length cb] w fun e w' => Below w.heap.size w w' ∧ e = .returned (.int .i64 (cmpN a b)) := by
  have hla := ha.1
  have hlb := hb.1
  have HA := Lib.hid hca
  have HB := Lib.hid hcb
  have HF := Lib.hid ha
  have HG := Lib.hid hb
  clear hca hcb ha hb
  go_enter Tryz.func77, Tryz.ntmps77
  go_wp2_with fail
  go_loopw [12] (CmpR a b w) (fun i _ => a.length - (intOf i).toNat)
  case atStart => exact ⟨0, Nat.zero_le _, Nat.zero_le _, rfl, rfl, Below.refl _ _⟩
  case round =>
    obtain ⟨j, hja, hjb, rfl, hcmp, hbel⟩ := hrel
    have HC := Lib.hid hcmp
    clear hcmp
    by_cases hlt : j < a.length ∧ j < b.length
    · obtain ⟨h1, h2⟩ := hlt
      have hm1 : a.length - 1 - j < a.length := by omega
      have hm2 : b.length - 1 - j < b.length := by omega
      obtain ⟨ba, oa, rfl, hba, hxa⟩ := Cs.str HA.out hm1
      obtain ⟨bb, ob, rfl, hbb, hxb⟩ := Cs.str HB.out hm2
      have HS := Lib.hid (cmpR_step h1 h2)
      have wa : IntKind.i64.wrap ((a.length : Int) - 1) = (a.length : Int) - 1 := IntWalk.i64_in _ (by omega)
      have wb : IntKind.i64.wrap ((b.length : Int) - 1) = (b.length : Int) - 1 := IntWalk.i64_in _ (by omega)
      have wa2 : IntKind.i64.wrap ((a.length : Int) - 1 - j) = ((a.length - 1 - j : Nat) : Int) := by rw [IntWalk.i64_in _ (by omega)]; omega
      have wb2 : IntKind.i64.wrap ((b.length : Int) - 1 - j) = ((b.length - 1 - j : Nat) : Int) := by rw [IntWalk.i64_in _ (by omega)]; omega
      have s1 := HF.out.2 _ (List.getElem_mem hm1)
      have s2 := HG.out.2 _ (List.getElem_mem hm2)
      generalize a[a.length - 1 - j] = x at *
      generalize b[b.length - 1 - j] = y at *
      go_wp2_with fail
      have hxa1 := (hbel.cell (p := ⟨ba, oa + (a.length - 1 - j), none⟩) hba).trans hxa
      have hxb1 := (hbel.cell (p := ⟨bb, ob + (b.length - 1 - j), none⟩) hbb).trans hxb
      have hbs := hbel.size
      have HL1 : Hid (strB (low x) = strB (low x)) := Lib.hid rfl
      refine wp_region_mono mixed0 (by kernel_rfl) [.is (.slice (some ⟨ba, oa, none⟩) a.length ca), .is (.slice (some ⟨ba, oa, none⟩) a.length ca), .is (.int .i64 a.length), .is (.int .i64 ((a.length : Int) - 1)), .is (.int .i64 j), .is (.int .i64 (a.length - 1 - j : Nat)),
        .is (.pointer (some ⟨ba, oa + (a.length - 1 - j), none⟩)), .is (.string (strB x)), .is (.string (strB (low x))),
        .is (.slice (some ⟨bb, ob, none⟩) b.length cb), .is (.slice (some ⟨bb, ob, none⟩) b.length cb), .is (.int .i64 b.length), .is (.int .i64 ((b.length : Int) - 1)), .is (.int .i64 j), .is (.int .i64 (b.length - 1 - j : Nat)),
        .is (.pointer (some ⟨bb, ob + (b.length - 1 - j), none⟩)), .is (.string (strB y)), .is (.string (strB (low y))), .is (.int .i64 (Lib.compareBytes (low x) (low y))), .is (.int .i64 (Lib.compareBytes (low x) (low y)))] rfl ?_ ?_
      · intro i o hio vals W hE haf
        have e0 := (bcl hE (by omega)).trans hxa1
        have e1 := (bcl hE (by omega)).trans hxb1
        clear hxa hxa1 hxb hxb1
        rcases i with _ | _ | _ | _ | _ | _ | _ | _ | _ | _ | _ | _ | _ | _ | _ | _ | _ | _ | _ | _ | i
        all_goals first
          | (exfalso; simp at hio; done)
          | (simp at hio; subst hio; simp [bindD, rdB, Region.binds, factAt] at haf; simp [opYield_def, yieldUpon, relAct, dstAt, Act.put, Region.wanted, go_sem, haf, e0, e1, Ext.refl, factAt, wa, wb, wa2, wb2, hm1, hm2]; done)
          | skip
        all_goals
          simp at hio
          subst hio
          simp [bindD, rdB, Region.binds, factAt] at haf
          simp [opYield_def, yieldUpon, relAct, dstAt, Act.put, Region.wanted, go_sem, haf, factAt]
        · exact (small x W (by omega)).mono fun e W' h => h
        · exact (small y W (by omega)).mono fun e W' h => h
        · exact (strCompare (low x) (low y) W).mono fun e W' h => ⟨h.1, h.2 ▸ Ext.refl _⟩
      · intro vals W hE hF
        simp [facts] at hF
        simp [relAct, dstAt, Act.put, hF]
        clear hF
        have hb5 := hbel.trans (Below.mono hE hbs)
        generalize Lib.compareBytes (low x) (low y) = c at *
        by_cases hc0 : c = 0
        · have hcb : (c == 0) = true := by simp [hc0]
          have hcb2 : (c != 0) = false := by simp [hc0]
          have HS2 := Lib.hid hc0
          clear hc0
          go_wp2_with fail
          exact ⟨⟨j + 1, h1, h2, by go_num, by rw [HC.out, HS.out, if_pos HS2.out], hb5⟩, by simp [intOf]; omega⟩
        · have hcb : (c == 0) = false := by simp [hc0]
          have hcb2 : (c != 0) = true := by simp [hc0]
          go_wp2_with fail
          go_ret
          exact ⟨hb5, ret_int (by rw [HC.out, HS.out, if_neg hc0])⟩
    · have HE := Lib.hid (cmpR_end hlt hja hjb)
      have hmin : ¬ (j : Int) < min (a.length : Int) (b.length : Int) := by omega
      by_cases h1 : a.length < b.length
      · have HV : Hid (cmpN a b = -1) := Lib.hid (by rw [HC.out, HE.out, if_pos h1])
        clear HC HE
        go_wp2_with fail
        go_ret
        exact ⟨hbel, ret_int HV.out.symm⟩
      · by_cases h2 : b.length < a.length
        · have HV : Hid (cmpN a b = 1) := Lib.hid (by rw [HC.out, HE.out, if_neg h1, if_pos h2])
          clear HC HE
          go_wp2_with fail
          go_ret
          exact ⟨hbel, ret_int HV.out.symm⟩
        · have HV : Hid (cmpN a b = 0) := Lib.hid (by rw [HC.out, HE.out, if_neg h1, if_neg h2])
          clear HC HE
          go_wp2_with fail
          go_ret
          exact ⟨hbel, ret_int HV.out.symm⟩
end Nm
end Go.Proofs.YtkeimgamjnpcbaaGreat
