/-
  Contract of meter.Rank.
-/
import Derived.Test.YtfhjboloielbnaaSort
import Derived.Test.YtfhjboloielbnaaMean
import Derived.Test.YtfhjboloielbnaaRound2
namespace Go.Proofs.Ytfhjboloielbnaa
open Go.RowKit
set_option linter.unusedVariables false
namespace Meter
open Flt

def rankV (l : List Nat) (q : Nat) : Nat := if (nums l).length = 0 then nanB else atN (sortN (nums l)) (rankAt (nums l).length q)

def RankR (l : List Nat) (w : World) (v i : Value) (wr : World) : Prop :=
  ∃ k m : Nat, k ≤ l.length ∧ i = .int .i64 k ∧ m = (nums (l.take k)).length ∧ wr.ownsRow w.heap.size 25 1 v m ((nums (l.take k)).map encN) ∧ Below w.heap.size w wr
set_option maxHeartbeats 2000000 in
theorem Rank (A : Option Addr) (l : List Nat) (cap q : Nat) (w : World) (hc : Cs w A (l.map fV)) (hw : ∀ x ∈ l, W64 x) (hl : l.length ≤ 1000000) (hq : W64 q) :
    Calls Try.prog 16 #[.slice A l.length cap, .float .f64 q] w fun e w' => e = .returned (.float .f64 (rankV l q)) ∧ Below w.heap.size w w' := by
  obtain ⟨i0, hi, hz0, hz1, hz2⟩ := info_parts info_f64
  have HW := Lib.hid hw
  clear hw
  go_enter Try.func16, Try.ntmps16
  go_wp2
  go_loopw [5, 10] (RankR l w) (fun _ i _ => l.length - (intOf i).toNat)
  case atStart => exact ⟨0, 0, Nat.zero_le _, rfl, rfl, World.ownsRow_nil _ _ _ _, Below.refl _ _⟩
  case round =>
    obtain ⟨k, m, hk, rfl, hm, hown, hbel⟩ := hrel
    have hm6 : m ≤ 1000000 := by have := nums_le (l.take k); have := List.length_take_le k l; omega
    have HM := Lib.hid hm
    clear hm
    by_cases hlt : k < l.length
    · obtain ⟨bk, off, rfl, hbl, hc0⟩ := Cs.flt hc hlt
      have hc1 := (hbel.cell (p := ⟨bk, off + k, none⟩) hbl).trans hc0
      have hwk := HW.out l[k] (List.getElem_mem hlt)
      cases nx : isNaN l[k]
      · have HN := Lib.hid (nums_succ_num l k hlt hwk nx)
        go_wp2_with (first | (go_at_call 31; refine (IsNaN _ _).mono ?_; rintro e w' ⟨rfl, rfl⟩) | (at_builtin; refine wpList_push2 hown hbel.size [encN ⟨l[k], hwk, nx⟩] rfl (by simp [encN, Value.oneCell']) hi hz0 hz1 hz2 rfl (by decide) rfl _ _ 30 Try.underlying30 rfl rfl rfl (by unfold maxLen; omega) (by omega) ?_; intro v4 w4 hown4 hbw4; have hbw5 := hbel.trans hbw4))
        refine ⟨⟨k + 1, m + 1, by omega, by go_num, ?_, ?_, hbw5⟩, by simp [intOf]; omega⟩
        · rw [HN.out, List.length_append, ← HM.out]; rfl
        · rw [HN.out, List.map_append]; exact hown4
      · have HN := Lib.hid (nums_succ_nan l k hlt nx)
        go_wp2_with (first | (go_at_call 31; refine (IsNaN _ _).mono ?_; rintro e w' ⟨rfl, rfl⟩))
        refine ⟨⟨k + 1, m, by omega, by go_num, ?_, ?_, hbel⟩, by simp [intOf]; omega⟩
        · rw [HN.out]; exact HM.out
        · rw [HN.out]; exact hown
    · have hkl : k = l.length := by omega
      have hml : m = (nums l).length := by rw [HM.out, hkl, List.take_length]
      rw [hkl, List.take_length] at hown
      have HML := Lib.hid hml
      clear hml hkl
      by_cases h0 : m = 0
      · have h0' : ((m : Int) == 0) = true := by rw [beq_iff_eq]; omega
        have hmz : (m : Int) = 0 := by omega
        have HR : Hid (rankV l q = nanB) := by show _ = _; unfold rankV; rw [if_pos (by have := HML.out; omega)]
        obtain ⟨A2, cap2, rfl, hl2, hc2⟩ := Cs.of_own hown
        clear h0 hmz
        go_wp2_with (first | (go_at_call 37; refine (nan_ _).mono ?_; rintro e w' ⟨rfl, rfl⟩))
        go_ret
        exact ⟨by rw [HR.out]; rfl, hbel⟩
      · have h0' : ((m : Int) == 0) = false := by rw [beq_eq_false_iff_ne]; omega
        obtain ⟨g, cap2, rfl⟩ := own_form hown (by omega)
        have hg := (hown.lt g rfl)
        go_wp2_with fail
        refine (sort_own hown hm6).mono ?_
        rintro e w2 ⟨rfl, hown2, hgr2⟩
        have hb2 : Below w.heap.size w w2 := hbel.grown hgr2 hbel.size (fun k hk => by cases hk; exact hg.1)
        have hsl : (sortN (nums l)).length = m := by unfold sortN; rw [List.length_mergeSort]; exact HML.out.symm
        have hmp : 0 < (sortN (nums l)).length := by omega
        have cell : ∀ j : Nat, j < m → w2.cell? ⟨g, j, none⟩ = some (.float .f64 (atN (sortN (nums l)) j)) := by
          intro j hj
          have hj2 : j < (sortN (nums l)).length := by omega
          rw [hown2.cellAt j (by omega)]
          unfold atN
          simp [hj2, List.getD, encN]
        have HR : Hid (rankV l q = atN (sortN (nums l)) (rankAt m q)) := by show _ = _; unfold rankV; rw [if_neg (by have := HML.out; omega), HML.out]
        have HC := Lib.hid cell
        clear cell hsl hmp
        by_cases hlow : qLow q = true
        · have HA : Hid (rankAt m q = 0) := by show _ = _; unfold rankAt; rw [if_pos hlow]
          have c0 := HC.out 0 (by omega)
          cases hqn : isNaN q
          · have hq0 : FloatKind.f64.format.order q 0 = some .lt := by unfold qLow at hlow; rw [hqn] at hlow; simpa using hlow
            go_wp2_with (first | (go_at_call 31; refine (IsNaN _ _).mono ?_; rintro e w' ⟨rfl, rfl⟩))
            go_ret
            exact ⟨by rw [HR.out, HA.out]; rfl, hb2⟩
          · go_wp2_with (first | (go_at_call 31; refine (IsNaN _ _).mono ?_; rintro e w' ⟨rfl, rfl⟩))
            go_ret
            exact ⟨by rw [HR.out, HA.out]; rfl, hb2⟩
        · have hlow' : isNaN q = false ∧ ¬ FloatKind.f64.format.order q 0 = some .lt := by unfold qLow at hlow; simpa using hlow
          obtain ⟨hqn, hq0⟩ := hlow'
          by_cases hhigh : qHigh q = true
          · have HA : Hid (rankAt m q = m - 1) := by show _ = _; unfold rankAt; rw [if_neg hlow, if_pos hhigh]
            have c0 := HC.out (m - 1) (by omega)
            have hq1 : FloatKind.f64.format.order q 4607182418800017408 = some .gt ∨ FloatKind.f64.format.order q 4607182418800017408 = some .eq := by unfold qHigh at hhigh; simpa using hhigh
            have hq0b : (FloatKind.f64.format.order q 0 == some .lt) = false := by rw [beq_eq_false_iff_ne]; exact hq0
            clear hq0 hhigh hlow
            rcases hq1 with hq1 | hq1
            · go_wp2_with (first | (go_at_call 31; refine (IsNaN _ _).mono ?_; rintro e w' ⟨rfl, rfl⟩))
              go_ret
              exact ⟨by rw [HR.out, HA.out]; rfl, hb2⟩
            · go_wp2_with (first | (go_at_call 31; refine (IsNaN _ _).mono ?_; rintro e w' ⟨rfl, rfl⟩))
              go_ret
              exact ⟨by rw [HR.out, HA.out]; rfl, hb2⟩
          · have hk0 := ordF_key hqn (show isNaN 0 = false by decide)
            have hk1 := ordF_key hqn (show isNaN 4607182418800017408 = false by decide)
            unfold ordF at hk0 hk1
            rw [show key 0 = 0 from by decide] at hk0
            rw [show key 4607182418800017408 = 4607182418800017408 from by decide] at hk1
            have hge : 0 ≤ key q := by
              rcases Int.lt_or_le (key q) 0 with g | g
              · rw [cmp_is_lt g] at hk0; exact absurd hk0 hq0
              · exact g
            have hlt1 : key q < 4607182418800017408 ∧ FloatKind.f64.format.order q 4607182418800017408 = some .lt := by
              rcases Int.lt_trichotomy (key q) 4607182418800017408 with g | g | g
              · rw [cmp_is_lt g] at hk1; exact ⟨g, hk1⟩
              · rw [g, show compare (4607182418800017408 : Int) 4607182418800017408 = .eq from by simp [compare, compareOfLessAndEq]] at hk1
                exfalso; apply hhigh; unfold qHigh; rw [hk1]; rfl
              · rw [cmp_is_gt g] at hk1
                exfalso; apply hhigh; unfold qHigh; rw [hk1]; rfl
            obtain ⟨r, n, hr, hn, hnm⟩ := part_of q m (by omega) hm6 hqn hge hlt1.1
            have HA : Hid (rankAt m q = min n (m - 1)) := by show _ = _; unfold rankAt; rw [if_neg hlow, if_neg hhigh, hr]; simp only; rw [hn]; simp
            have hq1 := hlt1.2
            have hq0b : (FloatKind.f64.format.order q 0 == some .lt) = false := by rw [beq_eq_false_iff_ne]; exact hq0
            have c0 := HC.out (min (n : Int) ((m : Int) - 1)).toNat (by omega)
            have HA2 : Hid (rankAt m q = (min (n : Int) ((m : Int) - 1)).toNat) := by show _ = _; rw [HA.out]; omega
            have hmul := fun t W => run_float_arith (P := Try.prog) W .mul t .f64 q (floatOfInt .f64 m) r hr
            have hcv := fun W => run_convert_float_int (P := Try.prog) W 25 3 .f64 .i64 r n rfl rfl hn
            clear hq0 hhigh hlow hge hlt1 hk0 hk1
            go_wp2_with (first | (go_at_call 31; refine (IsNaN _ _).mono ?_; rintro e w' ⟨rfl, rfl⟩))
            go_ret
            exact ⟨by rw [HR.out, HA2.out]; rfl, hb2⟩

end Meter
end Go.Proofs.Ytfhjboloielbnaa
