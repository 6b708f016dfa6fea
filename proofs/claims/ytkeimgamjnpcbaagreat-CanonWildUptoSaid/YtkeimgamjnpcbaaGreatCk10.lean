/-
  Texts merged by a program (Pdq3, Pdq4).
-/
import Derived.Test.YtkeimgamjnpcbaaGreatCk9
set_option linter.unusedSimpArgs false
set_option linter.unusedVariables false
/- heapSortOrdered and reverseRangeOrdered at uint16, whatever the row holds. (Printed by a program: wip/gen_pdq3.py.) -/
namespace Go.Proofs.YtkeimgamjnpcbaaGreat
open Go.RowKit
set_option linter.unusedVariables false
set_option linter.unusedSimpArgs false
namespace Nm
def DownR (hi : Nat) (w : World) (g n : Nat) (v : Value) (W : World) : Prop := ∃ k : Nat, v = .int .i64 ((k : Int) - 1) ∧ k ≤ hi ∧ CW w g n W
set_option maxRecDepth 100000 in
set_option maxHeartbeats 20000000 in
theorem heap16 (g n c a b : Nat) (w : World) (h : Row16 w g n) (hc : n ≤ c) (hb : b ≤ n) (hab : a < b) (hn : n ≤ 1000000000) :
    Calls Tryz.prog 201 #[.slice (some ⟨g, 0, none⟩) n c, .int .i64 a, .int .i64 b] w fun e w' => e = .returned (.tuple #[]) ∧ CW w g n w' := by
  go_enter Tryz.func201, Tryz.ntmps201
  go_wp2_with fail
  obtain ⟨m, hm⟩ : ∃ m : Nat, m = b - a := ⟨_, rfl⟩
  obtain ⟨q, hq⟩ : ∃ q : Nat, q = (m - 1) / 2 := ⟨_, rfl⟩
  have e1 : ((b : Int) - (a : Int) - 1) / 2 = (q : Int) := by omega
  have e2 : (b : Int) - (a : Int) = (m : Int) := by omega
  rw [e1, e2]
  have hm1 : a + m ≤ n := by omega
  have hm2 : 1 ≤ m := by omega
  have hq2 : q + 1 ≤ m := by omega
  clear e1 e2 hm hq
  go_loopw [9] (DownR m w g n) (fun i _ => (intOf i + 1).toNat)
  case atStart => exact ⟨q + 1, by show Value.int .i64 _ = Value.int .i64 _; congr 1; omega, by omega, CW.refl h⟩
  case round =>
    obtain ⟨k, rfl, hk, hw⟩ := hrel
    rcases k with _ | k
    · have e0 : ((0 : Nat) : Int) - 1 = -1 := rfl
      rw [e0]
      go_wp2_with fail
      go_loopw [10] (DownR m w g n) (fun i _ => (intOf i + 1).toNat)
      case atStart => exact ⟨m, rfl, by omega, hw⟩
      case round =>
        clear hw hk e0
        obtain ⟨k, rfl, hk, hw⟩ := hrel
        rcases k with _ | k
        · have e0 : ((0 : Nat) : Int) - 1 = -1 := rfl
          rw [e0]
          go_wp2_with fail
          refine bodyPost_end (results_none rfl _ _ _) rfl ?_
          exact ⟨rfl, hw⟩
        · have e0 : ((k + 1 : Nat) : Int) - 1 = (k : Int) := by omega
          rw [e0]
          clear e0
          have hwD := hw.drew
          go_upto_region 10 with fail
          refine wp_region_c mixed0 (by kernel_rfl) (CW w g n) hwD [(· = .slice (some ⟨g, 0, none⟩) n c), (· = .int .i64 (a)), (· = .slice (some ⟨g, 0, none⟩) n c), (· = .int .i64 (a)), (· = .int .i64 (k)), (· = .int .i64 (a + k : Nat)), (· = .slice (some ⟨g, 0, none⟩) n c), (· = .int .i64 (a)), (· = .int .i64 (k)), (· = .int .i64 (a + k : Nat)), (· = .pointer (some ⟨g, a + k, none⟩)), isU, (· = .slice (some ⟨g, 0, none⟩) n c), (· = .int .i64 (a)), (· = .pointer (some ⟨g, a, none⟩)), isU, (· = .pointer (some ⟨g, a, none⟩)), fun _ => True, (· = .pointer (some ⟨g, a + k, none⟩)), fun _ => True] ?_ ?_
          · intro ix q hio vals W hC haf
            obtain ⟨x0, q0, hx0⟩ := hC.2.cell (a + k) (by omega)
            have f0 := hC.2.frozen (a + k)
            have t0 : isU (.int .u16 x0) := isU_mk _ hx0
            obtain ⟨x1, q1, hx1⟩ := hC.2.cell (a) (by omega)
            have f1 := hC.2.frozen (a)
            have t1 : isU (.int .u16 x1) := isU_mk _ hx1
            have r0 : IntKind.i64.wrap ((a : Int) + (k : Int)) = (a : Int) + (k : Int) := by first | omega | exact IntWalk.i64_in _ (by omega) | go_num
            have r1 : ((a : Int) + (k : Int)).toNat = (a) + (k) := by first | omega | exact IntWalk.i64_in _ (by omega) | go_num
            have r2 : 0 ≤ (a : Int) + (k : Int) ∧ (a : Int) + (k : Int) < (n : Int) := by first | omega | exact IntWalk.i64_in _ (by omega) | go_num
            have r3 : a < n := by first | omega | exact IntWalk.i64_in _ (by omega) | go_num
            have r4 : a + k < n := by first | omega | exact IntWalk.i64_in _ (by omega) | go_num
            rcases ix with _ | _ | _ | _ | _ | _ | _ | _ | _ | _ | _ | _ | _ | _ | _ | _ | _ | _ | _ | _ | ix
            · simp at hio; subst hio; simp [bindD, rdB, Region.binds] at haf; simp [opYield_def, yieldUpon, yielded, relAct, dstAt, Act.put, Region.wanted, go_sem, hC, isU_mk, isB_mk, *]
            · simp at hio; subst hio; simp [bindD, rdB, Region.binds] at haf; simp [opYield_def, yieldUpon, yielded, relAct, dstAt, Act.put, Region.wanted, go_sem, hC, isU_mk, isB_mk, *]
            · simp at hio; subst hio; simp [bindD, rdB, Region.binds] at haf; simp [opYield_def, yieldUpon, yielded, relAct, dstAt, Act.put, Region.wanted, go_sem, hC, isU_mk, isB_mk, *]
            · simp at hio; subst hio; simp [bindD, rdB, Region.binds] at haf; simp [opYield_def, yieldUpon, yielded, relAct, dstAt, Act.put, Region.wanted, go_sem, hC, isU_mk, isB_mk, *]
            · simp at hio; subst hio; simp [bindD, rdB, Region.binds] at haf; simp [opYield_def, yieldUpon, yielded, relAct, dstAt, Act.put, Region.wanted, go_sem, hC, isU_mk, isB_mk, *]
            · simp at hio; subst hio; simp [bindD, rdB, Region.binds] at haf; simp [opYield_def, yieldUpon, yielded, relAct, dstAt, Act.put, Region.wanted, go_sem, hC, isU_mk, isB_mk, *]
            · simp at hio; subst hio; simp [bindD, rdB, Region.binds] at haf; simp [opYield_def, yieldUpon, yielded, relAct, dstAt, Act.put, Region.wanted, go_sem, hC, isU_mk, isB_mk, *]
            · simp at hio; subst hio; simp [bindD, rdB, Region.binds] at haf; simp [opYield_def, yieldUpon, yielded, relAct, dstAt, Act.put, Region.wanted, go_sem, hC, isU_mk, isB_mk, *]
            · simp at hio; subst hio; simp [bindD, rdB, Region.binds] at haf; simp [opYield_def, yieldUpon, yielded, relAct, dstAt, Act.put, Region.wanted, go_sem, hC, isU_mk, isB_mk, *]
            · simp at hio; subst hio; simp [bindD, rdB, Region.binds] at haf; simp [opYield_def, yieldUpon, yielded, relAct, dstAt, Act.put, Region.wanted, go_sem, hC, isU_mk, isB_mk, *]
            · simp at hio; subst hio; simp [bindD, rdB, Region.binds] at haf; simp [opYield_def, yieldUpon, yielded, relAct, dstAt, Act.put, Region.wanted, go_sem, hC, isU_mk, isB_mk, *]
            · simp at hio; subst hio; simp [bindD, rdB, Region.binds] at haf; simp [opYield_def, yieldUpon, yielded, relAct, dstAt, Act.put, Region.wanted, go_sem, hC, isU_mk, isB_mk, *]
            · simp at hio; subst hio; simp [bindD, rdB, Region.binds] at haf; simp [opYield_def, yieldUpon, yielded, relAct, dstAt, Act.put, Region.wanted, go_sem, hC, isU_mk, isB_mk, *]
            · simp at hio; subst hio; simp [bindD, rdB, Region.binds] at haf; simp [opYield_def, yieldUpon, yielded, relAct, dstAt, Act.put, Region.wanted, go_sem, hC, isU_mk, isB_mk, *]
            · simp at hio; subst hio; simp [bindD, rdB, Region.binds] at haf; simp [opYield_def, yieldUpon, yielded, relAct, dstAt, Act.put, Region.wanted, go_sem, hC, isU_mk, isB_mk, *]
            · simp at hio; subst hio; simp [bindD, rdB, Region.binds] at haf; simp [opYield_def, yieldUpon, yielded, relAct, dstAt, Act.put, Region.wanted, go_sem, hC, isU_mk, isB_mk, *]
            · simp at hio; subst hio; simp [bindD, rdB, Region.binds] at haf; simp [opYield_def, yieldUpon, yielded, relAct, dstAt, Act.put, Region.wanted, go_sem, hC, isU_mk, isB_mk, *]
            · simp at hio; subst hio; simp [bindD, rdB, Region.binds] at haf; first | (obtain ⟨e1, y2, e2, l2⟩ := haf; simp [opYield_def, yieldUpon, yielded, relAct, dstAt, Act.put, Region.wanted, go_sem, hC, isU_mk, isB_mk, *]; exact hC.set _ _ l2) | (obtain ⟨⟨y2, e2, l2⟩, e1⟩ := haf; simp [opYield_def, yieldUpon, yielded, relAct, dstAt, Act.put, Region.wanted, go_sem, hC, isU_mk, isB_mk, *]; exact hC.set _ _ l2)
            · simp at hio; subst hio; simp [bindD, rdB, Region.binds] at haf; simp [opYield_def, yieldUpon, yielded, relAct, dstAt, Act.put, Region.wanted, go_sem, hC, isU_mk, isB_mk, *]
            · simp at hio; subst hio; simp [bindD, rdB, Region.binds] at haf; first | (obtain ⟨e1, y2, e2, l2⟩ := haf; simp [opYield_def, yieldUpon, yielded, relAct, dstAt, Act.put, Region.wanted, go_sem, hC, isU_mk, isB_mk, *]; exact hC.set _ _ l2) | (obtain ⟨⟨y2, e2, l2⟩, e1⟩ := haf; simp [opYield_def, yieldUpon, yielded, relAct, dstAt, Act.put, Region.wanted, go_sem, hC, isU_mk, isB_mk, *]; exact hC.set _ _ l2)
            · exfalso; simp at hio
          · intro vals W ac hC hF hac
            simp [relAct, dstAt, Act.put] at hac
            subst hac
            clear hF
            have hwD := hC.drew
            go_wp2_with fail
            refine (sift16 g n c 0 k a W hC.2 hc (by omega) (by omega) hn).mono ?_
            rintro e w2 ⟨rfl, hw2⟩
            have hw3 := hC.trans hw2
            go_wp2_with fail
            exact ⟨⟨k, by go_num, by omega, hw3⟩, by simp [intOf]⟩
    · have e0 : ((k + 1 : Nat) : Int) - 1 = (k : Int) := by omega
      rw [e0]
      clear e0
      go_wp2_with fail
      refine (sift16 g n c k m a wr hw.2 hc (by omega) (by omega) hn).mono ?_
      rintro e w2 ⟨rfl, hw2⟩
      have hw3 := hw.trans hw2
      go_wp2_with fail
      exact ⟨⟨k, by go_num, by omega, hw3⟩, by simp [intOf]⟩
set_option maxRecDepth 100000 in
set_option maxHeartbeats 20000000 in
theorem rev16 (g n c a b : Nat) (w : World) (h : Row16 w g n) (hc : n ≤ c) (hb : b ≤ n) (hab : a < b) (hn : n ≤ 1000000000) :
    Calls Tryz.prog 204 #[.slice (some ⟨g, 0, none⟩) n c, .int .i64 a, .int .i64 b] w fun e w' => e = .returned (.tuple #[]) ∧ CW w g n w' := by
  go_enter Tryz.func204, Tryz.ntmps204
  go_wp2_with fail
  have hjb : ((b : Int) - 1) = ((b - 1 : Nat) : Int) := by omega
  rw [hjb]
  clear hjb
  go_loopw [6, 7] (Idx2 a b 0 (b - 1) w g n) (fun i j _ => (intOf j).toNat)
  case atStart => exact ⟨a, b - 1, by go_num, by go_num, by omega, by omega, by omega, by omega, CW.refl h⟩
  case round =>
    obtain ⟨i, j, rfl, rfl, hi1, hi2, hj1, hj2, hw⟩ := hrel
    have hwD := hw.drew
    by_cases hij : i < j
    · go_upto_region 3 with fail
      refine wp_region_c mixed0 (by kernel_rfl) (CW w g n) hwD [(· = .slice (some ⟨g, 0, none⟩) n c), (· = .int .i64 (i)), (· = .slice (some ⟨g, 0, none⟩) n c), (· = .int .i64 (j)), (· = .slice (some ⟨g, 0, none⟩) n c), (· = .int .i64 (j)), (· = .pointer (some ⟨g, j, none⟩)), isU, (· = .slice (some ⟨g, 0, none⟩) n c), (· = .int .i64 (i)), (· = .pointer (some ⟨g, i, none⟩)), isU, (· = .pointer (some ⟨g, i, none⟩)), fun _ => True, (· = .pointer (some ⟨g, j, none⟩)), fun _ => True] ?_ ?_
      · intro ix q hio vals W hC haf
        obtain ⟨x0, q0, hx0⟩ := hC.2.cell (i) (by omega)
        have f0 := hC.2.frozen (i)
        have t0 : isU (.int .u16 x0) := isU_mk _ hx0
        obtain ⟨x1, q1, hx1⟩ := hC.2.cell (j) (by omega)
        have f1 := hC.2.frozen (j)
        have t1 : isU (.int .u16 x1) := isU_mk _ hx1
        have r0 : i < n := by first | omega | exact IntWalk.i64_in _ (by omega) | go_num
        have r1 : j < n := by first | omega | exact IntWalk.i64_in _ (by omega) | go_num
        rcases ix with _ | _ | _ | _ | _ | _ | _ | _ | _ | _ | _ | _ | _ | _ | _ | _ | ix
        · simp at hio; subst hio; simp [bindD, rdB, Region.binds] at haf; simp [opYield_def, yieldUpon, yielded, relAct, dstAt, Act.put, Region.wanted, go_sem, hC, isU_mk, isB_mk, *]
        · simp at hio; subst hio; simp [bindD, rdB, Region.binds] at haf; simp [opYield_def, yieldUpon, yielded, relAct, dstAt, Act.put, Region.wanted, go_sem, hC, isU_mk, isB_mk, *]
        · simp at hio; subst hio; simp [bindD, rdB, Region.binds] at haf; simp [opYield_def, yieldUpon, yielded, relAct, dstAt, Act.put, Region.wanted, go_sem, hC, isU_mk, isB_mk, *]
        · simp at hio; subst hio; simp [bindD, rdB, Region.binds] at haf; simp [opYield_def, yieldUpon, yielded, relAct, dstAt, Act.put, Region.wanted, go_sem, hC, isU_mk, isB_mk, *]
        · simp at hio; subst hio; simp [bindD, rdB, Region.binds] at haf; simp [opYield_def, yieldUpon, yielded, relAct, dstAt, Act.put, Region.wanted, go_sem, hC, isU_mk, isB_mk, *]
        · simp at hio; subst hio; simp [bindD, rdB, Region.binds] at haf; simp [opYield_def, yieldUpon, yielded, relAct, dstAt, Act.put, Region.wanted, go_sem, hC, isU_mk, isB_mk, *]
        · simp at hio; subst hio; simp [bindD, rdB, Region.binds] at haf; simp [opYield_def, yieldUpon, yielded, relAct, dstAt, Act.put, Region.wanted, go_sem, hC, isU_mk, isB_mk, *]
        · simp at hio; subst hio; simp [bindD, rdB, Region.binds] at haf; simp [opYield_def, yieldUpon, yielded, relAct, dstAt, Act.put, Region.wanted, go_sem, hC, isU_mk, isB_mk, *]
        · simp at hio; subst hio; simp [bindD, rdB, Region.binds] at haf; simp [opYield_def, yieldUpon, yielded, relAct, dstAt, Act.put, Region.wanted, go_sem, hC, isU_mk, isB_mk, *]
        · simp at hio; subst hio; simp [bindD, rdB, Region.binds] at haf; simp [opYield_def, yieldUpon, yielded, relAct, dstAt, Act.put, Region.wanted, go_sem, hC, isU_mk, isB_mk, *]
        · simp at hio; subst hio; simp [bindD, rdB, Region.binds] at haf; simp [opYield_def, yieldUpon, yielded, relAct, dstAt, Act.put, Region.wanted, go_sem, hC, isU_mk, isB_mk, *]
        · simp at hio; subst hio; simp [bindD, rdB, Region.binds] at haf; simp [opYield_def, yieldUpon, yielded, relAct, dstAt, Act.put, Region.wanted, go_sem, hC, isU_mk, isB_mk, *]
        · simp at hio; subst hio; simp [bindD, rdB, Region.binds] at haf; simp [opYield_def, yieldUpon, yielded, relAct, dstAt, Act.put, Region.wanted, go_sem, hC, isU_mk, isB_mk, *]
        · simp at hio; subst hio; simp [bindD, rdB, Region.binds] at haf; first | (obtain ⟨e1, y2, e2, l2⟩ := haf; simp [opYield_def, yieldUpon, yielded, relAct, dstAt, Act.put, Region.wanted, go_sem, hC, isU_mk, isB_mk, *]; exact hC.set _ _ l2) | (obtain ⟨⟨y2, e2, l2⟩, e1⟩ := haf; simp [opYield_def, yieldUpon, yielded, relAct, dstAt, Act.put, Region.wanted, go_sem, hC, isU_mk, isB_mk, *]; exact hC.set _ _ l2)
        · simp at hio; subst hio; simp [bindD, rdB, Region.binds] at haf; simp [opYield_def, yieldUpon, yielded, relAct, dstAt, Act.put, Region.wanted, go_sem, hC, isU_mk, isB_mk, *]
        · simp at hio; subst hio; simp [bindD, rdB, Region.binds] at haf; first | (obtain ⟨e1, y2, e2, l2⟩ := haf; simp [opYield_def, yieldUpon, yielded, relAct, dstAt, Act.put, Region.wanted, go_sem, hC, isU_mk, isB_mk, *]; exact hC.set _ _ l2) | (obtain ⟨⟨y2, e2, l2⟩, e1⟩ := haf; simp [opYield_def, yieldUpon, yielded, relAct, dstAt, Act.put, Region.wanted, go_sem, hC, isU_mk, isB_mk, *]; exact hC.set _ _ l2)
        · exfalso; simp at hio
      · intro vals W ac hC hF hac
        simp [relAct, dstAt, Act.put] at hac
        subst hac
        clear hF
        have hwD := hC.drew
        go_wp2_with fail
        exact ⟨⟨i + 1, j - 1, by go_num, by go_num, by omega, by omega, by omega, by omega, hC⟩, by simp [intOf]; omega⟩
    · go_wp2_with fail
      refine bodyPost_end (results_none rfl _ _ _) rfl ?_
      exact ⟨rfl, hw⟩
end Nm
end Go.Proofs.YtkeimgamjnpcbaaGreat

/- partitionOrdered at uint16, whatever the row holds. (Printed by a program: wip/gen_pdq4.py.) -/
namespace Go.Proofs.YtkeimgamjnpcbaaGreat
open Go.RowKit
set_option linter.unusedVariables false
set_option linter.unusedSimpArgs false
namespace Nm
set_option maxRecDepth 100000 in
set_option maxHeartbeats 40000000 in
theorem part16 (g n c a b p : Nat) (w : World) (h : Row16 w g n) (hc : n ≤ c) (hb : b ≤ n) (hap : a ≤ p) (hpb : p < b) (hn : n ≤ 1000000000) :
    Calls Tryz.prog 208 #[.slice (some ⟨g, 0, none⟩) n c, .int .i64 a, .int .i64 b, .int .i64 p] w fun e w' => (∃ (m : Nat) (o : Bool), e = .returned (.tuple #[.int .i64 m, .bool o]) ∧ a ≤ m ∧ m < b) ∧ CW w g n w' := by
  go_enter Tryz.func208, Tryz.ntmps208
  have hwD := (CW.refl h).drew
  go_upto_region 1 with fail
  refine wp_region_c mixed0 (by kernel_rfl) (CW w g n) hwD [(· = .slice (some ⟨g, 0, none⟩) n c), (· = .int .i64 (a)), (· = .slice (some ⟨g, 0, none⟩) n c), (· = .int .i64 (p)), (· = .slice (some ⟨g, 0, none⟩) n c), (· = .int .i64 (p)), (· = .pointer (some ⟨g, p, none⟩)), isU, (· = .slice (some ⟨g, 0, none⟩) n c), (· = .int .i64 (a)), (· = .pointer (some ⟨g, a, none⟩)), isU, (· = .pointer (some ⟨g, a, none⟩)), fun _ => True, (· = .pointer (some ⟨g, p, none⟩)), fun _ => True] ?_ ?_
  · intro ix q hio vals W hC haf
    obtain ⟨x0, q0, hx0⟩ := hC.2.cell (a) (by omega)
    have f0 := hC.2.frozen (a)
    have t0 : isU (.int .u16 x0) := isU_mk _ hx0
    obtain ⟨x1, q1, hx1⟩ := hC.2.cell (p) (by omega)
    have f1 := hC.2.frozen (p)
    have t1 : isU (.int .u16 x1) := isU_mk _ hx1
    have r0 : a < n := by first | omega | exact IntWalk.i64_in _ (by omega) | go_num
    have r1 : p < n := by first | omega | exact IntWalk.i64_in _ (by omega) | go_num
    rcases ix with _ | _ | _ | _ | _ | _ | _ | _ | _ | _ | _ | _ | _ | _ | _ | _ | ix
    · simp at hio; subst hio; simp [bindD, rdB, Region.binds] at haf; simp [opYield_def, yieldUpon, yielded, relAct, dstAt, Act.put, Region.wanted, go_sem, hC, isU_mk, isB_mk, *]
    · simp at hio; subst hio; simp [bindD, rdB, Region.binds] at haf; simp [opYield_def, yieldUpon, yielded, relAct, dstAt, Act.put, Region.wanted, go_sem, hC, isU_mk, isB_mk, *]
    · simp at hio; subst hio; simp [bindD, rdB, Region.binds] at haf; simp [opYield_def, yieldUpon, yielded, relAct, dstAt, Act.put, Region.wanted, go_sem, hC, isU_mk, isB_mk, *]
    · simp at hio; subst hio; simp [bindD, rdB, Region.binds] at haf; simp [opYield_def, yieldUpon, yielded, relAct, dstAt, Act.put, Region.wanted, go_sem, hC, isU_mk, isB_mk, *]
    · simp at hio; subst hio; simp [bindD, rdB, Region.binds] at haf; simp [opYield_def, yieldUpon, yielded, relAct, dstAt, Act.put, Region.wanted, go_sem, hC, isU_mk, isB_mk, *]
    · simp at hio; subst hio; simp [bindD, rdB, Region.binds] at haf; simp [opYield_def, yieldUpon, yielded, relAct, dstAt, Act.put, Region.wanted, go_sem, hC, isU_mk, isB_mk, *]
    · simp at hio; subst hio; simp [bindD, rdB, Region.binds] at haf; simp [opYield_def, yieldUpon, yielded, relAct, dstAt, Act.put, Region.wanted, go_sem, hC, isU_mk, isB_mk, *]
    · simp at hio; subst hio; simp [bindD, rdB, Region.binds] at haf; simp [opYield_def, yieldUpon, yielded, relAct, dstAt, Act.put, Region.wanted, go_sem, hC, isU_mk, isB_mk, *]
    · simp at hio; subst hio; simp [bindD, rdB, Region.binds] at haf; simp [opYield_def, yieldUpon, yielded, relAct, dstAt, Act.put, Region.wanted, go_sem, hC, isU_mk, isB_mk, *]
    · simp at hio; subst hio; simp [bindD, rdB, Region.binds] at haf; simp [opYield_def, yieldUpon, yielded, relAct, dstAt, Act.put, Region.wanted, go_sem, hC, isU_mk, isB_mk, *]
    · simp at hio; subst hio; simp [bindD, rdB, Region.binds] at haf; simp [opYield_def, yieldUpon, yielded, relAct, dstAt, Act.put, Region.wanted, go_sem, hC, isU_mk, isB_mk, *]
    · simp at hio; subst hio; simp [bindD, rdB, Region.binds] at haf; simp [opYield_def, yieldUpon, yielded, relAct, dstAt, Act.put, Region.wanted, go_sem, hC, isU_mk, isB_mk, *]
    · simp at hio; subst hio; simp [bindD, rdB, Region.binds] at haf; simp [opYield_def, yieldUpon, yielded, relAct, dstAt, Act.put, Region.wanted, go_sem, hC, isU_mk, isB_mk, *]
    · simp at hio; subst hio; simp [bindD, rdB, Region.binds] at haf; first | (obtain ⟨e1, y2, e2, l2⟩ := haf; simp [opYield_def, yieldUpon, yielded, relAct, dstAt, Act.put, Region.wanted, go_sem, hC, isU_mk, isB_mk, *]; exact hC.set _ _ l2) | (obtain ⟨⟨y2, e2, l2⟩, e1⟩ := haf; simp [opYield_def, yieldUpon, yielded, relAct, dstAt, Act.put, Region.wanted, go_sem, hC, isU_mk, isB_mk, *]; exact hC.set _ _ l2)
    · simp at hio; subst hio; simp [bindD, rdB, Region.binds] at haf; simp [opYield_def, yieldUpon, yielded, relAct, dstAt, Act.put, Region.wanted, go_sem, hC, isU_mk, isB_mk, *]
    · simp at hio; subst hio; simp [bindD, rdB, Region.binds] at haf; first | (obtain ⟨e1, y2, e2, l2⟩ := haf; simp [opYield_def, yieldUpon, yielded, relAct, dstAt, Act.put, Region.wanted, go_sem, hC, isU_mk, isB_mk, *]; exact hC.set _ _ l2) | (obtain ⟨⟨y2, e2, l2⟩, e1⟩ := haf; simp [opYield_def, yieldUpon, yielded, relAct, dstAt, Act.put, Region.wanted, go_sem, hC, isU_mk, isB_mk, *]; exact hC.set _ _ l2)
    · exfalso; simp at hio
  · intro vals W ac hC hF hac
    simp [relAct, dstAt, Act.put] at hac
    subst hac
    clear hF
    have hwD := hC.drew
    clear hwD
    have hw1 := hC
    clear hC
    go_wp2_with fail
    obtain ⟨j, hjj⟩ : ∃ j : Nat, j = b - 1 := ⟨_, rfl⟩
    have hjb : ((b : Int) - 1) = (j : Int) := by omega
    have hj1 : a ≤ j := by omega
    have hj2 : j < b := by omega
    have hj3 : j + 1 = b := by omega
    rw [hjb]
    clear hjb hjj
    go_loopw [10] (IdxR (a + 1) b w g n) (fun i _ => b - (intOf i).toNat)
    case atStart => exact ⟨a + 1, by go_num, by omega, by omega, hw1⟩
    case round =>
      obtain ⟨i, rfl, hi3, hi4, hw2⟩ := hrel
      have hwD := hw2.drew
      go_upto_region 3 with fail
      refine wp_region_c mixed0 (by kernel_rfl) (CW w g n) hwD [(· = .int .i64 (i)), (· = .int .i64 (j)), (· = .bool (decide (i ≤ j))), (· = .bool (decide (i ≤ j))), (fun v => i ≤ j → v = .slice (some ⟨g, 0, none⟩) n c), (fun v => i ≤ j → v = .int .i64 (i)), (fun v => i ≤ j → v = .pointer (some ⟨g, i, none⟩)), (fun v => i ≤ j → isU v), (fun v => i ≤ j → v = .slice (some ⟨g, 0, none⟩) n c), (fun v => i ≤ j → v = .int .i64 (a)), (fun v => i ≤ j → v = .pointer (some ⟨g, a, none⟩)), (fun v => i ≤ j → isU v), (fun v => i ≤ j → isB v), (fun v => ∃ o : Bool, v = .bool o ∧ (o = true → i ≤ j))] ?_ ?_
      · intro ix q hio vals W hC haf
        by_cases hg : i ≤ j
        · obtain ⟨x0, q0, hx0⟩ := hC.2.cell (a) (by omega)
          have f0 := hC.2.frozen (a)
          have t0 : isU (.int .u16 x0) := isU_mk _ hx0
          obtain ⟨x1, q1, hx1⟩ := hC.2.cell (i) (by omega)
          have f1 := hC.2.frozen (i)
          have t1 : isU (.int .u16 x1) := isU_mk _ hx1
          have r0 : a < n := by first | omega | exact IntWalk.i64_in _ (by omega) | go_num
          have r1 : i < n := by first | omega | exact IntWalk.i64_in _ (by omega) | go_num
          rcases ix with _ | _ | _ | _ | _ | _ | _ | _ | _ | _ | _ | _ | _ | _ | ix
          · simp at hio; subst hio; simp [bindD, rdB, Region.binds, hg] at haf; simp [opYield_def, yieldUpon, yielded, relAct, dstAt, Act.put, Region.wanted, go_sem, hC, isU_mk, isB_mk, *]
          · simp at hio; subst hio; simp [bindD, rdB, Region.binds, hg] at haf; simp [opYield_def, yieldUpon, yielded, relAct, dstAt, Act.put, Region.wanted, go_sem, hC, isU_mk, isB_mk, *]
          · simp at hio; subst hio; simp [bindD, rdB, Region.binds, hg] at haf; simp [opYield_def, yieldUpon, yielded, relAct, dstAt, Act.put, Region.wanted, go_sem, hC, isU_mk, isB_mk, *]
          · simp at hio; subst hio; simp [bindD, rdB, Region.binds, hg] at haf; simp [opYield_def, yieldUpon, yielded, relAct, dstAt, Act.put, Region.wanted, go_sem, hC, isU_mk, isB_mk, *]
          · simp at hio; subst hio; simp [bindD, rdB, Region.binds, hg] at haf; simp [opYield_def, yieldUpon, yielded, relAct, dstAt, Act.put, Region.wanted, go_sem, hC, isU_mk, isB_mk, *]
          · simp at hio; subst hio; simp [bindD, rdB, Region.binds, hg] at haf; simp [opYield_def, yieldUpon, yielded, relAct, dstAt, Act.put, Region.wanted, go_sem, hC, isU_mk, isB_mk, *]
          · simp at hio; subst hio; simp [bindD, rdB, Region.binds, hg] at haf; simp [opYield_def, yieldUpon, yielded, relAct, dstAt, Act.put, Region.wanted, go_sem, hC, isU_mk, isB_mk, *]
          · simp at hio; subst hio; simp [bindD, rdB, Region.binds, hg] at haf; simp [opYield_def, yieldUpon, yielded, relAct, dstAt, Act.put, Region.wanted, go_sem, hC, isU_mk, isB_mk, *]
          · simp at hio; subst hio; simp [bindD, rdB, Region.binds, hg] at haf; simp [opYield_def, yieldUpon, yielded, relAct, dstAt, Act.put, Region.wanted, go_sem, hC, isU_mk, isB_mk, *]
          · simp at hio; subst hio; simp [bindD, rdB, Region.binds, hg] at haf; simp [opYield_def, yieldUpon, yielded, relAct, dstAt, Act.put, Region.wanted, go_sem, hC, isU_mk, isB_mk, *]
          · simp at hio; subst hio; simp [bindD, rdB, Region.binds, hg] at haf; simp [opYield_def, yieldUpon, yielded, relAct, dstAt, Act.put, Region.wanted, go_sem, hC, isU_mk, isB_mk, *]
          · simp at hio; subst hio; simp [bindD, rdB, Region.binds, hg] at haf; simp [opYield_def, yieldUpon, yielded, relAct, dstAt, Act.put, Region.wanted, go_sem, hC, isU_mk, isB_mk, *]
          · simp at hio; subst hio; simp [bindD, rdB, Region.binds, hg] at haf; first | (obtain ⟨⟨y1, e1, l1⟩, ⟨y2, e2, l2⟩, e3⟩ := haf; simp [opYield_def, yieldUpon, yielded, relAct, dstAt, Act.put, Region.wanted, go_sem, hC, isU_mk, isB_mk, *]; exact (less16 y1 y2 W).mono fun e w' ⟨h1, h2⟩ => ⟨_, h1, by rw [h2]; exact hC, _, rfl⟩) | (obtain ⟨⟨y1, e1, l1⟩, ⟨y2, e2, l2⟩⟩ := haf; simp [opYield_def, yieldUpon, yielded, relAct, dstAt, Act.put, Region.wanted, go_sem, hC, isU_mk, isB_mk, *]; exact (less16 y1 y2 W).mono fun e w' ⟨h1, h2⟩ => ⟨_, h1, by rw [h2]; exact hC, _, rfl⟩)
          · simp at hio; subst hio; simp [bindD, rdB, Region.binds, hg] at haf; first | (simp [opYield_def, yieldUpon, yielded, relAct, dstAt, Act.put, Region.wanted, go_sem, hC, isU_mk, isB_mk, *]; done) | (obtain ⟨y, e1⟩ := haf; simp [opYield_def, yieldUpon, yielded, relAct, dstAt, Act.put, Region.wanted, go_sem, hC, isU_mk, isB_mk, *]; done) | (obtain ⟨⟨y, e1⟩, e2⟩ := haf; simp [opYield_def, yieldUpon, yielded, relAct, dstAt, Act.put, Region.wanted, go_sem, hC, isU_mk, isB_mk, *]; done) | (obtain ⟨e2, ⟨y, e1⟩⟩ := haf; simp [opYield_def, yieldUpon, yielded, relAct, dstAt, Act.put, Region.wanted, go_sem, hC, isU_mk, isB_mk, *]; done)
          · exfalso; simp at hio
        · rcases ix with _ | _ | _ | _ | _ | _ | _ | _ | _ | _ | _ | _ | _ | _ | ix
          · simp at hio; subst hio; simp [bindD, rdB, Region.binds, hg] at haf; simp [opYield_def, yieldUpon, yielded, relAct, dstAt, Act.put, Region.wanted, go_sem, hC, isU_mk, isB_mk, *]
          · simp at hio; subst hio; simp [bindD, rdB, Region.binds, hg] at haf; simp [opYield_def, yieldUpon, yielded, relAct, dstAt, Act.put, Region.wanted, go_sem, hC, isU_mk, isB_mk, *]
          · simp at hio; subst hio; simp [bindD, rdB, Region.binds, hg] at haf; simp [opYield_def, yieldUpon, yielded, relAct, dstAt, Act.put, Region.wanted, go_sem, hC, isU_mk, isB_mk, *]
          · simp at hio; subst hio; simp [bindD, rdB, Region.binds, hg] at haf; simp [opYield_def, yieldUpon, yielded, relAct, dstAt, Act.put, Region.wanted, go_sem, hC, isU_mk, isB_mk, *]
          · simp at hio; subst hio; simp [bindD, rdB, Region.binds, hg] at haf; simp [opYield_def, yieldUpon, yielded, relAct, dstAt, Act.put, Region.wanted, go_sem, hC, isU_mk, isB_mk, *]
          · simp at hio; subst hio; simp [bindD, rdB, Region.binds, hg] at haf; simp [opYield_def, yieldUpon, yielded, relAct, dstAt, Act.put, Region.wanted, go_sem, hC, isU_mk, isB_mk, *]
          · simp at hio; subst hio; simp [bindD, rdB, Region.binds, hg] at haf; simp [opYield_def, yieldUpon, yielded, relAct, dstAt, Act.put, Region.wanted, go_sem, hC, isU_mk, isB_mk, *]
          · simp at hio; subst hio; simp [bindD, rdB, Region.binds, hg] at haf; simp [opYield_def, yieldUpon, yielded, relAct, dstAt, Act.put, Region.wanted, go_sem, hC, isU_mk, isB_mk, *]
          · simp at hio; subst hio; simp [bindD, rdB, Region.binds, hg] at haf; simp [opYield_def, yieldUpon, yielded, relAct, dstAt, Act.put, Region.wanted, go_sem, hC, isU_mk, isB_mk, *]
          · simp at hio; subst hio; simp [bindD, rdB, Region.binds, hg] at haf; simp [opYield_def, yieldUpon, yielded, relAct, dstAt, Act.put, Region.wanted, go_sem, hC, isU_mk, isB_mk, *]
          · simp at hio; subst hio; simp [bindD, rdB, Region.binds, hg] at haf; simp [opYield_def, yieldUpon, yielded, relAct, dstAt, Act.put, Region.wanted, go_sem, hC, isU_mk, isB_mk, *]
          · simp at hio; subst hio; simp [bindD, rdB, Region.binds, hg] at haf; simp [opYield_def, yieldUpon, yielded, relAct, dstAt, Act.put, Region.wanted, go_sem, hC, isU_mk, isB_mk, *]
          · simp at hio; subst hio; simp [bindD, rdB, Region.binds, hg] at haf; simp [opYield_def, yieldUpon, yielded, relAct, dstAt, Act.put, Region.wanted, go_sem, hC, isU_mk, isB_mk, *]
          · simp at hio; subst hio; simp [bindD, rdB, Region.binds, hg] at haf; simp [opYield_def, yieldUpon, yielded, relAct, dstAt, Act.put, Region.wanted, go_sem, hC, isU_mk, isB_mk, *]
          · exfalso; simp at hio
      · intro vals W ac hC hF hac
        obtain ⟨o, ho, hoG⟩ : ∃ o : Bool, vals 13 = .bool o ∧ (o = true → i ≤ j) := hF 13 (by show 13 < 14; omega)
        simp [relAct, dstAt, Act.put] at hac
        rw [ho] at hac
        subst hac
        clear hF
        have hwD := hC.drew
        cases o
        · go_wp2_with fail
          go_loopw [11] (IdxR a j w g n) (fun j _ => (intOf j).toNat)
          case atStart => exact ⟨j, by go_num, by omega, by omega, hC⟩
          case round =>
            obtain ⟨k, rfl, hk1, hk2, hw3⟩ := hrel
            have hwD := hw3.drew
            go_upto_region 5 with fail
            refine wp_region_c mixed0 (by kernel_rfl) (CW w g n) hwD [(· = .int .i64 (i)), (· = .int .i64 (k)), (· = .bool (decide (i ≤ k))), (· = .bool (decide (i ≤ k))), (fun v => i ≤ k → v = .slice (some ⟨g, 0, none⟩) n c), (fun v => i ≤ k → v = .int .i64 (k)), (fun v => i ≤ k → v = .pointer (some ⟨g, k, none⟩)), (fun v => i ≤ k → isU v), (fun v => i ≤ k → v = .slice (some ⟨g, 0, none⟩) n c), (fun v => i ≤ k → v = .int .i64 (a)), (fun v => i ≤ k → v = .pointer (some ⟨g, a, none⟩)), (fun v => i ≤ k → isU v), (fun v => i ≤ k → isB v), (fun v => i ≤ k → isB v), (fun v => ∃ o : Bool, v = .bool o ∧ (o = true → i ≤ k))] ?_ ?_
            · intro ix q hio vals W hC haf
              by_cases hg : i ≤ k
              · obtain ⟨x0, q0, hx0⟩ := hC.2.cell (a) (by omega)
                have f0 := hC.2.frozen (a)
                have t0 : isU (.int .u16 x0) := isU_mk _ hx0
                obtain ⟨x1, q1, hx1⟩ := hC.2.cell (k) (by omega)
                have f1 := hC.2.frozen (k)
                have t1 : isU (.int .u16 x1) := isU_mk _ hx1
                have r0 : a < n := by first | omega | exact IntWalk.i64_in _ (by omega) | go_num
                have r1 : k < n := by first | omega | exact IntWalk.i64_in _ (by omega) | go_num
                rcases ix with _ | _ | _ | _ | _ | _ | _ | _ | _ | _ | _ | _ | _ | _ | _ | ix
                · simp at hio; subst hio; simp [bindD, rdB, Region.binds, hg] at haf; simp [opYield_def, yieldUpon, yielded, relAct, dstAt, Act.put, Region.wanted, go_sem, hC, isU_mk, isB_mk, *]
                · simp at hio; subst hio; simp [bindD, rdB, Region.binds, hg] at haf; simp [opYield_def, yieldUpon, yielded, relAct, dstAt, Act.put, Region.wanted, go_sem, hC, isU_mk, isB_mk, *]
                · simp at hio; subst hio; simp [bindD, rdB, Region.binds, hg] at haf; simp [opYield_def, yieldUpon, yielded, relAct, dstAt, Act.put, Region.wanted, go_sem, hC, isU_mk, isB_mk, *]
                · simp at hio; subst hio; simp [bindD, rdB, Region.binds, hg] at haf; simp [opYield_def, yieldUpon, yielded, relAct, dstAt, Act.put, Region.wanted, go_sem, hC, isU_mk, isB_mk, *]
                · simp at hio; subst hio; simp [bindD, rdB, Region.binds, hg] at haf; simp [opYield_def, yieldUpon, yielded, relAct, dstAt, Act.put, Region.wanted, go_sem, hC, isU_mk, isB_mk, *]
                · simp at hio; subst hio; simp [bindD, rdB, Region.binds, hg] at haf; simp [opYield_def, yieldUpon, yielded, relAct, dstAt, Act.put, Region.wanted, go_sem, hC, isU_mk, isB_mk, *]
                · simp at hio; subst hio; simp [bindD, rdB, Region.binds, hg] at haf; simp [opYield_def, yieldUpon, yielded, relAct, dstAt, Act.put, Region.wanted, go_sem, hC, isU_mk, isB_mk, *]
                · simp at hio; subst hio; simp [bindD, rdB, Region.binds, hg] at haf; simp [opYield_def, yieldUpon, yielded, relAct, dstAt, Act.put, Region.wanted, go_sem, hC, isU_mk, isB_mk, *]
                · simp at hio; subst hio; simp [bindD, rdB, Region.binds, hg] at haf; simp [opYield_def, yieldUpon, yielded, relAct, dstAt, Act.put, Region.wanted, go_sem, hC, isU_mk, isB_mk, *]
                · simp at hio; subst hio; simp [bindD, rdB, Region.binds, hg] at haf; simp [opYield_def, yieldUpon, yielded, relAct, dstAt, Act.put, Region.wanted, go_sem, hC, isU_mk, isB_mk, *]
                · simp at hio; subst hio; simp [bindD, rdB, Region.binds, hg] at haf; simp [opYield_def, yieldUpon, yielded, relAct, dstAt, Act.put, Region.wanted, go_sem, hC, isU_mk, isB_mk, *]
                · simp at hio; subst hio; simp [bindD, rdB, Region.binds, hg] at haf; simp [opYield_def, yieldUpon, yielded, relAct, dstAt, Act.put, Region.wanted, go_sem, hC, isU_mk, isB_mk, *]
                · simp at hio; subst hio; simp [bindD, rdB, Region.binds, hg] at haf; first | (obtain ⟨⟨y1, e1, l1⟩, ⟨y2, e2, l2⟩, e3⟩ := haf; simp [opYield_def, yieldUpon, yielded, relAct, dstAt, Act.put, Region.wanted, go_sem, hC, isU_mk, isB_mk, *]; exact (less16 y1 y2 W).mono fun e w' ⟨h1, h2⟩ => ⟨_, h1, by rw [h2]; exact hC, _, rfl⟩) | (obtain ⟨⟨y1, e1, l1⟩, ⟨y2, e2, l2⟩⟩ := haf; simp [opYield_def, yieldUpon, yielded, relAct, dstAt, Act.put, Region.wanted, go_sem, hC, isU_mk, isB_mk, *]; exact (less16 y1 y2 W).mono fun e w' ⟨h1, h2⟩ => ⟨_, h1, by rw [h2]; exact hC, _, rfl⟩)
                · simp at hio; subst hio; simp [bindD, rdB, Region.binds, hg] at haf; first | (simp [opYield_def, yieldUpon, yielded, relAct, dstAt, Act.put, Region.wanted, go_sem, hC, isU_mk, isB_mk, *]; done) | (obtain ⟨y, e1⟩ := haf; simp [opYield_def, yieldUpon, yielded, relAct, dstAt, Act.put, Region.wanted, go_sem, hC, isU_mk, isB_mk, *]; done) | (obtain ⟨⟨y, e1⟩, e2⟩ := haf; simp [opYield_def, yieldUpon, yielded, relAct, dstAt, Act.put, Region.wanted, go_sem, hC, isU_mk, isB_mk, *]; done) | (obtain ⟨e2, ⟨y, e1⟩⟩ := haf; simp [opYield_def, yieldUpon, yielded, relAct, dstAt, Act.put, Region.wanted, go_sem, hC, isU_mk, isB_mk, *]; done)
                · simp at hio; subst hio; simp [bindD, rdB, Region.binds, hg] at haf; first | (simp [opYield_def, yieldUpon, yielded, relAct, dstAt, Act.put, Region.wanted, go_sem, hC, isU_mk, isB_mk, *]; done) | (obtain ⟨y, e1⟩ := haf; simp [opYield_def, yieldUpon, yielded, relAct, dstAt, Act.put, Region.wanted, go_sem, hC, isU_mk, isB_mk, *]; done) | (obtain ⟨⟨y, e1⟩, e2⟩ := haf; simp [opYield_def, yieldUpon, yielded, relAct, dstAt, Act.put, Region.wanted, go_sem, hC, isU_mk, isB_mk, *]; done) | (obtain ⟨e2, ⟨y, e1⟩⟩ := haf; simp [opYield_def, yieldUpon, yielded, relAct, dstAt, Act.put, Region.wanted, go_sem, hC, isU_mk, isB_mk, *]; done)
                · exfalso; simp at hio
              · rcases ix with _ | _ | _ | _ | _ | _ | _ | _ | _ | _ | _ | _ | _ | _ | _ | ix
                · simp at hio; subst hio; simp [bindD, rdB, Region.binds, hg] at haf; simp [opYield_def, yieldUpon, yielded, relAct, dstAt, Act.put, Region.wanted, go_sem, hC, isU_mk, isB_mk, *]
                · simp at hio; subst hio; simp [bindD, rdB, Region.binds, hg] at haf; simp [opYield_def, yieldUpon, yielded, relAct, dstAt, Act.put, Region.wanted, go_sem, hC, isU_mk, isB_mk, *]
                · simp at hio; subst hio; simp [bindD, rdB, Region.binds, hg] at haf; simp [opYield_def, yieldUpon, yielded, relAct, dstAt, Act.put, Region.wanted, go_sem, hC, isU_mk, isB_mk, *]
                · simp at hio; subst hio; simp [bindD, rdB, Region.binds, hg] at haf; simp [opYield_def, yieldUpon, yielded, relAct, dstAt, Act.put, Region.wanted, go_sem, hC, isU_mk, isB_mk, *]
                · simp at hio; subst hio; simp [bindD, rdB, Region.binds, hg] at haf; simp [opYield_def, yieldUpon, yielded, relAct, dstAt, Act.put, Region.wanted, go_sem, hC, isU_mk, isB_mk, *]
                · simp at hio; subst hio; simp [bindD, rdB, Region.binds, hg] at haf; simp [opYield_def, yieldUpon, yielded, relAct, dstAt, Act.put, Region.wanted, go_sem, hC, isU_mk, isB_mk, *]
                · simp at hio; subst hio; simp [bindD, rdB, Region.binds, hg] at haf; simp [opYield_def, yieldUpon, yielded, relAct, dstAt, Act.put, Region.wanted, go_sem, hC, isU_mk, isB_mk, *]
                · simp at hio; subst hio; simp [bindD, rdB, Region.binds, hg] at haf; simp [opYield_def, yieldUpon, yielded, relAct, dstAt, Act.put, Region.wanted, go_sem, hC, isU_mk, isB_mk, *]
                · simp at hio; subst hio; simp [bindD, rdB, Region.binds, hg] at haf; simp [opYield_def, yieldUpon, yielded, relAct, dstAt, Act.put, Region.wanted, go_sem, hC, isU_mk, isB_mk, *]
                · simp at hio; subst hio; simp [bindD, rdB, Region.binds, hg] at haf; simp [opYield_def, yieldUpon, yielded, relAct, dstAt, Act.put, Region.wanted, go_sem, hC, isU_mk, isB_mk, *]
                · simp at hio; subst hio; simp [bindD, rdB, Region.binds, hg] at haf; simp [opYield_def, yieldUpon, yielded, relAct, dstAt, Act.put, Region.wanted, go_sem, hC, isU_mk, isB_mk, *]
                · simp at hio; subst hio; simp [bindD, rdB, Region.binds, hg] at haf; simp [opYield_def, yieldUpon, yielded, relAct, dstAt, Act.put, Region.wanted, go_sem, hC, isU_mk, isB_mk, *]
                · simp at hio; subst hio; simp [bindD, rdB, Region.binds, hg] at haf; simp [opYield_def, yieldUpon, yielded, relAct, dstAt, Act.put, Region.wanted, go_sem, hC, isU_mk, isB_mk, *]
                · simp at hio; subst hio; simp [bindD, rdB, Region.binds, hg] at haf; simp [opYield_def, yieldUpon, yielded, relAct, dstAt, Act.put, Region.wanted, go_sem, hC, isU_mk, isB_mk, *]
                · simp at hio; subst hio; simp [bindD, rdB, Region.binds, hg] at haf; simp [opYield_def, yieldUpon, yielded, relAct, dstAt, Act.put, Region.wanted, go_sem, hC, isU_mk, isB_mk, *]
                · exfalso; simp at hio
            · intro vals W ac hC hF hac
              obtain ⟨o, ho, hoG⟩ : ∃ o : Bool, vals 14 = .bool o ∧ (o = true → i ≤ k) := hF 14 (by show 14 < 15; omega)
              simp [relAct, dstAt, Act.put] at hac
              rw [ho] at hac
              subst hac
              clear hF
              have hwD := hC.drew
              cases o
              · by_cases hgt : k < i
                · go_upto_region 8 with fail
                  refine wp_region_c mixed0 (by kernel_rfl) (CW w g n) hwD [(· = .slice (some ⟨g, 0, none⟩) n c), (· = .int .i64 (k)), (· = .slice (some ⟨g, 0, none⟩) n c), (· = .int .i64 (a)), (· = .slice (some ⟨g, 0, none⟩) n c), (· = .int .i64 (a)), (· = .pointer (some ⟨g, a, none⟩)), isU, (· = .slice (some ⟨g, 0, none⟩) n c), (· = .int .i64 (k)), (· = .pointer (some ⟨g, k, none⟩)), isU, (· = .pointer (some ⟨g, k, none⟩)), fun _ => True, (· = .pointer (some ⟨g, a, none⟩)), fun _ => True] ?_ ?_
                  · intro ix q hio vals W hC haf
                    obtain ⟨x0, q0, hx0⟩ := hC.2.cell (k) (by omega)
                    have f0 := hC.2.frozen (k)
                    have t0 : isU (.int .u16 x0) := isU_mk _ hx0
                    obtain ⟨x1, q1, hx1⟩ := hC.2.cell (a) (by omega)
                    have f1 := hC.2.frozen (a)
                    have t1 : isU (.int .u16 x1) := isU_mk _ hx1
                    have r0 : k < n := by first | omega | exact IntWalk.i64_in _ (by omega) | go_num
                    have r1 : a < n := by first | omega | exact IntWalk.i64_in _ (by omega) | go_num
                    rcases ix with _ | _ | _ | _ | _ | _ | _ | _ | _ | _ | _ | _ | _ | _ | _ | _ | ix
                    · simp at hio; subst hio; simp [bindD, rdB, Region.binds] at haf; simp [opYield_def, yieldUpon, yielded, relAct, dstAt, Act.put, Region.wanted, go_sem, hC, isU_mk, isB_mk, *]
                    · simp at hio; subst hio; simp [bindD, rdB, Region.binds] at haf; simp [opYield_def, yieldUpon, yielded, relAct, dstAt, Act.put, Region.wanted, go_sem, hC, isU_mk, isB_mk, *]
                    · simp at hio; subst hio; simp [bindD, rdB, Region.binds] at haf; simp [opYield_def, yieldUpon, yielded, relAct, dstAt, Act.put, Region.wanted, go_sem, hC, isU_mk, isB_mk, *]
                    · simp at hio; subst hio; simp [bindD, rdB, Region.binds] at haf; simp [opYield_def, yieldUpon, yielded, relAct, dstAt, Act.put, Region.wanted, go_sem, hC, isU_mk, isB_mk, *]
                    · simp at hio; subst hio; simp [bindD, rdB, Region.binds] at haf; simp [opYield_def, yieldUpon, yielded, relAct, dstAt, Act.put, Region.wanted, go_sem, hC, isU_mk, isB_mk, *]
                    · simp at hio; subst hio; simp [bindD, rdB, Region.binds] at haf; simp [opYield_def, yieldUpon, yielded, relAct, dstAt, Act.put, Region.wanted, go_sem, hC, isU_mk, isB_mk, *]
                    · simp at hio; subst hio; simp [bindD, rdB, Region.binds] at haf; simp [opYield_def, yieldUpon, yielded, relAct, dstAt, Act.put, Region.wanted, go_sem, hC, isU_mk, isB_mk, *]
                    · simp at hio; subst hio; simp [bindD, rdB, Region.binds] at haf; simp [opYield_def, yieldUpon, yielded, relAct, dstAt, Act.put, Region.wanted, go_sem, hC, isU_mk, isB_mk, *]
                    · simp at hio; subst hio; simp [bindD, rdB, Region.binds] at haf; simp [opYield_def, yieldUpon, yielded, relAct, dstAt, Act.put, Region.wanted, go_sem, hC, isU_mk, isB_mk, *]
                    · simp at hio; subst hio; simp [bindD, rdB, Region.binds] at haf; simp [opYield_def, yieldUpon, yielded, relAct, dstAt, Act.put, Region.wanted, go_sem, hC, isU_mk, isB_mk, *]
                    · simp at hio; subst hio; simp [bindD, rdB, Region.binds] at haf; simp [opYield_def, yieldUpon, yielded, relAct, dstAt, Act.put, Region.wanted, go_sem, hC, isU_mk, isB_mk, *]
                    · simp at hio; subst hio; simp [bindD, rdB, Region.binds] at haf; simp [opYield_def, yieldUpon, yielded, relAct, dstAt, Act.put, Region.wanted, go_sem, hC, isU_mk, isB_mk, *]
                    · simp at hio; subst hio; simp [bindD, rdB, Region.binds] at haf; simp [opYield_def, yieldUpon, yielded, relAct, dstAt, Act.put, Region.wanted, go_sem, hC, isU_mk, isB_mk, *]
                    · simp at hio; subst hio; simp [bindD, rdB, Region.binds] at haf; first | (obtain ⟨e1, y2, e2, l2⟩ := haf; simp [opYield_def, yieldUpon, yielded, relAct, dstAt, Act.put, Region.wanted, go_sem, hC, isU_mk, isB_mk, *]; exact hC.set _ _ l2) | (obtain ⟨⟨y2, e2, l2⟩, e1⟩ := haf; simp [opYield_def, yieldUpon, yielded, relAct, dstAt, Act.put, Region.wanted, go_sem, hC, isU_mk, isB_mk, *]; exact hC.set _ _ l2)
                    · simp at hio; subst hio; simp [bindD, rdB, Region.binds] at haf; simp [opYield_def, yieldUpon, yielded, relAct, dstAt, Act.put, Region.wanted, go_sem, hC, isU_mk, isB_mk, *]
                    · simp at hio; subst hio; simp [bindD, rdB, Region.binds] at haf; first | (obtain ⟨e1, y2, e2, l2⟩ := haf; simp [opYield_def, yieldUpon, yielded, relAct, dstAt, Act.put, Region.wanted, go_sem, hC, isU_mk, isB_mk, *]; exact hC.set _ _ l2) | (obtain ⟨⟨y2, e2, l2⟩, e1⟩ := haf; simp [opYield_def, yieldUpon, yielded, relAct, dstAt, Act.put, Region.wanted, go_sem, hC, isU_mk, isB_mk, *]; exact hC.set _ _ l2)
                    · exfalso; simp at hio
                  · intro vals W ac hC hF hac
                    simp [relAct, dstAt, Act.put] at hac
                    subst hac
                    clear hF
                    have hwD := hC.drew
                    go_wp2_with fail
                    go_ret2
                    exact ⟨⟨k, _, rfl, by omega, by omega⟩, hC⟩
                · go_upto_region 10 with fail
                  refine wp_region_c mixed0 (by kernel_rfl) (CW w g n) hwD [(· = .slice (some ⟨g, 0, none⟩) n c), (· = .int .i64 (i)), (· = .slice (some ⟨g, 0, none⟩) n c), (· = .int .i64 (k)), (· = .slice (some ⟨g, 0, none⟩) n c), (· = .int .i64 (k)), (· = .pointer (some ⟨g, k, none⟩)), isU, (· = .slice (some ⟨g, 0, none⟩) n c), (· = .int .i64 (i)), (· = .pointer (some ⟨g, i, none⟩)), isU, (· = .pointer (some ⟨g, i, none⟩)), fun _ => True, (· = .pointer (some ⟨g, k, none⟩)), fun _ => True] ?_ ?_
                  · intro ix q hio vals W hC haf
                    obtain ⟨x0, q0, hx0⟩ := hC.2.cell (i) (by omega)
                    have f0 := hC.2.frozen (i)
                    have t0 : isU (.int .u16 x0) := isU_mk _ hx0
                    obtain ⟨x1, q1, hx1⟩ := hC.2.cell (k) (by omega)
                    have f1 := hC.2.frozen (k)
                    have t1 : isU (.int .u16 x1) := isU_mk _ hx1
                    have r0 : i < n := by first | omega | exact IntWalk.i64_in _ (by omega) | go_num
                    have r1 : k < n := by first | omega | exact IntWalk.i64_in _ (by omega) | go_num
                    rcases ix with _ | _ | _ | _ | _ | _ | _ | _ | _ | _ | _ | _ | _ | _ | _ | _ | ix
                    · simp at hio; subst hio; simp [bindD, rdB, Region.binds] at haf; simp [opYield_def, yieldUpon, yielded, relAct, dstAt, Act.put, Region.wanted, go_sem, hC, isU_mk, isB_mk, *]
                    · simp at hio; subst hio; simp [bindD, rdB, Region.binds] at haf; simp [opYield_def, yieldUpon, yielded, relAct, dstAt, Act.put, Region.wanted, go_sem, hC, isU_mk, isB_mk, *]
                    · simp at hio; subst hio; simp [bindD, rdB, Region.binds] at haf; simp [opYield_def, yieldUpon, yielded, relAct, dstAt, Act.put, Region.wanted, go_sem, hC, isU_mk, isB_mk, *]
                    · simp at hio; subst hio; simp [bindD, rdB, Region.binds] at haf; simp [opYield_def, yieldUpon, yielded, relAct, dstAt, Act.put, Region.wanted, go_sem, hC, isU_mk, isB_mk, *]
                    · simp at hio; subst hio; simp [bindD, rdB, Region.binds] at haf; simp [opYield_def, yieldUpon, yielded, relAct, dstAt, Act.put, Region.wanted, go_sem, hC, isU_mk, isB_mk, *]
                    · simp at hio; subst hio; simp [bindD, rdB, Region.binds] at haf; simp [opYield_def, yieldUpon, yielded, relAct, dstAt, Act.put, Region.wanted, go_sem, hC, isU_mk, isB_mk, *]
                    · simp at hio; subst hio; simp [bindD, rdB, Region.binds] at haf; simp [opYield_def, yieldUpon, yielded, relAct, dstAt, Act.put, Region.wanted, go_sem, hC, isU_mk, isB_mk, *]
                    · simp at hio; subst hio; simp [bindD, rdB, Region.binds] at haf; simp [opYield_def, yieldUpon, yielded, relAct, dstAt, Act.put, Region.wanted, go_sem, hC, isU_mk, isB_mk, *]
                    · simp at hio; subst hio; simp [bindD, rdB, Region.binds] at haf; simp [opYield_def, yieldUpon, yielded, relAct, dstAt, Act.put, Region.wanted, go_sem, hC, isU_mk, isB_mk, *]
                    · simp at hio; subst hio; simp [bindD, rdB, Region.binds] at haf; simp [opYield_def, yieldUpon, yielded, relAct, dstAt, Act.put, Region.wanted, go_sem, hC, isU_mk, isB_mk, *]
                    · simp at hio; subst hio; simp [bindD, rdB, Region.binds] at haf; simp [opYield_def, yieldUpon, yielded, relAct, dstAt, Act.put, Region.wanted, go_sem, hC, isU_mk, isB_mk, *]
                    · simp at hio; subst hio; simp [bindD, rdB, Region.binds] at haf; simp [opYield_def, yieldUpon, yielded, relAct, dstAt, Act.put, Region.wanted, go_sem, hC, isU_mk, isB_mk, *]
                    · simp at hio; subst hio; simp [bindD, rdB, Region.binds] at haf; simp [opYield_def, yieldUpon, yielded, relAct, dstAt, Act.put, Region.wanted, go_sem, hC, isU_mk, isB_mk, *]
                    · simp at hio; subst hio; simp [bindD, rdB, Region.binds] at haf; first | (obtain ⟨e1, y2, e2, l2⟩ := haf; simp [opYield_def, yieldUpon, yielded, relAct, dstAt, Act.put, Region.wanted, go_sem, hC, isU_mk, isB_mk, *]; exact hC.set _ _ l2) | (obtain ⟨⟨y2, e2, l2⟩, e1⟩ := haf; simp [opYield_def, yieldUpon, yielded, relAct, dstAt, Act.put, Region.wanted, go_sem, hC, isU_mk, isB_mk, *]; exact hC.set _ _ l2)
                    · simp at hio; subst hio; simp [bindD, rdB, Region.binds] at haf; simp [opYield_def, yieldUpon, yielded, relAct, dstAt, Act.put, Region.wanted, go_sem, hC, isU_mk, isB_mk, *]
                    · simp at hio; subst hio; simp [bindD, rdB, Region.binds] at haf; first | (obtain ⟨e1, y2, e2, l2⟩ := haf; simp [opYield_def, yieldUpon, yielded, relAct, dstAt, Act.put, Region.wanted, go_sem, hC, isU_mk, isB_mk, *]; exact hC.set _ _ l2) | (obtain ⟨⟨y2, e2, l2⟩, e1⟩ := haf; simp [opYield_def, yieldUpon, yielded, relAct, dstAt, Act.put, Region.wanted, go_sem, hC, isU_mk, isB_mk, *]; exact hC.set _ _ l2)
                    · exfalso; simp at hio
                  · intro vals W ac hC hF hac
                    simp [relAct, dstAt, Act.put] at hac
                    subst hac
                    clear hF
                    have hwD := hC.drew
                    clear hwD
                    have hwL := hC
                    clear hC
                    go_wp2_with fail
                    have hki : ((k : Int) - 1) = ((k - 1 : Nat) : Int) := by omega
                    rw [hki]
                    clear hki
                    go_loopw [10, 11] (Idx2 (a + 1) b a (b - 1) w g n) (fun i j _ => (intOf j).toNat + (b - (intOf i).toNat))
                    case atStart => exact ⟨i + 1, k - 1, by go_num, by go_num, by omega, by omega, by omega, by omega, hwL⟩
                    case round =>
                      obtain ⟨i0, j, rfl, rfl, hi1, hi2, hj1, hj2, hw1⟩ := hrel
                      go_wp2_with fail
                      go_loopw [10] (IdxR (i0) b w g n) (fun i _ => b - (intOf i).toNat)
                      case atStart => exact ⟨i0, by go_num, by omega, by omega, hw1⟩
                      case round =>
                        obtain ⟨i, rfl, hi3, hi4, hw2⟩ := hrel
                        have hwD := hw2.drew
                        go_upto_region 13 with fail
                        refine wp_region_c mixed0 (by kernel_rfl) (CW w g n) hwD [(· = .int .i64 (i)), (· = .int .i64 (j)), (· = .bool (decide (i ≤ j))), (· = .bool (decide (i ≤ j))), (fun v => i ≤ j → v = .slice (some ⟨g, 0, none⟩) n c), (fun v => i ≤ j → v = .int .i64 (i)), (fun v => i ≤ j → v = .pointer (some ⟨g, i, none⟩)), (fun v => i ≤ j → isU v), (fun v => i ≤ j → v = .slice (some ⟨g, 0, none⟩) n c), (fun v => i ≤ j → v = .int .i64 (a)), (fun v => i ≤ j → v = .pointer (some ⟨g, a, none⟩)), (fun v => i ≤ j → isU v), (fun v => i ≤ j → isB v), (fun v => ∃ o : Bool, v = .bool o ∧ (o = true → i ≤ j))] ?_ ?_
                        · intro ix q hio vals W hC haf
                          by_cases hg : i ≤ j
                          · obtain ⟨x0, q0, hx0⟩ := hC.2.cell (a) (by omega)
                            have f0 := hC.2.frozen (a)
                            have t0 : isU (.int .u16 x0) := isU_mk _ hx0
                            obtain ⟨x1, q1, hx1⟩ := hC.2.cell (i) (by omega)
                            have f1 := hC.2.frozen (i)
                            have t1 : isU (.int .u16 x1) := isU_mk _ hx1
                            have r0 : a < n := by first | omega | exact IntWalk.i64_in _ (by omega) | go_num
                            have r1 : i < n := by first | omega | exact IntWalk.i64_in _ (by omega) | go_num
                            rcases ix with _ | _ | _ | _ | _ | _ | _ | _ | _ | _ | _ | _ | _ | _ | ix
                            · simp at hio; subst hio; simp [bindD, rdB, Region.binds, hg] at haf; simp [opYield_def, yieldUpon, yielded, relAct, dstAt, Act.put, Region.wanted, go_sem, hC, isU_mk, isB_mk, *]
                            · simp at hio; subst hio; simp [bindD, rdB, Region.binds, hg] at haf; simp [opYield_def, yieldUpon, yielded, relAct, dstAt, Act.put, Region.wanted, go_sem, hC, isU_mk, isB_mk, *]
                            · simp at hio; subst hio; simp [bindD, rdB, Region.binds, hg] at haf; simp [opYield_def, yieldUpon, yielded, relAct, dstAt, Act.put, Region.wanted, go_sem, hC, isU_mk, isB_mk, *]
                            · simp at hio; subst hio; simp [bindD, rdB, Region.binds, hg] at haf; simp [opYield_def, yieldUpon, yielded, relAct, dstAt, Act.put, Region.wanted, go_sem, hC, isU_mk, isB_mk, *]
                            · simp at hio; subst hio; simp [bindD, rdB, Region.binds, hg] at haf; simp [opYield_def, yieldUpon, yielded, relAct, dstAt, Act.put, Region.wanted, go_sem, hC, isU_mk, isB_mk, *]
                            · simp at hio; subst hio; simp [bindD, rdB, Region.binds, hg] at haf; simp [opYield_def, yieldUpon, yielded, relAct, dstAt, Act.put, Region.wanted, go_sem, hC, isU_mk, isB_mk, *]
                            · simp at hio; subst hio; simp [bindD, rdB, Region.binds, hg] at haf; simp [opYield_def, yieldUpon, yielded, relAct, dstAt, Act.put, Region.wanted, go_sem, hC, isU_mk, isB_mk, *]
                            · simp at hio; subst hio; simp [bindD, rdB, Region.binds, hg] at haf; simp [opYield_def, yieldUpon, yielded, relAct, dstAt, Act.put, Region.wanted, go_sem, hC, isU_mk, isB_mk, *]
                            · simp at hio; subst hio; simp [bindD, rdB, Region.binds, hg] at haf; simp [opYield_def, yieldUpon, yielded, relAct, dstAt, Act.put, Region.wanted, go_sem, hC, isU_mk, isB_mk, *]
                            · simp at hio; subst hio; simp [bindD, rdB, Region.binds, hg] at haf; simp [opYield_def, yieldUpon, yielded, relAct, dstAt, Act.put, Region.wanted, go_sem, hC, isU_mk, isB_mk, *]
                            · simp at hio; subst hio; simp [bindD, rdB, Region.binds, hg] at haf; simp [opYield_def, yieldUpon, yielded, relAct, dstAt, Act.put, Region.wanted, go_sem, hC, isU_mk, isB_mk, *]
                            · simp at hio; subst hio; simp [bindD, rdB, Region.binds, hg] at haf; simp [opYield_def, yieldUpon, yielded, relAct, dstAt, Act.put, Region.wanted, go_sem, hC, isU_mk, isB_mk, *]
                            · simp at hio; subst hio; simp [bindD, rdB, Region.binds, hg] at haf; first | (obtain ⟨⟨y1, e1, l1⟩, ⟨y2, e2, l2⟩, e3⟩ := haf; simp [opYield_def, yieldUpon, yielded, relAct, dstAt, Act.put, Region.wanted, go_sem, hC, isU_mk, isB_mk, *]; exact (less16 y1 y2 W).mono fun e w' ⟨h1, h2⟩ => ⟨_, h1, by rw [h2]; exact hC, _, rfl⟩) | (obtain ⟨⟨y1, e1, l1⟩, ⟨y2, e2, l2⟩⟩ := haf; simp [opYield_def, yieldUpon, yielded, relAct, dstAt, Act.put, Region.wanted, go_sem, hC, isU_mk, isB_mk, *]; exact (less16 y1 y2 W).mono fun e w' ⟨h1, h2⟩ => ⟨_, h1, by rw [h2]; exact hC, _, rfl⟩)
                            · simp at hio; subst hio; simp [bindD, rdB, Region.binds, hg] at haf; first | (simp [opYield_def, yieldUpon, yielded, relAct, dstAt, Act.put, Region.wanted, go_sem, hC, isU_mk, isB_mk, *]; done) | (obtain ⟨y, e1⟩ := haf; simp [opYield_def, yieldUpon, yielded, relAct, dstAt, Act.put, Region.wanted, go_sem, hC, isU_mk, isB_mk, *]; done) | (obtain ⟨⟨y, e1⟩, e2⟩ := haf; simp [opYield_def, yieldUpon, yielded, relAct, dstAt, Act.put, Region.wanted, go_sem, hC, isU_mk, isB_mk, *]; done) | (obtain ⟨e2, ⟨y, e1⟩⟩ := haf; simp [opYield_def, yieldUpon, yielded, relAct, dstAt, Act.put, Region.wanted, go_sem, hC, isU_mk, isB_mk, *]; done)
                            · exfalso; simp at hio
                          · rcases ix with _ | _ | _ | _ | _ | _ | _ | _ | _ | _ | _ | _ | _ | _ | ix
                            · simp at hio; subst hio; simp [bindD, rdB, Region.binds, hg] at haf; simp [opYield_def, yieldUpon, yielded, relAct, dstAt, Act.put, Region.wanted, go_sem, hC, isU_mk, isB_mk, *]
                            · simp at hio; subst hio; simp [bindD, rdB, Region.binds, hg] at haf; simp [opYield_def, yieldUpon, yielded, relAct, dstAt, Act.put, Region.wanted, go_sem, hC, isU_mk, isB_mk, *]
                            · simp at hio; subst hio; simp [bindD, rdB, Region.binds, hg] at haf; simp [opYield_def, yieldUpon, yielded, relAct, dstAt, Act.put, Region.wanted, go_sem, hC, isU_mk, isB_mk, *]
                            · simp at hio; subst hio; simp [bindD, rdB, Region.binds, hg] at haf; simp [opYield_def, yieldUpon, yielded, relAct, dstAt, Act.put, Region.wanted, go_sem, hC, isU_mk, isB_mk, *]
                            · simp at hio; subst hio; simp [bindD, rdB, Region.binds, hg] at haf; simp [opYield_def, yieldUpon, yielded, relAct, dstAt, Act.put, Region.wanted, go_sem, hC, isU_mk, isB_mk, *]
                            · simp at hio; subst hio; simp [bindD, rdB, Region.binds, hg] at haf; simp [opYield_def, yieldUpon, yielded, relAct, dstAt, Act.put, Region.wanted, go_sem, hC, isU_mk, isB_mk, *]
                            · simp at hio; subst hio; simp [bindD, rdB, Region.binds, hg] at haf; simp [opYield_def, yieldUpon, yielded, relAct, dstAt, Act.put, Region.wanted, go_sem, hC, isU_mk, isB_mk, *]
                            · simp at hio; subst hio; simp [bindD, rdB, Region.binds, hg] at haf; simp [opYield_def, yieldUpon, yielded, relAct, dstAt, Act.put, Region.wanted, go_sem, hC, isU_mk, isB_mk, *]
                            · simp at hio; subst hio; simp [bindD, rdB, Region.binds, hg] at haf; simp [opYield_def, yieldUpon, yielded, relAct, dstAt, Act.put, Region.wanted, go_sem, hC, isU_mk, isB_mk, *]
                            · simp at hio; subst hio; simp [bindD, rdB, Region.binds, hg] at haf; simp [opYield_def, yieldUpon, yielded, relAct, dstAt, Act.put, Region.wanted, go_sem, hC, isU_mk, isB_mk, *]
                            · simp at hio; subst hio; simp [bindD, rdB, Region.binds, hg] at haf; simp [opYield_def, yieldUpon, yielded, relAct, dstAt, Act.put, Region.wanted, go_sem, hC, isU_mk, isB_mk, *]
                            · simp at hio; subst hio; simp [bindD, rdB, Region.binds, hg] at haf; simp [opYield_def, yieldUpon, yielded, relAct, dstAt, Act.put, Region.wanted, go_sem, hC, isU_mk, isB_mk, *]
                            · simp at hio; subst hio; simp [bindD, rdB, Region.binds, hg] at haf; simp [opYield_def, yieldUpon, yielded, relAct, dstAt, Act.put, Region.wanted, go_sem, hC, isU_mk, isB_mk, *]
                            · simp at hio; subst hio; simp [bindD, rdB, Region.binds, hg] at haf; simp [opYield_def, yieldUpon, yielded, relAct, dstAt, Act.put, Region.wanted, go_sem, hC, isU_mk, isB_mk, *]
                            · exfalso; simp at hio
                        · intro vals W ac hC hF hac
                          obtain ⟨o, ho, hoG⟩ : ∃ o : Bool, vals 13 = .bool o ∧ (o = true → i ≤ j) := hF 13 (by show 13 < 14; omega)
                          simp [relAct, dstAt, Act.put] at hac
                          rw [ho] at hac
                          subst hac
                          clear hF
                          have hwD := hC.drew
                          cases o
                          · go_wp2_with fail
                            go_loopw [11] (IdxR a j w g n) (fun j _ => (intOf j).toNat)
                            case atStart => exact ⟨j, by go_num, by omega, by omega, hC⟩
                            case round =>
                              obtain ⟨k, rfl, hk1, hk2, hw3⟩ := hrel
                              have hwD := hw3.drew
                              go_upto_region 15 with fail
                              refine wp_region_c mixed0 (by kernel_rfl) (CW w g n) hwD [(· = .int .i64 (i)), (· = .int .i64 (k)), (· = .bool (decide (i ≤ k))), (· = .bool (decide (i ≤ k))), (fun v => i ≤ k → v = .slice (some ⟨g, 0, none⟩) n c), (fun v => i ≤ k → v = .int .i64 (k)), (fun v => i ≤ k → v = .pointer (some ⟨g, k, none⟩)), (fun v => i ≤ k → isU v), (fun v => i ≤ k → v = .slice (some ⟨g, 0, none⟩) n c), (fun v => i ≤ k → v = .int .i64 (a)), (fun v => i ≤ k → v = .pointer (some ⟨g, a, none⟩)), (fun v => i ≤ k → isU v), (fun v => i ≤ k → isB v), (fun v => i ≤ k → isB v), (fun v => ∃ o : Bool, v = .bool o ∧ (o = true → i ≤ k))] ?_ ?_
                              · intro ix q hio vals W hC haf
                                by_cases hg : i ≤ k
                                · obtain ⟨x0, q0, hx0⟩ := hC.2.cell (a) (by omega)
                                  have f0 := hC.2.frozen (a)
                                  have t0 : isU (.int .u16 x0) := isU_mk _ hx0
                                  obtain ⟨x1, q1, hx1⟩ := hC.2.cell (k) (by omega)
                                  have f1 := hC.2.frozen (k)
                                  have t1 : isU (.int .u16 x1) := isU_mk _ hx1
                                  have r0 : a < n := by first | omega | exact IntWalk.i64_in _ (by omega) | go_num
                                  have r1 : k < n := by first | omega | exact IntWalk.i64_in _ (by omega) | go_num
                                  rcases ix with _ | _ | _ | _ | _ | _ | _ | _ | _ | _ | _ | _ | _ | _ | _ | ix
                                  · simp at hio; subst hio; simp [bindD, rdB, Region.binds, hg] at haf; simp [opYield_def, yieldUpon, yielded, relAct, dstAt, Act.put, Region.wanted, go_sem, hC, isU_mk, isB_mk, *]
                                  · simp at hio; subst hio; simp [bindD, rdB, Region.binds, hg] at haf; simp [opYield_def, yieldUpon, yielded, relAct, dstAt, Act.put, Region.wanted, go_sem, hC, isU_mk, isB_mk, *]
                                  · simp at hio; subst hio; simp [bindD, rdB, Region.binds, hg] at haf; simp [opYield_def, yieldUpon, yielded, relAct, dstAt, Act.put, Region.wanted, go_sem, hC, isU_mk, isB_mk, *]
                                  · simp at hio; subst hio; simp [bindD, rdB, Region.binds, hg] at haf; simp [opYield_def, yieldUpon, yielded, relAct, dstAt, Act.put, Region.wanted, go_sem, hC, isU_mk, isB_mk, *]
                                  · simp at hio; subst hio; simp [bindD, rdB, Region.binds, hg] at haf; simp [opYield_def, yieldUpon, yielded, relAct, dstAt, Act.put, Region.wanted, go_sem, hC, isU_mk, isB_mk, *]
                                  · simp at hio; subst hio; simp [bindD, rdB, Region.binds, hg] at haf; simp [opYield_def, yieldUpon, yielded, relAct, dstAt, Act.put, Region.wanted, go_sem, hC, isU_mk, isB_mk, *]
                                  · simp at hio; subst hio; simp [bindD, rdB, Region.binds, hg] at haf; simp [opYield_def, yieldUpon, yielded, relAct, dstAt, Act.put, Region.wanted, go_sem, hC, isU_mk, isB_mk, *]
                                  · simp at hio; subst hio; simp [bindD, rdB, Region.binds, hg] at haf; simp [opYield_def, yieldUpon, yielded, relAct, dstAt, Act.put, Region.wanted, go_sem, hC, isU_mk, isB_mk, *]
                                  · simp at hio; subst hio; simp [bindD, rdB, Region.binds, hg] at haf; simp [opYield_def, yieldUpon, yielded, relAct, dstAt, Act.put, Region.wanted, go_sem, hC, isU_mk, isB_mk, *]
                                  · simp at hio; subst hio; simp [bindD, rdB, Region.binds, hg] at haf; simp [opYield_def, yieldUpon, yielded, relAct, dstAt, Act.put, Region.wanted, go_sem, hC, isU_mk, isB_mk, *]
                                  · simp at hio; subst hio; simp [bindD, rdB, Region.binds, hg] at haf; simp [opYield_def, yieldUpon, yielded, relAct, dstAt, Act.put, Region.wanted, go_sem, hC, isU_mk, isB_mk, *]
                                  · simp at hio; subst hio; simp [bindD, rdB, Region.binds, hg] at haf; simp [opYield_def, yieldUpon, yielded, relAct, dstAt, Act.put, Region.wanted, go_sem, hC, isU_mk, isB_mk, *]
                                  · simp at hio; subst hio; simp [bindD, rdB, Region.binds, hg] at haf; first | (obtain ⟨⟨y1, e1, l1⟩, ⟨y2, e2, l2⟩, e3⟩ := haf; simp [opYield_def, yieldUpon, yielded, relAct, dstAt, Act.put, Region.wanted, go_sem, hC, isU_mk, isB_mk, *]; exact (less16 y1 y2 W).mono fun e w' ⟨h1, h2⟩ => ⟨_, h1, by rw [h2]; exact hC, _, rfl⟩) | (obtain ⟨⟨y1, e1, l1⟩, ⟨y2, e2, l2⟩⟩ := haf; simp [opYield_def, yieldUpon, yielded, relAct, dstAt, Act.put, Region.wanted, go_sem, hC, isU_mk, isB_mk, *]; exact (less16 y1 y2 W).mono fun e w' ⟨h1, h2⟩ => ⟨_, h1, by rw [h2]; exact hC, _, rfl⟩)
                                  · simp at hio; subst hio; simp [bindD, rdB, Region.binds, hg] at haf; first | (simp [opYield_def, yieldUpon, yielded, relAct, dstAt, Act.put, Region.wanted, go_sem, hC, isU_mk, isB_mk, *]; done) | (obtain ⟨y, e1⟩ := haf; simp [opYield_def, yieldUpon, yielded, relAct, dstAt, Act.put, Region.wanted, go_sem, hC, isU_mk, isB_mk, *]; done) | (obtain ⟨⟨y, e1⟩, e2⟩ := haf; simp [opYield_def, yieldUpon, yielded, relAct, dstAt, Act.put, Region.wanted, go_sem, hC, isU_mk, isB_mk, *]; done) | (obtain ⟨e2, ⟨y, e1⟩⟩ := haf; simp [opYield_def, yieldUpon, yielded, relAct, dstAt, Act.put, Region.wanted, go_sem, hC, isU_mk, isB_mk, *]; done)
                                  · simp at hio; subst hio; simp [bindD, rdB, Region.binds, hg] at haf; first | (simp [opYield_def, yieldUpon, yielded, relAct, dstAt, Act.put, Region.wanted, go_sem, hC, isU_mk, isB_mk, *]; done) | (obtain ⟨y, e1⟩ := haf; simp [opYield_def, yieldUpon, yielded, relAct, dstAt, Act.put, Region.wanted, go_sem, hC, isU_mk, isB_mk, *]; done) | (obtain ⟨⟨y, e1⟩, e2⟩ := haf; simp [opYield_def, yieldUpon, yielded, relAct, dstAt, Act.put, Region.wanted, go_sem, hC, isU_mk, isB_mk, *]; done) | (obtain ⟨e2, ⟨y, e1⟩⟩ := haf; simp [opYield_def, yieldUpon, yielded, relAct, dstAt, Act.put, Region.wanted, go_sem, hC, isU_mk, isB_mk, *]; done)
                                  · exfalso; simp at hio
                                · rcases ix with _ | _ | _ | _ | _ | _ | _ | _ | _ | _ | _ | _ | _ | _ | _ | ix
                                  · simp at hio; subst hio; simp [bindD, rdB, Region.binds, hg] at haf; simp [opYield_def, yieldUpon, yielded, relAct, dstAt, Act.put, Region.wanted, go_sem, hC, isU_mk, isB_mk, *]
                                  · simp at hio; subst hio; simp [bindD, rdB, Region.binds, hg] at haf; simp [opYield_def, yieldUpon, yielded, relAct, dstAt, Act.put, Region.wanted, go_sem, hC, isU_mk, isB_mk, *]
                                  · simp at hio; subst hio; simp [bindD, rdB, Region.binds, hg] at haf; simp [opYield_def, yieldUpon, yielded, relAct, dstAt, Act.put, Region.wanted, go_sem, hC, isU_mk, isB_mk, *]
                                  · simp at hio; subst hio; simp [bindD, rdB, Region.binds, hg] at haf; simp [opYield_def, yieldUpon, yielded, relAct, dstAt, Act.put, Region.wanted, go_sem, hC, isU_mk, isB_mk, *]
                                  · simp at hio; subst hio; simp [bindD, rdB, Region.binds, hg] at haf; simp [opYield_def, yieldUpon, yielded, relAct, dstAt, Act.put, Region.wanted, go_sem, hC, isU_mk, isB_mk, *]
                                  · simp at hio; subst hio; simp [bindD, rdB, Region.binds, hg] at haf; simp [opYield_def, yieldUpon, yielded, relAct, dstAt, Act.put, Region.wanted, go_sem, hC, isU_mk, isB_mk, *]
                                  · simp at hio; subst hio; simp [bindD, rdB, Region.binds, hg] at haf; simp [opYield_def, yieldUpon, yielded, relAct, dstAt, Act.put, Region.wanted, go_sem, hC, isU_mk, isB_mk, *]
                                  · simp at hio; subst hio; simp [bindD, rdB, Region.binds, hg] at haf; simp [opYield_def, yieldUpon, yielded, relAct, dstAt, Act.put, Region.wanted, go_sem, hC, isU_mk, isB_mk, *]
                                  · simp at hio; subst hio; simp [bindD, rdB, Region.binds, hg] at haf; simp [opYield_def, yieldUpon, yielded, relAct, dstAt, Act.put, Region.wanted, go_sem, hC, isU_mk, isB_mk, *]
                                  · simp at hio; subst hio; simp [bindD, rdB, Region.binds, hg] at haf; simp [opYield_def, yieldUpon, yielded, relAct, dstAt, Act.put, Region.wanted, go_sem, hC, isU_mk, isB_mk, *]
                                  · simp at hio; subst hio; simp [bindD, rdB, Region.binds, hg] at haf; simp [opYield_def, yieldUpon, yielded, relAct, dstAt, Act.put, Region.wanted, go_sem, hC, isU_mk, isB_mk, *]
                                  · simp at hio; subst hio; simp [bindD, rdB, Region.binds, hg] at haf; simp [opYield_def, yieldUpon, yielded, relAct, dstAt, Act.put, Region.wanted, go_sem, hC, isU_mk, isB_mk, *]
                                  · simp at hio; subst hio; simp [bindD, rdB, Region.binds, hg] at haf; simp [opYield_def, yieldUpon, yielded, relAct, dstAt, Act.put, Region.wanted, go_sem, hC, isU_mk, isB_mk, *]
                                  · simp at hio; subst hio; simp [bindD, rdB, Region.binds, hg] at haf; simp [opYield_def, yieldUpon, yielded, relAct, dstAt, Act.put, Region.wanted, go_sem, hC, isU_mk, isB_mk, *]
                                  · simp at hio; subst hio; simp [bindD, rdB, Region.binds, hg] at haf; simp [opYield_def, yieldUpon, yielded, relAct, dstAt, Act.put, Region.wanted, go_sem, hC, isU_mk, isB_mk, *]
                                  · exfalso; simp at hio
                              · intro vals W ac hC hF hac
                                obtain ⟨o, ho, hoG⟩ : ∃ o : Bool, vals 14 = .bool o ∧ (o = true → i ≤ k) := hF 14 (by show 14 < 15; omega)
                                simp [relAct, dstAt, Act.put] at hac
                                rw [ho] at hac
                                subst hac
                                clear hF
                                have hwD := hC.drew
                                cases o
                                · by_cases hgt : k < i
                                  · go_upto_region 21 with fail
                                    refine wp_region_c mixed0 (by kernel_rfl) (CW w g n) hwD [(· = .slice (some ⟨g, 0, none⟩) n c), (· = .int .i64 (k)), (· = .slice (some ⟨g, 0, none⟩) n c), (· = .int .i64 (a)), (· = .slice (some ⟨g, 0, none⟩) n c), (· = .int .i64 (a)), (· = .pointer (some ⟨g, a, none⟩)), isU, (· = .slice (some ⟨g, 0, none⟩) n c), (· = .int .i64 (k)), (· = .pointer (some ⟨g, k, none⟩)), isU, (· = .pointer (some ⟨g, k, none⟩)), fun _ => True, (· = .pointer (some ⟨g, a, none⟩)), fun _ => True] ?_ ?_
                                    · intro ix q hio vals W hC haf
                                      obtain ⟨x0, q0, hx0⟩ := hC.2.cell (k) (by omega)
                                      have f0 := hC.2.frozen (k)
                                      have t0 : isU (.int .u16 x0) := isU_mk _ hx0
                                      obtain ⟨x1, q1, hx1⟩ := hC.2.cell (a) (by omega)
                                      have f1 := hC.2.frozen (a)
                                      have t1 : isU (.int .u16 x1) := isU_mk _ hx1
                                      have r0 : k < n := by first | omega | exact IntWalk.i64_in _ (by omega) | go_num
                                      have r1 : a < n := by first | omega | exact IntWalk.i64_in _ (by omega) | go_num
                                      rcases ix with _ | _ | _ | _ | _ | _ | _ | _ | _ | _ | _ | _ | _ | _ | _ | _ | ix
                                      · simp at hio; subst hio; simp [bindD, rdB, Region.binds] at haf; simp [opYield_def, yieldUpon, yielded, relAct, dstAt, Act.put, Region.wanted, go_sem, hC, isU_mk, isB_mk, *]
                                      · simp at hio; subst hio; simp [bindD, rdB, Region.binds] at haf; simp [opYield_def, yieldUpon, yielded, relAct, dstAt, Act.put, Region.wanted, go_sem, hC, isU_mk, isB_mk, *]
                                      · simp at hio; subst hio; simp [bindD, rdB, Region.binds] at haf; simp [opYield_def, yieldUpon, yielded, relAct, dstAt, Act.put, Region.wanted, go_sem, hC, isU_mk, isB_mk, *]
                                      · simp at hio; subst hio; simp [bindD, rdB, Region.binds] at haf; simp [opYield_def, yieldUpon, yielded, relAct, dstAt, Act.put, Region.wanted, go_sem, hC, isU_mk, isB_mk, *]
                                      · simp at hio; subst hio; simp [bindD, rdB, Region.binds] at haf; simp [opYield_def, yieldUpon, yielded, relAct, dstAt, Act.put, Region.wanted, go_sem, hC, isU_mk, isB_mk, *]
                                      · simp at hio; subst hio; simp [bindD, rdB, Region.binds] at haf; simp [opYield_def, yieldUpon, yielded, relAct, dstAt, Act.put, Region.wanted, go_sem, hC, isU_mk, isB_mk, *]
                                      · simp at hio; subst hio; simp [bindD, rdB, Region.binds] at haf; simp [opYield_def, yieldUpon, yielded, relAct, dstAt, Act.put, Region.wanted, go_sem, hC, isU_mk, isB_mk, *]
                                      · simp at hio; subst hio; simp [bindD, rdB, Region.binds] at haf; simp [opYield_def, yieldUpon, yielded, relAct, dstAt, Act.put, Region.wanted, go_sem, hC, isU_mk, isB_mk, *]
                                      · simp at hio; subst hio; simp [bindD, rdB, Region.binds] at haf; simp [opYield_def, yieldUpon, yielded, relAct, dstAt, Act.put, Region.wanted, go_sem, hC, isU_mk, isB_mk, *]
                                      · simp at hio; subst hio; simp [bindD, rdB, Region.binds] at haf; simp [opYield_def, yieldUpon, yielded, relAct, dstAt, Act.put, Region.wanted, go_sem, hC, isU_mk, isB_mk, *]
                                      · simp at hio; subst hio; simp [bindD, rdB, Region.binds] at haf; simp [opYield_def, yieldUpon, yielded, relAct, dstAt, Act.put, Region.wanted, go_sem, hC, isU_mk, isB_mk, *]
                                      · simp at hio; subst hio; simp [bindD, rdB, Region.binds] at haf; simp [opYield_def, yieldUpon, yielded, relAct, dstAt, Act.put, Region.wanted, go_sem, hC, isU_mk, isB_mk, *]
                                      · simp at hio; subst hio; simp [bindD, rdB, Region.binds] at haf; simp [opYield_def, yieldUpon, yielded, relAct, dstAt, Act.put, Region.wanted, go_sem, hC, isU_mk, isB_mk, *]
                                      · simp at hio; subst hio; simp [bindD, rdB, Region.binds] at haf; first | (obtain ⟨e1, y2, e2, l2⟩ := haf; simp [opYield_def, yieldUpon, yielded, relAct, dstAt, Act.put, Region.wanted, go_sem, hC, isU_mk, isB_mk, *]; exact hC.set _ _ l2) | (obtain ⟨⟨y2, e2, l2⟩, e1⟩ := haf; simp [opYield_def, yieldUpon, yielded, relAct, dstAt, Act.put, Region.wanted, go_sem, hC, isU_mk, isB_mk, *]; exact hC.set _ _ l2)
                                      · simp at hio; subst hio; simp [bindD, rdB, Region.binds] at haf; simp [opYield_def, yieldUpon, yielded, relAct, dstAt, Act.put, Region.wanted, go_sem, hC, isU_mk, isB_mk, *]
                                      · simp at hio; subst hio; simp [bindD, rdB, Region.binds] at haf; first | (obtain ⟨e1, y2, e2, l2⟩ := haf; simp [opYield_def, yieldUpon, yielded, relAct, dstAt, Act.put, Region.wanted, go_sem, hC, isU_mk, isB_mk, *]; exact hC.set _ _ l2) | (obtain ⟨⟨y2, e2, l2⟩, e1⟩ := haf; simp [opYield_def, yieldUpon, yielded, relAct, dstAt, Act.put, Region.wanted, go_sem, hC, isU_mk, isB_mk, *]; exact hC.set _ _ l2)
                                      · exfalso; simp at hio
                                    · intro vals W ac hC hF hac
                                      simp [relAct, dstAt, Act.put] at hac
                                      subst hac
                                      clear hF
                                      have hwD := hC.drew
                                      go_wp2_with fail
                                      go_ret2
                                      exact ⟨⟨k, _, rfl, by omega, by omega⟩, hC⟩
                                  · go_upto_region 18 with fail
                                    refine wp_region_c mixed0 (by kernel_rfl) (CW w g n) hwD [(· = .slice (some ⟨g, 0, none⟩) n c), (· = .int .i64 (i)), (· = .slice (some ⟨g, 0, none⟩) n c), (· = .int .i64 (k)), (· = .slice (some ⟨g, 0, none⟩) n c), (· = .int .i64 (k)), (· = .pointer (some ⟨g, k, none⟩)), isU, (· = .slice (some ⟨g, 0, none⟩) n c), (· = .int .i64 (i)), (· = .pointer (some ⟨g, i, none⟩)), isU, (· = .pointer (some ⟨g, i, none⟩)), fun _ => True, (· = .pointer (some ⟨g, k, none⟩)), fun _ => True] ?_ ?_
                                    · intro ix q hio vals W hC haf
                                      obtain ⟨x0, q0, hx0⟩ := hC.2.cell (i) (by omega)
                                      have f0 := hC.2.frozen (i)
                                      have t0 : isU (.int .u16 x0) := isU_mk _ hx0
                                      obtain ⟨x1, q1, hx1⟩ := hC.2.cell (k) (by omega)
                                      have f1 := hC.2.frozen (k)
                                      have t1 : isU (.int .u16 x1) := isU_mk _ hx1
                                      have r0 : i < n := by first | omega | exact IntWalk.i64_in _ (by omega) | go_num
                                      have r1 : k < n := by first | omega | exact IntWalk.i64_in _ (by omega) | go_num
                                      rcases ix with _ | _ | _ | _ | _ | _ | _ | _ | _ | _ | _ | _ | _ | _ | _ | _ | ix
                                      · simp at hio; subst hio; simp [bindD, rdB, Region.binds] at haf; simp [opYield_def, yieldUpon, yielded, relAct, dstAt, Act.put, Region.wanted, go_sem, hC, isU_mk, isB_mk, *]
                                      · simp at hio; subst hio; simp [bindD, rdB, Region.binds] at haf; simp [opYield_def, yieldUpon, yielded, relAct, dstAt, Act.put, Region.wanted, go_sem, hC, isU_mk, isB_mk, *]
                                      · simp at hio; subst hio; simp [bindD, rdB, Region.binds] at haf; simp [opYield_def, yieldUpon, yielded, relAct, dstAt, Act.put, Region.wanted, go_sem, hC, isU_mk, isB_mk, *]
                                      · simp at hio; subst hio; simp [bindD, rdB, Region.binds] at haf; simp [opYield_def, yieldUpon, yielded, relAct, dstAt, Act.put, Region.wanted, go_sem, hC, isU_mk, isB_mk, *]
                                      · simp at hio; subst hio; simp [bindD, rdB, Region.binds] at haf; simp [opYield_def, yieldUpon, yielded, relAct, dstAt, Act.put, Region.wanted, go_sem, hC, isU_mk, isB_mk, *]
                                      · simp at hio; subst hio; simp [bindD, rdB, Region.binds] at haf; simp [opYield_def, yieldUpon, yielded, relAct, dstAt, Act.put, Region.wanted, go_sem, hC, isU_mk, isB_mk, *]
                                      · simp at hio; subst hio; simp [bindD, rdB, Region.binds] at haf; simp [opYield_def, yieldUpon, yielded, relAct, dstAt, Act.put, Region.wanted, go_sem, hC, isU_mk, isB_mk, *]
                                      · simp at hio; subst hio; simp [bindD, rdB, Region.binds] at haf; simp [opYield_def, yieldUpon, yielded, relAct, dstAt, Act.put, Region.wanted, go_sem, hC, isU_mk, isB_mk, *]
                                      · simp at hio; subst hio; simp [bindD, rdB, Region.binds] at haf; simp [opYield_def, yieldUpon, yielded, relAct, dstAt, Act.put, Region.wanted, go_sem, hC, isU_mk, isB_mk, *]
                                      · simp at hio; subst hio; simp [bindD, rdB, Region.binds] at haf; simp [opYield_def, yieldUpon, yielded, relAct, dstAt, Act.put, Region.wanted, go_sem, hC, isU_mk, isB_mk, *]
                                      · simp at hio; subst hio; simp [bindD, rdB, Region.binds] at haf; simp [opYield_def, yieldUpon, yielded, relAct, dstAt, Act.put, Region.wanted, go_sem, hC, isU_mk, isB_mk, *]
                                      · simp at hio; subst hio; simp [bindD, rdB, Region.binds] at haf; simp [opYield_def, yieldUpon, yielded, relAct, dstAt, Act.put, Region.wanted, go_sem, hC, isU_mk, isB_mk, *]
                                      · simp at hio; subst hio; simp [bindD, rdB, Region.binds] at haf; simp [opYield_def, yieldUpon, yielded, relAct, dstAt, Act.put, Region.wanted, go_sem, hC, isU_mk, isB_mk, *]
                                      · simp at hio; subst hio; simp [bindD, rdB, Region.binds] at haf; first | (obtain ⟨e1, y2, e2, l2⟩ := haf; simp [opYield_def, yieldUpon, yielded, relAct, dstAt, Act.put, Region.wanted, go_sem, hC, isU_mk, isB_mk, *]; exact hC.set _ _ l2) | (obtain ⟨⟨y2, e2, l2⟩, e1⟩ := haf; simp [opYield_def, yieldUpon, yielded, relAct, dstAt, Act.put, Region.wanted, go_sem, hC, isU_mk, isB_mk, *]; exact hC.set _ _ l2)
                                      · simp at hio; subst hio; simp [bindD, rdB, Region.binds] at haf; simp [opYield_def, yieldUpon, yielded, relAct, dstAt, Act.put, Region.wanted, go_sem, hC, isU_mk, isB_mk, *]
                                      · simp at hio; subst hio; simp [bindD, rdB, Region.binds] at haf; first | (obtain ⟨e1, y2, e2, l2⟩ := haf; simp [opYield_def, yieldUpon, yielded, relAct, dstAt, Act.put, Region.wanted, go_sem, hC, isU_mk, isB_mk, *]; exact hC.set _ _ l2) | (obtain ⟨⟨y2, e2, l2⟩, e1⟩ := haf; simp [opYield_def, yieldUpon, yielded, relAct, dstAt, Act.put, Region.wanted, go_sem, hC, isU_mk, isB_mk, *]; exact hC.set _ _ l2)
                                      · exfalso; simp at hio
                                    · intro vals W ac hC hF hac
                                      simp [relAct, dstAt, Act.put] at hac
                                      subst hac
                                      clear hF
                                      have hwD := hC.drew
                                      go_wp2_with fail
                                      exact ⟨⟨i + 1, k - 1, by go_num, by go_num, by omega, by omega, by omega, by omega, hC⟩, by simp [intOf]; omega⟩
                                · have hij := hoG rfl
                                  go_wp2_with fail
                                  exact ⟨⟨k - 1, by go_num, by omega, by omega, hC⟩, by simp [intOf]; omega⟩
                          · have hij := hoG rfl
                            go_wp2_with fail
                            exact ⟨⟨i + 1, by go_num, by omega, by omega, hC⟩, by simp [intOf]; omega⟩
              · have hij := hoG rfl
                go_wp2_with fail
                exact ⟨⟨k - 1, by go_num, by omega, by omega, hC⟩, by simp [intOf]; omega⟩
        · have hij := hoG rfl
          go_wp2_with fail
          exact ⟨⟨i + 1, by go_num, by omega, by omega, hC⟩, by simp [intOf]; omega⟩
end Nm
end Go.Proofs.YtkeimgamjnpcbaaGreat
