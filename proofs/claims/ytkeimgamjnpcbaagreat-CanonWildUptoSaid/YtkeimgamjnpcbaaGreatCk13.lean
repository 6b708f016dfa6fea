/-
  Texts merged by a program (Pdq9, PdqS, Val2, Val3, Cmp16, Clean, Bitm).
-/
import Derived.Deep.CutRange
import Derived.Test.YtkeimgamjnpcbaaGreatCk5
import Derived.Test.YtkeimgamjnpcbaaGreatCk7
import Derived.Test.YtkeimgamjnpcbaaGreatCk8
import Derived.Test.YtkeimgamjnpcbaaGreatCk9
import Derived.Test.YtkeimgamjnpcbaaGreatCk10
import Derived.Test.YtkeimgamjnpcbaaGreatCk11
import Derived.Test.YtkeimgamjnpcbaaGreatCk12
set_option linter.unusedSimpArgs false
set_option linter.unusedVariables false
/- pdqsortOrdered at uint16, whatever the row holds. (Printed by a program: wip/gen_pdq9.py.) -/
namespace Go.Proofs.YtkeimgamjnpcbaaGreat
open Go.RowKit
set_option linter.unusedVariables false
set_option linter.unusedSimpArgs false
namespace Nm
theorem ins16_none (v : Value) (a : Nat) (w : World) (ha : a ≤ 1000000000) : Calls Tryz.prog 200 #[v, .int .i64 a, .int .i64 a] w fun e w' => e = .returned (.tuple #[]) ∧ w = w' := by
  go_enter Tryz.func200, Tryz.ntmps200
  go_wp2_with fail
  refine wp_loop_rounds 2 ?_
  rw [rounds_succ]
  have h : ¬ (a : Int) + 1 < (a : Int) := by omega
  go_wp2_with fail
  refine bodyPost_end (results_none rfl _ _ _) rfl ?_
  exact ⟨rfl, rfl⟩
theorem ins16' (g n c a b : Nat) (w : World) (h : Row16 w g n) (hc : n ≤ c) (hb : b ≤ n) (hab : a ≤ b) (hn : n ≤ 1000000000) :
    Calls Tryz.prog 200 #[.slice (some ⟨g, 0, none⟩) n c, .int .i64 a, .int .i64 b] w fun e w' => e = .returned (.tuple #[]) ∧ CW w g n w' := by
  rcases Nat.lt_or_ge a b with h1 | h1
  · exact ins16 g n c a b w h hc hb h1 hn
  · obtain rfl : a = b := by omega
    exact (ins16_none _ a w (by omega)).mono fun e w' ⟨h1, h2⟩ => ⟨h1, by rw [← h2]; exact CW.refl h⟩
def PdqR (lo hi : Nat) (w : World) (g n : Nat) (va vb vl vo vp : Value) (W : World) : Prop := ∃ (a b l : Nat) (o p : Bool), va = .int .i64 a ∧ vb = .int .i64 b ∧ vl = .int .i64 l ∧ vo = .bool o ∧ vp = .bool p ∧ lo ≤ a ∧ a ≤ b ∧ (b ≤ hi ∧ l ≤ 64) ∧ CW w g n W
set_option maxRecDepth 100000 in
set_option maxHeartbeats 100000000 in
theorem pdq16 (g n c : Nat) (hc : n ≤ c) (hn : n ≤ 1000000000) : ∀ (N a0 b0 l0 : Nat) (w : World), b0 - a0 < N → Row16 w g n → g < w.heap.size → a0 ≤ b0 → (b0 ≤ n ∧ l0 ≤ 64) →
    Calls Tryz.prog 172 #[.slice (some ⟨g, 0, none⟩) n c, .int .i64 a0, .int .i64 b0, .int .i64 l0] w fun e w' => e = .returned (.tuple #[]) ∧ CW w g n w' := by
  intro N
  induction N with
  | zero => intro a0 b0 l0 w h; omega
  | succ N IH0 =>
    intro a0 b0 l0 w hN h hg hab hbn
    have IH : ∀ a b l w, b - a < N → Row16 w g n → g < w.heap.size → a ≤ b → (b ≤ n ∧ l ≤ 64) → Calls Tryz.prog 172 #[.slice (some ⟨g, 0, none⟩) n c, .int .i64 (a : Nat), .int .i64 (b : Nat), .int .i64 (l : Nat)] w fun e w' => e = .returned (.tuple #[]) ∧ CW w g n w' := IH0
    clear IH0
    go_enter Tryz.func172, Tryz.ntmps172
    go_wp2_with fail
    go_loopw [1, 2, 3, 8, 9] (PdqR a0 b0 w g n) (fun a b _ _ _ _ => (intOf b).toNat - (intOf a).toNat)
    case atStart => exact ⟨a0, b0, l0, true, true, rfl, rfl, rfl, rfl, rfl, by omega, hab, by omega, CW.refl h⟩
    case round =>
      obtain ⟨a, b, l, wb, wp, rfl, rfl, rfl, rfl, rfl, ha1, hab1, hbl, hX⟩ := hrel
      have hb2 : b ≤ n := by omega
      have hg1 : g < wr.heap.size := by have := hX.1.size; omega
      obtain ⟨w1, hww⟩ : ∃ w1, w1 = wr := ⟨_, rfl⟩
      rw [← hww] at hX hg1 ⊢
      clear hww
      by_cases h12 : b - a ≤ 12
      · have h122 : (b : Int) - (a : Int) ≤ 12 := by omega
        go_wp2_with fail
        refine (ins16' g n c a b w1 hX.2 hc hb2 hab1 hn).mono ?_
        rintro e w2 ⟨rfl, hw2⟩
        go_wp2_with fail
        first | refine bodyPost_end (results_none rfl _ _ _) rfl ?_ | refine bodyPost_ret (results_none rfl _ _ _) rfl ?_
        exact ⟨rfl, hX.trans hw2⟩
      · have h122 : ¬ (b : Int) - (a : Int) ≤ 12 := by omega
        by_cases hl0 : l = 0
        · subst hl0
          go_wp2_with fail
          refine (heap16 g n c a b w1 hX.2 hc hb2 (by omega) hn).mono ?_
          rintro e w2 ⟨rfl, hw2⟩
          go_wp2_with fail
          first | refine bodyPost_end (results_none rfl _ _ _) rfl ?_ | refine bodyPost_ret (results_none rfl _ _ _) rfl ?_
          exact ⟨rfl, hX.trans hw2⟩
        · have hl02 : ¬ (l : Int) = 0 := by omega
          go_upto_if 35 with fail
          go_cut [3, 8] from 19 to 133 (fun vl vo wx => ∃ l1 : Nat, vl = .int .i64 l1 ∧ l1 ≤ 64 ∧ (∃ o : Bool, vo = .bool o) ∧ CW w g n wx)
          case first =>
            cases wb
            · go_wp2_with fail
              refine (break16 g n c a b w1 hX.2 hg1 hc hb2 (by omega) hn).mono ?_
              rintro e wx ⟨rfl, hwx⟩
              have hX2 := hX.trans hwx
              obtain ⟨l1, hl1⟩ : ∃ l1 : Nat, l1 + 1 ≤ l ∧ l ≤ l1 + 1 := ⟨l - 1, by omega⟩
              have el : (l : Int) - 1 = (l1 : Int) := by omega
              go_wp2_with fail
              go_meet
              case rel => exact ⟨l1, rfl, by omega, ⟨_, rfl⟩, hX2⟩
            · go_wp2_with fail
              go_meet
              case rel => exact ⟨l, rfl, by omega, ⟨_, rfl⟩, hX⟩
          case rest =>
            clear hX hg1 hl0 hl02
            obtain ⟨l1, rfl, hl1, ⟨wb2, rfl⟩, hX⟩ := hcut
            have hg1 : g < wc.heap.size := by have := hX.1.size; omega
            go_wp2_with fail
            refine (pivot16 g n c a b wc hX.2 hg1 hc hb2 (by omega) hn).mono ?_
            rintro e w2 ⟨⟨p, y, rfl, hp1, hy⟩, hw2⟩
            have hX2 := hX.trans hw2
            clear hw2 hX hg1
            go_upto_if 50 with fail
            go_cut [11, 12] from 19 to 133 (fun vp vy wx => ∃ p y : Nat, vp = .int .i64 p ∧ vy = .int .i64 y ∧ (a ≤ p ∧ p < b) ∧ CW w g n wx)
            case first =>
              obtain rfl | rfl | rfl : y = 0 ∨ y = 1 ∨ y = 2 := by omega
              · go_wp2_with fail
                go_meet
                case rel => exact ⟨p, 0, rfl, rfl, hp1, hX2⟩
              · go_wp2_with fail
                go_meet
                case rel => exact ⟨p, 1, rfl, rfl, hp1, hX2⟩
              · go_wp2_with fail
                refine (rev16 g n c a b w2 hX2.2 hc hb2 (by omega) hn).mono ?_
                rintro e w3 ⟨rfl, hw3⟩
                have hX3 := hX2.trans hw3
                go_wp2_with fail
                go_meet
                case rel => exact ⟨b - 1 - (p - a), 1, by show Value.int .i64 _ = Value.int .i64 _; congr 1; omega, rfl, by omega, hX3⟩
            case rest =>
              clear hX2 hp1 hy
              obtain ⟨p, y, rfl, rfl, hp1, hX⟩ := hcut
              go_upto_region 15 with fail
              go_cut [8, 9, 68] from 19 to 133 (fun v8 v9 s wx => (∃ o : Bool, v8 = .bool o) ∧ (∃ o : Bool, v9 = .bool o) ∧ (∃ o : Bool, s = .bool o) ∧ CW w g n wx)
              case first =>
                cases wb2 <;> cases wp
                all_goals go_wp2_with fail
                all_goals go_meet
                all_goals exact ⟨⟨_, rfl⟩, ⟨_, rfl⟩, ⟨_, rfl⟩, hX⟩
              case rest =>
                clear hX
                obtain ⟨⟨wb3, rfl⟩, ⟨wp3, rfl⟩, ⟨o, rfl⟩, hX⟩ := hcut
                go_upto_if 68 with fail
                go_cut [] from 19 to 133 (fun wx => CW w g n wx)
                case first =>
                  cases o
                  · go_wp2_with fail
                    go_meet
                    case rel => exact hX
                  · go_wp2_with fail
                    refine (partins16 g n c a b _ hX.2 hc hb2 (by omega) hn).mono ?_
                    rintro e w4 ⟨⟨o4, rfl⟩, hw4⟩
                    have hX4 := hX.trans hw4
                    cases o4
                    · go_wp2_with fail
                      go_meet
                      case rel => exact hX4
                    · go_wp2_with fail
                      first | refine bodyPost_end (results_none rfl _ _ _) rfl ?_ | refine bodyPost_ret (results_none rfl _ _ _) rfl ?_
                      exact ⟨rfl, hX4⟩
                case rest =>
                  clear hX
                  have hX := hcut
                  clear hcut
                  obtain ⟨d, hd⟩ : ∃ d : Nat, d ≤ a - 1 ∧ a - 1 ≤ d := ⟨a - 1, by omega⟩
                  have hwD := hX.drew
                  go_upto_region 17 with fail
                  refine wp_region_c mixed0 (by kernel_rfl) (CW w g n) hwD [(· = .int .i64 (a)), (· = .bool (decide (0 < a))), (· = .bool (decide (0 < a))), (fun v => 0 < a → v = .slice (some ⟨g, 0, none⟩) n c), (fun v => 0 < a → v = .int .i64 (a)), (fun v => 0 < a → v = .int .i64 (d)), (fun v => 0 < a → v = .pointer (some ⟨g, d, none⟩)), (fun v => 0 < a → isU v), (fun v => 0 < a → v = .slice (some ⟨g, 0, none⟩) n c), (fun v => 0 < a → v = .int .i64 (p)), (fun v => 0 < a → v = .pointer (some ⟨g, p, none⟩)), (fun v => 0 < a → isU v), (fun v => 0 < a → isB v), (fun v => 0 < a → isB v), (fun v => ∃ o : Bool, v = .bool o ∧ (o = true → 0 < a))] ?_ ?_
                  · intro ix q hio vals W hC haf
                    by_cases hg : 0 < a
                    · obtain ⟨x0, q0, hx0⟩ := hC.2.cell (d) (by omega)
                      have f0 := hC.2.frozen (d)
                      have t0 : isU (.int .u16 x0) := isU_mk _ hx0
                      obtain ⟨x1, q1, hx1⟩ := hC.2.cell (p) (by omega)
                      have f1 := hC.2.frozen (p)
                      have t1 : isU (.int .u16 x1) := isU_mk _ hx1
                      have r0 : IntKind.i64.wrap ((a : Int) - 1) = (d : Int) := by first | omega | exact IntWalk.i64_in _ (by omega) | exact (IntWalk.i64_in _ (by omega)).trans (by omega) | go_num
                      have r1 : d < n := by first | omega | exact IntWalk.i64_in _ (by omega) | exact (IntWalk.i64_in _ (by omega)).trans (by omega) | go_num
                      have r2 : p < n := by first | omega | exact IntWalk.i64_in _ (by omega) | exact (IntWalk.i64_in _ (by omega)).trans (by omega) | go_num
                      have r3 : a < n := by first | omega | exact IntWalk.i64_in _ (by omega) | exact (IntWalk.i64_in _ (by omega)).trans (by omega) | go_num
                      rcases ix with _ | _ | _ | _ | _ | _ | _ | _ | _ | _ | _ | _ | _ | _ | _ | ix
                      · simp at hio; subst hio; simp [bindD, rdB, Region.binds, hg] at haf; simp [opYield_def, yieldUpon, yielded, relAct, dstAt, Act.put, Region.wanted, go_sem, hC, isU_mk, isB_mk, *]
                      · simp at hio; subst hio; simp [bindD, rdB, Region.binds, hg] at haf; simp [opYield_def, yieldUpon, yielded, relAct, dstAt, Act.put, Region.wanted, go_sem, hC, isU_mk, isB_mk, *]
                      · simp at hio; subst hio; simp [bindD, rdB, Region.binds, hg] at haf; simp [opYield_def, yieldUpon, yielded, relAct, dstAt, Act.put, Region.wanted, go_sem, hC, isU_mk, isB_mk, *]
                      · simp at hio; subst hio; simp [bindD, rdB, Region.binds, hg] at haf; simp [opYield_def, yieldUpon, yielded, relAct, dstAt, Act.put, Region.wanted, go_sem, hC, isU_mk, isB_mk, *]
                      · simp at hio; subst hio; simp [bindD, rdB, Region.binds, hg] at haf; simp [opYield_def, yieldUpon, yielded, relAct, dstAt, Act.put, Region.wanted, go_sem, hC, isU_mk, isB_mk, *]
                      · simp at hio; subst hio; simp [bindD, rdB, Region.binds, hg] at haf; simp [opYield_def, yieldUpon, yielded, relAct, dstAt, Act.put, Region.wanted, go_sem, hC, isU_mk, isB_mk, *]
                      · simp at hio; subst hio; simp [bindD, rdB, Region.binds, hg] at haf; simp [opYield_def, yieldUpon, yielded, relAct, dstAt, Act.put, Region.wanted, go_sem, hC, isU_mk, isB_mk, *]
                      · simp at hio; subst hio; simp [bindD, rdB, Region.binds, hg] at haf; simp [opYield_def, yieldUpon, yielded, relAct, dstAt, Act.put, Region.wanted, go_sem, hC, isU_mk, isB_mk, *]
                      · simp at hio; subst hio; simp [bindD, rdB, Region.binds, hg] at haf; simp [opYield_def, yieldUpon, yielded, relAct, dstAt, Act.put, Region.wanted, go_sem, hC, isU_mk, isB_mk, *]
                      · simp at hio; subst hio; simp [bindD, rdB, Region.binds, hg] at haf; simp [opYield_def, yieldUpon, yielded, relAct, dstAt, Act.put, Region.wanted, go_sem, hC, isU_mk, isB_mk, *]
                      · simp at hio; subst hio; simp [bindD, rdB, Region.binds, hg] at haf; simp [opYield_def, yieldUpon, yielded, relAct, dstAt, Act.put, Region.wanted, go_sem, hC, isU_mk, isB_mk, *]
                      · simp at hio; subst hio; simp [bindD, rdB, Region.binds, hg] at haf; simp [opYield_def, yieldUpon, yielded, relAct, dstAt, Act.put, Region.wanted, go_sem, hC, isU_mk, isB_mk, *]
                      · simp at hio; subst hio; simp [bindD, rdB, Region.binds, hg] at haf; first | (obtain ⟨⟨y1, e1, l1⟩, ⟨y2, e2, l2⟩, e3⟩ := haf; simp [opYield_def, yieldUpon, yielded, relAct, dstAt, Act.put, Region.wanted, go_sem, hC, isU_mk, isB_mk, *]; exact (less16 y1 y2 W).mono fun e w' ⟨h1, h2⟩ => ⟨_, h1, by rw [h2]; exact hC, _, rfl⟩) | (obtain ⟨⟨y1, e1, l1⟩, ⟨y2, e2, l2⟩⟩ := haf; simp [opYield_def, yieldUpon, yielded, relAct, dstAt, Act.put, Region.wanted, go_sem, hC, isU_mk, isB_mk, *]; exact (less16 y1 y2 W).mono fun e w' ⟨h1, h2⟩ => ⟨_, h1, by rw [h2]; exact hC, _, rfl⟩)
                      · simp at hio; subst hio; simp [bindD, rdB, Region.binds, hg] at haf; first | (simp [opYield_def, yieldUpon, yielded, relAct, dstAt, Act.put, Region.wanted, go_sem, hC, isU_mk, isB_mk, *]; done) | (obtain ⟨y, e1⟩ := haf; simp [opYield_def, yieldUpon, yielded, relAct, dstAt, Act.put, Region.wanted, go_sem, hC, isU_mk, isB_mk, *]; done) | (obtain ⟨⟨y, e1⟩, e2⟩ := haf; simp [opYield_def, yieldUpon, yielded, relAct, dstAt, Act.put, Region.wanted, go_sem, hC, isU_mk, isB_mk, *]; done) | (obtain ⟨e2, ⟨y, e1⟩⟩ := haf; simp [opYield_def, yieldUpon, yielded, relAct, dstAt, Act.put, Region.wanted, go_sem, hC, isU_mk, isB_mk, *]; done)
                      · simp at hio; subst hio; simp [bindD, rdB, Region.binds, hg] at haf; first | (simp [opYield_def, yieldUpon, yielded, relAct, dstAt, Act.put, Region.wanted, go_sem, hC, isU_mk, isB_mk, *]; done) | (obtain ⟨y, e1⟩ := haf; simp [opYield_def, yieldUpon, yielded, relAct, dstAt, Act.put, Region.wanted, go_sem, hC, isU_mk, isB_mk, *]; done) | (obtain ⟨⟨y, e1⟩, e2⟩ := haf; simp [opYield_def, yieldUpon, yielded, relAct, dstAt, Act.put, Region.wanted, go_sem, hC, isU_mk, isB_mk, *]; done) | (obtain ⟨e2, ⟨y, e1⟩⟩ := haf; simp [opYield_def, yieldUpon, yielded, relAct, dstAt, Act.put, Region.wanted, go_sem, hC, isU_mk, isB_mk, *]; done)
                      · exfalso; simp at hio
                    · rcases ix with _ | _ | _ | _ | _ | _ | _ | _ | _ | _ | _ | _ | _ | _ | _ | ix
                      · simp at hio; subst hio; simp [bindD, rdB, Region.binds, hg] at haf; simp [opYield_def, yieldUpon, yielded, relAct, dstAt, Act.put, Region.wanted, go_sem, hC, isU_mk, isB_mk, *]
                      · simp at hio; subst hio; simp [bindD, rdB, Region.binds, hg] at haf; simp [opYield_def, yieldUpon, yielded, relAct, dstAt, Act.put, Region.wanted, go_sem, hC, isU_mk, isB_mk, *]
                      · simp at hio; subst hio; simp [bindD, rdB, Region.binds, hg] at haf; simp [opYield_def, yieldUpon, yielded, relAct, dstAt, Act.put, Region.wanted, go_sem, hC, isU_mk, isB_mk, *]
                      · simp at hio; subst hio; simp [bindD, rdB, Region.binds, hg] at haf; simp [opYield_def, yieldUpon, yielded, relAct, dstAt, Act.put, Region.wanted, go_sem, hC, isU_mk, isB_mk, *]
                      · simp at hio; subst hio; simp [bindD, rdB, Region.binds, hg] at haf; simp [opYield_def, yieldUpon, yielded, relAct, dstAt, Act.put, Region.wanted, go_sem, hC, isU_mk, isB_mk, *]
                      · simp at hio; subst hio; simp [bindD, rdB, Region.binds, hg] at haf; simp [opYield_def, yieldUpon, yielded, relAct, dstAt, Act.put, Region.wanted, go_sem, hC, isU_mk, isB_mk, *]
                      · simp at hio; subst hio; simp [bindD, rdB, Region.binds, hg] at haf; simp [opYield_def, yieldUpon, yielded, relAct, dstAt, Act.put, Region.wanted, go_sem, hC, isU_mk, isB_mk, *]
                      · simp at hio; subst hio; simp [bindD, rdB, Region.binds, hg] at haf; simp [opYield_def, yieldUpon, yielded, relAct, dstAt, Act.put, Region.wanted, go_sem, hC, isU_mk, isB_mk, *]
                      · simp at hio; subst hio; simp [bindD, rdB, Region.binds, hg] at haf; simp [opYield_def, yieldUpon, yielded, relAct, dstAt, Act.put, Region.wanted, go_sem, hC, isU_mk, isB_mk, *]
                      · simp at hio; subst hio; simp [bindD, rdB, Region.binds, hg] at haf; simp [opYield_def, yieldUpon, yielded, relAct, dstAt, Act.put, Region.wanted, go_sem, hC, isU_mk, isB_mk, *]
                      · simp at hio; subst hio; simp [bindD, rdB, Region.binds, hg] at haf; simp [opYield_def, yieldUpon, yielded, relAct, dstAt, Act.put, Region.wanted, go_sem, hC, isU_mk, isB_mk, *]
                      · simp at hio; subst hio; simp [bindD, rdB, Region.binds, hg] at haf; simp [opYield_def, yieldUpon, yielded, relAct, dstAt, Act.put, Region.wanted, go_sem, hC, isU_mk, isB_mk, *]
                      · simp at hio; subst hio; simp [bindD, rdB, Region.binds, hg] at haf; simp [opYield_def, yieldUpon, yielded, relAct, dstAt, Act.put, Region.wanted, go_sem, hC, isU_mk, isB_mk, *]
                      · simp at hio; subst hio; simp [bindD, rdB, Region.binds, hg] at haf; simp [opYield_def, yieldUpon, yielded, relAct, dstAt, Act.put, Region.wanted, go_sem, hC, isU_mk, isB_mk, *]
                      · simp at hio; subst hio; simp [bindD, rdB, Region.binds, hg] at haf; simp [opYield_def, yieldUpon, yielded, relAct, dstAt, Act.put, Region.wanted, go_sem, hC, isU_mk, isB_mk, *]
                      · exfalso; simp at hio
                  · intro vals W ac hC hF hac
                    obtain ⟨o, ho, hoG⟩ : ∃ o : Bool, vals 14 = .bool o ∧ (o = true → 0 < a) := hF 14 (by show 14 < 15; omega)
                    simp [relAct, dstAt, Act.put] at hac
                    rw [ho] at hac
                    subst hac
                    clear hF
                    have hwD := hC.drew
                    clear hwD
                    have hgW : g < W.heap.size := by have := hC.1.size; omega
                    cases o
                    · go_wp2_with fail
                      refine (part16 g n c a b p W hC.2 hc hb2 hp1.1 hp1.2 hn).mono ?_
                      rintro e w8 ⟨⟨m, al, rfl, hm1, hm2⟩, hw8⟩
                      have hY := hC.trans hw8
                      have hg8 : g < w8.heap.size := by have := hw8.1.size; omega
                      by_cases hlr : m - a < b - m
                      · have hlr2 : (m : Int) - (a : Int) < (b : Int) - (m : Int) := by omega
                        go_wp2_with fail
                        refine (IH a m (l1) w8 (by omega) hY.2 hg8 hm1 (by omega)).mono ?_
                        rintro e w9 ⟨rfl, hw9⟩
                        have hZ := hY.trans hw9
                        go_wp2_with fail
                        exact ⟨⟨m + 1, b, l1, _, al, by go_num, rfl, by go_num, rfl, rfl, by omega, by omega, by omega, hZ⟩, by simp [intOf]; omega⟩
                      · have hlr2 : ¬ (m : Int) - (a : Int) < (b : Int) - (m : Int) := by omega
                        have em : (m : Int) + 1 = ((m + 1 : Nat) : Int) := by omega
                        have HI := Lib.hid (IH (m + 1) b (l1) w8 (by omega) hY.2 hg8 (by omega) (by omega))
                        rw [← em] at HI
                        clear em
                        go_wp2_with fail
                        refine HI.out.mono ?_
                        rintro e w9 ⟨rfl, hw9⟩
                        have hZ := hY.trans hw9
                        go_wp2_with fail
                        exact ⟨⟨a, m, l1, _, al, rfl, rfl, by go_num, rfl, rfl, by omega, by omega, by omega, hZ⟩, by simp [intOf]; omega⟩
                    · go_wp2_with fail
                      refine (parteq16 g n c a b p W hC.2 hc hb2 hp1.1 hp1.2 hn).mono ?_
                      rintro e w8 ⟨⟨m, rfl, hm1, hm2⟩, hw8⟩
                      have hZ := hC.trans hw8
                      go_wp2_with fail
                      exact ⟨⟨m, b, l1, _, _, rfl, rfl, by go_num, rfl, rfl, by omega, by omega, by omega, hZ⟩, by simp [intOf]; omega⟩
end Nm
end Go.Proofs.YtkeimgamjnpcbaaGreat

/- slices.Sort at uint16, whatever the row holds. -/
namespace Go.Proofs.YtkeimgamjnpcbaaGreat
open Go.RowKit
set_option linter.unusedVariables false
set_option linter.unusedSimpArgs false
namespace Nm
set_option maxRecDepth 100000 in
set_option maxHeartbeats 8000000 in
theorem Sort16 (g n c : Nat) (w : World) (h : Row16 w g n) (hg : g < w.heap.size) (hc : n ≤ c) (hn : n ≤ 1000000000) :
    Calls Tryz.prog 126 #[.slice (some ⟨g, 0, none⟩) n c] w fun e w' => e = .returned (.tuple #[]) ∧ CW w g n w' := by
  have hLen : ∀ w, Calls Tryz.prog 119 #[.int .u64 (n : Int)] w fun e w' => e = .returned (.int .i64 (Go.Sort.bitsLen n : Nat)) ∧ w' = w := fun w => by
    have h := Go.Proofs.Any.bits_Len (Go.Proofs.SlLaysF0.n15.bits (P := Tryz.prog) (ρ := Tryz.sortB_ren) { Tryz.sortB with }) (n : Int) w (by omega) (by omega)
    rwa [Int.toNat_natCast, Go.Proofs.bitLen_eq _ (by omega)] at h
  have hk : Go.Sort.bitsLen n ≤ 62 := (Go.Sort.bitsLen_le_iff n 62).2 (by omega)
  have hq := Lib.hid fun w l (h : Row16 w g n) (hg : g < w.heap.size) (hl : l ≤ 64) => pdq16 g n c hc hn (n + 1) 0 n l w (by omega) h hg (by omega) ⟨Nat.le_refl _, hl⟩
  have HL := Lib.hid hLen
  clear hLen
  go_enter Tryz.func126, Tryz.ntmps126
  go_wp2_with fail
  refine (HL.out _).mono ?_
  rintro e w1 ⟨rfl, rfl⟩
  generalize Go.Sort.bitsLen n = l at *
  go_wp2_with fail
  refine (hq.out _ l h hg (by omega)).mono ?_
  rintro e w2 ⟨rfl, hw2⟩
  go_wp2_with fail
  first | refine bodyPost_end (results_none rfl _ _ _) rfl ?_ | refine bodyPost_ret (results_none rfl _ _ _) rfl ?_
  exact ⟨rfl, hw2⟩
end Nm
end Go.Proofs.YtkeimgamjnpcbaaGreat

/- slices.AppendSeq, Collect, Sorted at uint16 over slices.Values. -/
namespace Go.Proofs.YtkeimgamjnpcbaaGreat
open Go.RowKit Go.Maps Go.Sort Go.Shelf Go.Proofs
set_option linter.unusedVariables false
attribute [local go_sem] Oper.semAt_some
namespace Nm
/-- the cells of a slice of numbers -/
def CsU (w : World) (A : Option Addr) (xs : List Int) : Prop := ∀ (k : Nat) (x : Int), xs[k]? = some x → ∃ b off, A = some ⟨b, off, none⟩ ∧ b < w.heap.size ∧ w.cell? ⟨b, off + k, none⟩ = some (.int .u16 x)
theorem CsU.below {w w' : World} {A : Option Addr} {xs : List Int} (h : CsU w A xs) (hb : RowKit.Below w.heap.size w w') : CsU w' A xs := by
  intro k x hx
  obtain ⟨b, off, h1, h2, h3⟩ := h k x hx
  exact ⟨b, off, h1, Nat.lt_of_lt_of_le h2 hb.size, (hb.cell (p := ⟨b, off + k, none⟩) h2).trans h3⟩
set_option maxRecDepth 100000 in
set_option maxHeartbeats 2000000 in
theorem AppendSeqU (Bm c : Nat) (A : Option Addr) (xs : List Int) (w : World) (hBm : Bm < w.heap.size) (hlen : xs.length ≤ 1000000000) (hm : w.cell? ⟨Bm, 0, none⟩ = some (.slice A xs.length c)) (hc : CsU w A xs) :
    Calls Tryz.prog 171 #[.slice none 0 0, .func (.func 227) #[] #[.pointer (some ⟨Bm, 0, none⟩)]] w fun e W' => ∃ v, e = .returned v ∧ W'.ownsRow w.heap.size 24 1 v xs.length (xs.map (Value.int .u16)) ∧ RowKit.Below w.heap.size w W' := by
  refine (callsIn_wide (n := 6)).1 ?_
  obtain ⟨i0, hi, hz0, hz1, hz2⟩ := info_parts info_u16
  refine callsIn_of_wp_marks Tryz.func171 rfl trivial ?_ rfl
  simp only [Tryz.ntmps171, List.size_toArray, List.length_cons, List.length_nil, Nat.reduceAdd, Nat.reduceSub, Array.replicate_succ, Array.replicate_zero, List.push_toArray, List.append_toArray, List.nil_append, List.cons_append]
  gi_wp2
  have bO := Boxed.new w 81 (.slice none 0 0)
  have hB0 : RowKit.Below w.heap.size w (w.alloc (.cells #[.slice none 0 0] 81)) := (RowKit.Below.refl _ w).alloc (Nat.le_refl _) _
  refine wpIn_rangeFunc_ownG rfl (by omega) (gf := 227) (lb := #[.pointer (some ⟨Bm, 0, none⟩)]) rfl trivial (enters_of Tryz.func227 (by kernel_rfl) rfl)
    (valsU_stops Fence.wide (6 - 1) trivial rfl (by omega) Bm c A xs w hBm hlen hm hc) (fun h k => h.trans k) (fun W l o o' hl _ _ _ => ⟨rfl, rfl, rfl, by simp [World.putObj], fun k hk => World.putObj_heap_other (by simp at hl; omega)⟩) hB0 (fun _ => rfl)
    (fun pre W => (∃ v, Boxed W w.heap.size 81 v ∧ W.ownsRow w.heap.size 24 1 v pre.length (pre.map (Value.int .u16)) ∧ (v = .slice none 0 0 ↔ pre = [])) ∧ RowKit.Below w.heap.size w W)
    (fun _ _ _ => False)
    (OwnFrom.and (Own.from (holdsRow_own w.heap.size w.heap.size 81 24 1 (fun pre => pre.length) (fun pre => pre.map (Value.int .u16)) (fun pre v => v = .slice none 0 0 ↔ pre = [])) _) (ownFrom_below (Nat.le_refl _) (by simp)))
    (fun _ _ _ _ _ hs _ _ => hs)
    ⟨⟨_, bO, World.ownsRow_nil _ _ _ _, by simp⟩, hB0⟩
    (fun x => { tmps := #[.slice none 0 0, .func (.func 227) #[] #[.pointer (some ⟨Bm, 0, none⟩)], .pointer (some ⟨w.heap.size, 0, none⟩), undef, .slice none 0 0, .int .u16 x, .func (.func 227) #[] #[.pointer (some ⟨Bm, 0, none⟩)], .int .u16 x, undef, undef, undef, undef, undef], defers := [] }) ?assign ?body ?done ?stop
  case assign =>
    intro l x W K hK
    gi_wp2
    exact hK
  case body =>
    rintro l pre x W ⟨⟨v, hv, hrow, hnil⟩, hB⟩ hlt
    have hc := hv.cell
    gi_wp2_with (gi_at_builtin; refine wpListIn_append_own _ rfl _ _ 81 rfl w.heap.size 24 i0 (.int .u16 0) 1 2 Tryz.underlying81 hi hz0 hz1 hz2 rfl (by decide) _ _ _ rfl (hrow.alloc _) ⟨W.heap.size, 0, none⟩ 1 1 [.int .u16 x] rfl rfl (cell_one_new _ _ _) (by simp [Value.oneCell']) (by unfold maxLen; omega) (by omega) (by have := hB.size; simp; omega) ?_; intro v' w1 hown' hgrow _; obtain ⟨g', cap', rfl⟩ := ownsRow_succ hown'; obtain ⟨hv1, hv2, hr2, hk2, hb2⟩ := hv.appended (by decide) hrow hB.size (Nat.le_refl _) hown' hgrow; have hc1 := hv1.cell; have hf1 := hv1.frozen)
    exact ⟨hk2.from _, hb2, ⟨_, hv2, by simpa using hr2, by simp⟩, hB.trans hb2⟩
  case done =>
    rintro D ys W hD rfl ⟨⟨v, hv, hrow, hnil⟩, hB⟩ hK
    have hc := hv.cell
    gi_wp2
    refine ⟨by simp, .inl ⟨_, _, rfl, run_takeDeferred hK, ?_⟩⟩
    exact ⟨_, results_tmp rfl _ _ _, v, rfl, ownsRow_putObj hrow _ hK rfl, hB.trans (belowK_b (w := w) (Nat.le_refl _) W D _ _ (by simp at hD; omega) hK rfl rfl)⟩
  case stop =>
    rintro D c pre W _ _ h _
    exact h.elim
end Nm
end Go.Proofs.YtkeimgamjnpcbaaGreat

/- slices.Collect, Sorted at uint16 over slices.Values: some row of as many numbers. -/
namespace Go.Proofs.YtkeimgamjnpcbaaGreat
open Go.RowKit
set_option linter.unusedVariables false
set_option linter.unusedSimpArgs false
namespace Nm
/-- some slice of n numbers, laid from block B on -/
def RowV (B n : Nat) (v : Value) (W : World) : Prop := (n = 0 ∧ v = .slice none 0 0) ∨ ∃ g c, v = .slice (some ⟨g, 0, none⟩) n c ∧ B ≤ g ∧ g < W.heap.size ∧ n ≤ c ∧ Row16 W g n
theorem rowV_own {B : Nat} {v : Value} {W : World} {xs : List Int} (h : W.ownsRow B 24 1 v xs.length (xs.map (Value.int .u16))) (hx : ∀ x ∈ xs, ∃ y : Nat, x = y ∧ y < 65536) : RowV B xs.length v W := by
  have hcs : ∀ A c, v = .slice A xs.length c → Cs W A (xs.map (Value.int .u16)) := by
    intro A c e
    subst e
    obtain ⟨A2, c2, e2, _, h2⟩ := Cs.of_own h
    cases e2
    exact h2
  rcases h.2 with ⟨rfl, h0⟩ | ⟨g, cap, cur, rfl, hg, hh, hc1, hc2, hrest⟩
  · exact .inl ⟨h0, rfl⟩
  · refine .inr ⟨g, cap, rfl, hg, lt_block hh, hc1, cur, hh, fun i hi => ?_⟩
    have hv : (xs.map (Value.int .u16))[i]? = some (.int .u16 xs[i]) := by simp [hi]
    obtain ⟨b, off, e, _, hcell⟩ := hcs _ _ rfl i _ hv
    cases e
    rw [cell_of_row _ _ _ _ _ _ hh] at hcell
    obtain ⟨y, hy, hl⟩ := hx xs[i] (List.getElem_mem hi)
    exact ⟨_, by simpa using hcell, y, by rw [hy], hl⟩
theorem CollectU (Bm c : Nat) (A : Option Addr) (xs : List Int) (w : World) (hBm : Bm < w.heap.size) (hlen : xs.length ≤ 1000000000) (hm : w.cell? ⟨Bm, 0, none⟩ = some (.slice A xs.length c)) (hc : CsU w A xs) :
    Calls Tryz.prog 125 #[.func (.func 227) #[] #[.pointer (some ⟨Bm, 0, none⟩)]] w fun e W' => ∃ v, e = .returned v ∧ W'.ownsRow w.heap.size 24 1 v xs.length (xs.map (Value.int .u16)) ∧ Below w.heap.size w W' := by
  have H := Lib.hid (AppendSeqU Bm c A xs w hBm hlen hm hc)
  clear hc hm
  go_enter Tryz.func125, Tryz.ntmps125
  go_wp2_with fail
  refine H.out.mono ?_
  rintro e w2 ⟨v, rfl, ho, hb⟩
  have HH := Lib.hid ho
  clear ho
  go_wp2_with fail
  go_ret
  exact ⟨_, rfl, HH.out, hb⟩
theorem Sort16none (w : World) : Calls Tryz.prog 126 #[.slice none 0 0] w fun e w' => e = .returned (.tuple #[]) ∧ w' = w := by
  have hLen : ∀ w, Calls Tryz.prog 119 #[.int .u64 (0 : Int)] w fun e w' => e = .returned (.int .i64 (Lib.bitLen 0 : Nat)) ∧ w' = w := fun w => by
    have h := Go.Proofs.Any.bits_Len (Go.Proofs.SlLaysF0.n15.bits (P := Tryz.prog) (ρ := Tryz.sortB_ren) { Tryz.sortB with }) (0 : Int) w (by omega) (by omega)
    exact h
  have hP : ∀ (l : Nat) (w : World), Calls Tryz.prog 172 #[.slice none 0 0, .int .i64 0, .int .i64 0, .int .i64 l] w fun e w' => e = .returned (.tuple #[]) ∧ w = w' := by
    intro l w
    have HI := Lib.hid (ins16_none (.slice none 0 0) 0 w (by omega))
    go_enter Tryz.func172, Tryz.ntmps172
    go_wp2_with fail
    refine wp_loop_rounds 2 ?_
    rw [rounds_succ]
    go_wp2_with fail
    refine HI.out.mono ?_
    rintro e w2 ⟨rfl, rfl⟩
    go_wp2_with fail
    first | refine bodyPost_end (results_none rfl _ _ _) rfl ?_ | refine bodyPost_ret (results_none rfl _ _ _) rfl ?_
    exact ⟨rfl, rfl⟩
  have HL := Lib.hid hLen
  have HP := Lib.hid hP
  clear hLen hP
  go_enter Tryz.func126, Tryz.ntmps126
  go_wp2_with fail
  refine (HL.out _).mono ?_
  rintro e w1 ⟨rfl, rfl⟩
  generalize Lib.bitLen 0 = l at *
  go_wp2_with fail
  refine (HP.out l _).mono ?_
  rintro e w2 ⟨rfl, rfl⟩
  go_wp2_with fail
  first | refine bodyPost_end (results_none rfl _ _ _) rfl ?_ | refine bodyPost_ret (results_none rfl _ _ _) rfl ?_
  exact ⟨rfl, rfl⟩
theorem SortedU (Bm c : Nat) (A : Option Addr) (xs : List Int) (w : World) (hBm : Bm < w.heap.size) (hlen : xs.length ≤ 1000000000) (hm : w.cell? ⟨Bm, 0, none⟩ = some (.slice A xs.length c)) (hc : CsU w A xs) (hx : ∀ x ∈ xs, ∃ y : Nat, x = y ∧ y < 65536) :
    Calls Tryz.prog 89 #[.func (.func 227) #[] #[.pointer (some ⟨Bm, 0, none⟩)]] w fun e W' => ∃ v, e = .returned v ∧ RowV w.heap.size xs.length v W' ∧ Below w.heap.size w W' := by
  have H := Lib.hid (CollectU Bm c A xs w hBm hlen hm hc)
  clear hc hm
  go_enter Tryz.func89, Tryz.ntmps89
  go_wp2_with fail
  refine H.out.mono ?_
  rintro e w2 ⟨v, rfl, ho, hb⟩
  have hv := rowV_own ho hx
  clear ho
  rcases hv with ⟨h0, rfl⟩ | ⟨g, c2, rfl, hg, hgl, hc2, hr⟩
  · have H0 := Lib.hid h0
    clear h0
    go_wp2_with fail
    refine (Sort16none w2).mono ?_
    rintro e w3 ⟨rfl, rfl⟩
    go_wp2_with fail
    go_ret
    exact ⟨_, rfl, .inl ⟨H0.out, rfl⟩, hb⟩
  · have HS := Lib.hid (Sort16 g xs.length c2 w2 hr hgl hc2 hlen)
    go_wp2_with fail
    refine HS.out.mono ?_
    rintro e w3 ⟨rfl, hw3⟩
    go_wp2_with fail
    go_ret
    have hs := hw3.1.size
    exact ⟨_, rfl, .inr ⟨g, c2, rfl, hg, by omega, hc2, hw3.2⟩, hb.trans ((hw3.1.below (B := w.heap.size) hb.size (fun k hk => by omega)))⟩
end Nm
end Go.Proofs.YtkeimgamjnpcbaaGreat

/- slices.Compact at uint16, whatever the row holds. (Printed by a program: wip/gen_cmp16.py.) -/
namespace Go.Proofs.YtkeimgamjnpcbaaGreat
open Go.RowKit
set_option linter.unusedVariables false
set_option linter.unusedSimpArgs false
namespace Nm
def CmpK (k0 n : Nat) (w : World) (g N : Nat) (v u : Value) (W : World) : Prop := ∃ k m : Nat, v = .int .i64 k ∧ u = .int .i64 m ∧ k0 ≤ k ∧ k + 1 ≤ k0 + m ∧ k0 + m ≤ n ∧ CW w g N W
theorem zero_cells (z : Value) (m : Nat) : (Builtin.zeroCells #[z] m).toList = List.replicate m z := by
  rw [List.eq_replicate_iff]
  refine ⟨by simp [Builtin.zeroCells], fun b hb => ?_⟩
  simp [Builtin.zeroCells, Nat.mod_one] at hb
  exact hb.2.symm
theorem clear16 (g k n C : Nat) (W : World) (h : Row16 W g n) (hk : k < n) : ∃ W', (Builtin.clear_ #[81] 0 #[.slice (some ⟨g, k, none⟩) (n - k) C]).run Tryz.prog W = .ok (.tuple #[]) W' ∧ CW W g n W' := by
  obtain ⟨cs, hh, h2⟩ := h
  obtain ⟨j, hj⟩ : ∃ j, n - k = j + 1 := ⟨n - k - 1, by omega⟩
  rw [hj]
  have hsz : n ≤ cs.size := by
    obtain ⟨v, hv, _⟩ := h2 (n - 1) (by omega)
    have := (Array.getElem?_eq_some_iff.1 hv).1
    omega
  have hz : (zeroValue 24).run Tryz.prog W = .ok (.int .u16 0) W := by kernel_rfl
  have hst : (storeCells ⟨g, k, none⟩ (List.replicate (j + 1) (Value.int .u16 0))).run Tryz.prog W = .ok () (W.setRow g (cs.toList.take (k + 0) ++ List.replicate (j + 1) (Value.int .u16 0) ++ cs.toList.drop (k + 0 + (List.replicate (j + 1) (Value.int .u16 0)).length)).toArray) :=
    run_storeCells_at (P := Tryz.prog) g k 24 (List.replicate (j + 1) (Value.int .u16 0)) 0 cs W hh (by simp; omega) (fun v hv => by rw [List.eq_of_mem_replicate hv]; rfl)
  refine ⟨_, ?_, (Kept.of_grown (setRow_grown W g _)).mono (fun b _ e => by cases e; rfl), _, setRow_block W g (cs.toList.take (k + 0) ++ List.replicate (j + 1) (Value.int .u16 0) ++ cs.toList.drop (k + 0 + (List.replicate (j + 1) (Value.int .u16 0)).length)).toArray cs _ _ hh, fun i hi => ?_⟩
  · simp [Builtin.clear_, run_underlying Tryz.underlying81, hz, Result.andThen]
    have e : (Builtin.zeroCells (Value.int .u16 0).cells (j + 1)).toList = List.replicate (j + 1) (Value.int .u16 0) := zero_cells _ _
    rw [e, hst]
    simp
  · by_cases hik : i < k
    · obtain ⟨v, hv, hu⟩ := h2 i hi
      refine ⟨v, ?_, hu⟩
      have hv2 : cs.toList[i]? = some v := by simpa using hv
      rw [List.getElem?_toArray, List.append_assoc, List.getElem?_append_left (by rw [List.length_take, Array.length_toList]; omega), List.getElem?_take_of_lt (by omega)]
      exact hv2
    · refine ⟨.int .u16 0, ?_, 0, rfl, by omega⟩
      rw [List.getElem?_toArray, List.append_assoc, List.getElem?_append_right (by rw [List.length_take, Array.length_toList]; omega), List.getElem?_append_left (by rw [List.length_replicate, List.length_take, Array.length_toList]; omega), List.getElem?_replicate, if_pos (by rw [List.length_take, Array.length_toList]; omega)]
set_option maxRecDepth 100000 in
set_option maxHeartbeats 20000000 in
theorem Compact16 (g n c : Nat) (w : World) (h : Row16 w g n) (hc : n ≤ c) (hn : n ≤ 1000000000) :
    Calls Tryz.prog 224 #[.slice (some ⟨g, 0, none⟩) n c] w fun e w' => (∃ m, e = .returned (.slice (some ⟨g, 0, none⟩) m c) ∧ m ≤ n) ∧ CW w g n w' := by
  go_enter Tryz.func224, Tryz.ntmps224
  by_cases hn2 : n < 2
  · go_wp2_with fail
    go_ret
    exact ⟨⟨n, rfl, Nat.le_refl _⟩, CW.refl h⟩
  · go_wp2_with fail
    go_loopw [3] (IdxR 1 n w g n) (fun k _ => n - (intOf k).toNat)
    case atStart => exact ⟨1, rfl, by omega, by omega, CW.refl h⟩
    case round =>
      obtain ⟨k, rfl, hk1, hk2, hw⟩ := hrel
      have hwD := hw.drew
      by_cases hkn : k < n
      · go_upto_region 6 with fail
        obtain ⟨d, hd⟩ : ∃ d : Nat, d + 1 ≤ k ∧ k ≤ d + 1 := ⟨k - 1, by omega⟩
        refine wp_region_c mixed0 (by kernel_rfl) (CW w g n) hwD [(· = .slice (some ⟨g, 0, none⟩) n c), (· = .int .i64 (k)), (· = .pointer (some ⟨g, k, none⟩)), isU, (· = .slice (some ⟨g, 0, none⟩) n c), (· = .int .i64 (k)), (· = .int .i64 (d)), (· = .pointer (some ⟨g, d, none⟩)), isU, isB] ?_ ?_
        · intro ix q hio vals W hC haf
          obtain ⟨x0, q0, hx0⟩ := hC.2.cell (k) (by omega)
          have f0 := hC.2.frozen (k)
          have t0 : isU (.int .u16 x0) := isU_mk _ hx0
          obtain ⟨x1, q1, hx1⟩ := hC.2.cell (d) (by omega)
          have f1 := hC.2.frozen (d)
          have t1 : isU (.int .u16 x1) := isU_mk _ hx1
          have r0 : IntKind.i64.wrap ((k : Int) - 1) = (d : Int) := by first | omega | exact IntWalk.i64_in _ (by omega) | exact (IntWalk.i64_in _ (by omega)).trans (by omega) | go_num
          have r1 : k < n := by first | omega | exact IntWalk.i64_in _ (by omega) | exact (IntWalk.i64_in _ (by omega)).trans (by omega) | go_num
          have r2 : d < n := by first | omega | exact IntWalk.i64_in _ (by omega) | exact (IntWalk.i64_in _ (by omega)).trans (by omega) | go_num
          rcases ix with _ | _ | _ | _ | _ | _ | _ | _ | _ | _ | ix
          · simp at hio; subst hio; simp [bindD, rdB, Region.binds] at haf; simp [opYield_def, yieldUpon, yielded, relAct, dstAt, Act.put, Region.wanted, go_sem, hC, isU_mk, isB_mk, *]
          · simp at hio; subst hio; simp [bindD, rdB, Region.binds] at haf; simp [opYield_def, yieldUpon, yielded, relAct, dstAt, Act.put, Region.wanted, go_sem, hC, isU_mk, isB_mk, *]
          · simp at hio; subst hio; simp [bindD, rdB, Region.binds] at haf; simp [opYield_def, yieldUpon, yielded, relAct, dstAt, Act.put, Region.wanted, go_sem, hC, isU_mk, isB_mk, *]
          · simp at hio; subst hio; simp [bindD, rdB, Region.binds] at haf; simp [opYield_def, yieldUpon, yielded, relAct, dstAt, Act.put, Region.wanted, go_sem, hC, isU_mk, isB_mk, *]
          · simp at hio; subst hio; simp [bindD, rdB, Region.binds] at haf; simp [opYield_def, yieldUpon, yielded, relAct, dstAt, Act.put, Region.wanted, go_sem, hC, isU_mk, isB_mk, *]
          · simp at hio; subst hio; simp [bindD, rdB, Region.binds] at haf; simp [opYield_def, yieldUpon, yielded, relAct, dstAt, Act.put, Region.wanted, go_sem, hC, isU_mk, isB_mk, *]
          · simp at hio; subst hio; simp [bindD, rdB, Region.binds] at haf; simp [opYield_def, yieldUpon, yielded, relAct, dstAt, Act.put, Region.wanted, go_sem, hC, isU_mk, isB_mk, *]
          · simp at hio; subst hio; simp [bindD, rdB, Region.binds] at haf; simp [opYield_def, yieldUpon, yielded, relAct, dstAt, Act.put, Region.wanted, go_sem, hC, isU_mk, isB_mk, *]
          · simp at hio; subst hio; simp [bindD, rdB, Region.binds] at haf; simp [opYield_def, yieldUpon, yielded, relAct, dstAt, Act.put, Region.wanted, go_sem, hC, isU_mk, isB_mk, *]
          · simp at hio; subst hio; simp [bindD, rdB, Region.binds] at haf; obtain ⟨⟨y1, e1, l1⟩, ⟨y2, e2, l2⟩⟩ := haf; simp [opYield_def, yieldUpon, yielded, relAct, dstAt, Act.put, Region.wanted, go_sem, hC, isU_mk, isB_mk, *]
          · exfalso; simp at hio
        · intro vals W ac hC hF hac
          obtain ⟨o, ho⟩ : isB (vals 9) := hF 9 (by show 9 < 10; omega)
          simp [relAct, dstAt, Act.put] at hac
          rw [ho] at hac
          subst hac
          clear hF
          have hwD := hC.drew
          cases o
          · go_wp2_with fail
            exact ⟨⟨k + 1, by go_num, by omega, by omega, hC⟩, by simp [intOf]; omega⟩
          · go_wp2_with fail
            obtain ⟨k0, hk0⟩ : ∃ k0 : Nat, k0 = k := ⟨_, rfl⟩
            rw [← hk0]
            have hk01 : 1 ≤ k0 ∧ k0 < n := by omega
            clear hk0
            go_loopw [3, 5] (CmpK k0 n w g n) (fun _ m _ => n - k0 - (intOf m).toNat)
            case atStart => exact ⟨k0, 1, rfl, rfl, by omega, by omega, by omega, hC⟩
            case round =>
              obtain ⟨k2, m, rfl, rfl, hm1, hm2, hm3, hw2⟩ := hrel
              have hwD := hw2.drew
              by_cases hm : m < n - k0
              · have hmi : (m : Int) < ((n - k0 : Nat) : Int) := by omega
                go_upto_region 11 with fail
                obtain ⟨d, hd⟩ : ∃ d : Nat, d + 1 ≤ m ∧ m ≤ d + 1 := ⟨m - 1, by omega⟩
                refine wp_region_c mixed0 (by kernel_rfl) (CW w g n) hwD [(· = .slice (some ⟨g, k0, none⟩) (n - k0) (c - k0)), (· = .int .i64 (m)), (· = .pointer (some ⟨g, k0 + m, none⟩)), isU, (· = .slice (some ⟨g, k0, none⟩) (n - k0) (c - k0)), (· = .int .i64 (m)), (· = .int .i64 (d)), (· = .pointer (some ⟨g, k0 + d, none⟩)), isU, isB] ?_ ?_
                · intro ix q hio vals W hC haf
                  obtain ⟨x0, q0, hx0⟩ := hC.2.cell (k0 + m) (by omega)
                  have f0 := hC.2.frozen (k0 + m)
                  have t0 : isU (.int .u16 x0) := isU_mk _ hx0
                  obtain ⟨x1, q1, hx1⟩ := hC.2.cell (k0 + d) (by omega)
                  have f1 := hC.2.frozen (k0 + d)
                  have t1 : isU (.int .u16 x1) := isU_mk _ hx1
                  have r0 : IntKind.i64.wrap ((m : Int) - 1) = (d : Int) := by first | omega | exact IntWalk.i64_in _ (by omega) | exact (IntWalk.i64_in _ (by omega)).trans (by omega) | go_num
                  have r1 : m < n - k0 := by first | omega | exact IntWalk.i64_in _ (by omega) | exact (IntWalk.i64_in _ (by omega)).trans (by omega) | go_num
                  have r2 : d < n - k0 := by first | omega | exact IntWalk.i64_in _ (by omega) | exact (IntWalk.i64_in _ (by omega)).trans (by omega) | go_num
                  have r3 : (m : Int) < ((n - k0 : Nat) : Int) := by first | omega | exact IntWalk.i64_in _ (by omega) | exact (IntWalk.i64_in _ (by omega)).trans (by omega) | go_num
                  have r4 : (d : Int) < ((n - k0 : Nat) : Int) := by first | omega | exact IntWalk.i64_in _ (by omega) | exact (IntWalk.i64_in _ (by omega)).trans (by omega) | go_num
                  rcases ix with _ | _ | _ | _ | _ | _ | _ | _ | _ | _ | ix
                  · simp at hio; subst hio; simp [bindD, rdB, Region.binds] at haf; simp [opYield_def, yieldUpon, yielded, relAct, dstAt, Act.put, Region.wanted, go_sem, hC, isU_mk, isB_mk, *]
                  · simp at hio; subst hio; simp [bindD, rdB, Region.binds] at haf; simp [opYield_def, yieldUpon, yielded, relAct, dstAt, Act.put, Region.wanted, go_sem, hC, isU_mk, isB_mk, *]
                  · simp at hio; subst hio; simp [bindD, rdB, Region.binds] at haf; simp [opYield_def, yieldUpon, yielded, relAct, dstAt, Act.put, Region.wanted, go_sem, hC, isU_mk, isB_mk, *]
                  · simp at hio; subst hio; simp [bindD, rdB, Region.binds] at haf; simp [opYield_def, yieldUpon, yielded, relAct, dstAt, Act.put, Region.wanted, go_sem, hC, isU_mk, isB_mk, *]
                  · simp at hio; subst hio; simp [bindD, rdB, Region.binds] at haf; simp [opYield_def, yieldUpon, yielded, relAct, dstAt, Act.put, Region.wanted, go_sem, hC, isU_mk, isB_mk, *]
                  · simp at hio; subst hio; simp [bindD, rdB, Region.binds] at haf; simp [opYield_def, yieldUpon, yielded, relAct, dstAt, Act.put, Region.wanted, go_sem, hC, isU_mk, isB_mk, *]
                  · simp at hio; subst hio; simp [bindD, rdB, Region.binds] at haf; simp [opYield_def, yieldUpon, yielded, relAct, dstAt, Act.put, Region.wanted, go_sem, hC, isU_mk, isB_mk, *]
                  · simp at hio; subst hio; simp [bindD, rdB, Region.binds] at haf; simp [opYield_def, yieldUpon, yielded, relAct, dstAt, Act.put, Region.wanted, go_sem, hC, isU_mk, isB_mk, *]
                  · simp at hio; subst hio; simp [bindD, rdB, Region.binds] at haf; simp [opYield_def, yieldUpon, yielded, relAct, dstAt, Act.put, Region.wanted, go_sem, hC, isU_mk, isB_mk, *]
                  · simp at hio; subst hio; simp [bindD, rdB, Region.binds] at haf; obtain ⟨⟨y1, e1, l1⟩, ⟨y2, e2, l2⟩⟩ := haf; simp [opYield_def, yieldUpon, yielded, relAct, dstAt, Act.put, Region.wanted, go_sem, hC, isU_mk, isB_mk, *]
                  · exfalso; simp at hio
                · intro vals W ac hC hF hac
                  obtain ⟨o, ho⟩ : isB (vals 9) := hF 9 (by show 9 < 10; omega)
                  simp [relAct, dstAt, Act.put] at hac
                  rw [ho] at hac
                  subst hac
                  clear hF
                  have hwD := hC.drew
                  cases o
                  · go_wp2_with fail
                    exact ⟨⟨k2, m + 1, rfl, by go_num, by omega, by omega, by omega, hC⟩, by simp [intOf]; omega⟩
                  · obtain ⟨x, q1, hx⟩ := hC.2.cell (k0 + m) (by omega)
                    obtain ⟨x2, q2, hx2⟩ := hC.2.cell k2 (by omega)
                    have q3 := hC.2.frozen (k0 + m)
                    have q4 := hC.2.frozen k2
                    have hk2n : (k2 : Int) < (n : Int) := by omega
                    go_wp2_with fail
                    exact ⟨⟨k2 + 1, m + 1, by go_num, by go_num, by omega, by omega, by omega, hC.set _ _ hx⟩, by simp [intOf]; omega⟩
              · have hmi : ¬ (m : Int) < ((n - k0 : Nat) : Int) := by omega
                have hk2n : k2 < n := by omega
                obtain ⟨W2, hcl, hw3⟩ := clear16 g k2 n (c - k2) wr hw2.2 hk2n
                have hk2i : (k2 : Int) ≤ (n : Int) := by omega
                go_wp2_with fail
                go_ret
                exact ⟨⟨k2, rfl, by omega⟩, hw2.trans hw3⟩
      · go_wp2_with fail
        go_ret
        exact ⟨⟨n, rfl, Nat.le_refl _⟩, hw⟩
end Nm
end Go.Proofs.YtkeimgamjnpcbaaGreat

/- rtype.Clean, whatever the types: some row of numbers, no longer. -/
namespace Go.Proofs.YtkeimgamjnpcbaaGreat
open Go.RowKit
set_option linter.unusedVariables false
set_option linter.unusedSimpArgs false
namespace Nm
theorem Compact16none (w : World) : Calls Tryz.prog 224 #[.slice none 0 0] w fun e w' => e = .returned (.slice none 0 0) ∧ w' = w := by
  go_enter Tryz.func224, Tryz.ntmps224
  go_wp2_with fail
  go_ret
  exact ⟨rfl, rfl⟩
theorem ValuesU (A : Option Addr) (n c : Nat) (w : World) : Calls Tryz.prog 225 #[.slice A n c] w fun e w' => e = .returned (.func (.func 227) #[] #[.pointer (some ⟨w.heap.size, 0, none⟩)]) ∧ w' = w.alloc (.cells #[.slice A n c] 81) := by
  go_enter Tryz.func225, Tryz.ntmps225
  go_wp2_with fail
  go_ret
  exact ⟨rfl, rfl⟩
theorem Clean (A : Option Addr) (xs : List Int) (c : Nat) (w : World) (hc : CsU w A xs) (hlen : xs.length ≤ 1000000000) (hx : ∀ x ∈ xs, ∃ y : Nat, x = y ∧ y < 65536) :
    Calls Tryz.prog 216 #[.slice A xs.length c] w fun e w' => ∃ v m, e = .returned v ∧ m ≤ xs.length ∧ RowV w.heap.size m v w' ∧ Below w.heap.size w w' := by
  have hV := Lib.hid (ValuesU A xs.length c w)
  go_enter Tryz.func216, Tryz.ntmps216
  go_wp2_with fail
  refine hV.out.mono ?_
  rintro e w1 ⟨rfl, hw1⟩
  have hb1 : Below w.heap.size w w1 := by rw [hw1]; exact (Below.refl _ _).alloc (Nat.le_refl _) _
  have hz1 : w1.heap.size = w.heap.size + 1 := by rw [hw1]; simp
  have hq1 : w1.heap[w.heap.size]? = some (.cells #[.slice A xs.length c] 81 (0, 0)) := by rw [hw1]; exact heap_alloc_new w _
  have hm1 : w1.cell? ⟨w.heap.size, 0, none⟩ = some (.slice A xs.length c) := cell_of_row _ _ 0 _ _ _ hq1
  have HS := Lib.hid (SortedU w.heap.size c A xs w1 (by omega) hlen hm1 (hc.below hb1) hx)
  clear hw1 hm1 hV hq1
  have HZ := Lib.hid hz1
  clear hz1
  go_wp2_with fail
  refine HS.out.mono ?_
  rintro e w2 ⟨v, rfl, hv, hb2⟩
  have hz1 := HZ.out
  have hb3 : Below w.heap.size w w2 := hb1.trans (hb2.mono (by omega))
  rcases hv with ⟨h0, rfl⟩ | ⟨g, c2, rfl, hg, hgl, hc2, hr⟩
  · clear h0 hz1
    go_wp2_with fail
    refine (Compact16none w2).mono ?_
    rintro e w3 ⟨rfl, rfl⟩
    go_wp2_with fail
    go_ret
    exact ⟨_, 0, rfl, Nat.zero_le _, .inl ⟨rfl, rfl⟩, hb3⟩
  · have HC := Lib.hid (Compact16 g xs.length c2 w2 hr hc2 hlen)
    have HG : Hid (w.heap.size ≤ g) := Lib.hid (by omega)
    clear hz1
    go_wp2_with fail
    refine HC.out.mono ?_
    rintro e w3 ⟨⟨m, rfl, hm⟩, hw3⟩
    go_wp2_with fail
    go_ret
    have hs := hw3.1.size
    have hg2 := HG.out
    obtain ⟨cs, h1, h2⟩ := hw3.2
    exact ⟨_, m, rfl, hm, .inr ⟨g, c2, rfl, hg2, by omega, by omega, cs, h1, fun i hi => h2 i (by omega)⟩, hb3.trans (hw3.1.below (B := w.heap.size) hb3.size (fun k hk => by omega))⟩
end Nm
end Go.Proofs.YtkeimgamjnpcbaaGreat

/- rtype.Bitmap, whatever the types: some bytes. -/
namespace Go.Proofs.YtkeimgamjnpcbaaGreat
open Go.RowKit
set_option linter.unusedVariables false
set_option linter.unusedSimpArgs false
namespace Nm
theorem ofInt8n (a : Nat) (h : a < 256) : (BitVec.ofInt 8 (a : Int)).toNat = a := by
  rw [BitVec.ofInt_natCast, BitVec.toNat_ofNat]
  exact Nat.mod_eq_of_lt h
theorem orU8 (a b : Nat) (ha : a < 256) (hb : b < 256) : bits .or .u8 (a : Int) (b : Int) = ((a ||| b : Nat) : Int) ∧ a ||| b < 256 := by
  have hx : a ||| b < 2 ^ 8 := Nat.or_lt_two_pow (by omega) (by omega)
  refine ⟨?_, hx⟩
  show IntKind.u8.wrap ((BitVec.ofInt 8 (a : Int) ||| BitVec.ofInt 8 (b : Int)).toNat : Int) = _
  rw [BitVec.toNat_or, ofInt8n a ha, ofInt8n b hb, IntKind.wrap_u8']
  omega
theorem setBit (y k : Nat) (hy : y < 256) : ∃ z : Nat, bits .or .u8 (y : Int) (128 / 2 ^ k) = (z : Int) ∧ z < 256 := by
  have h1 : (128 / 2 ^ k : Int) = ((128 / 2 ^ k : Nat) : Int) := by simp
  have h2 : 128 / 2 ^ k < 256 := Nat.lt_of_le_of_lt (Nat.div_le_self _ _) (by omega)
  rw [h1]
  exact ⟨_, orU8 y _ hy h2⟩
/-- some slice of m numbers, at whatever place of a row -/
def RowS (m : Nat) (v : Value) (W : World) : Prop := (m = 0 ∧ ∃ A c, v = .slice A 0 c) ∨ ∃ g o c, v = .slice (some ⟨g, o, none⟩) m c ∧ m ≤ c ∧ g < W.heap.size ∧ Row16 W g (o + m)
theorem rowS_of {B m : Nat} {v : Value} {W : World} (h : RowV B m v W) : RowS m v W := by
  rcases h with ⟨rfl, rfl⟩ | ⟨g, c, rfl, _, hg, hc, hr⟩
  · exact .inl ⟨rfl, _, _, rfl⟩
  · exact .inr ⟨g, 0, c, rfl, hc, hg, by rw [Nat.zero_add]; exact hr⟩
theorem RowS.below {m : Nat} {v : Value} {W W' : World} (h : RowS m v W) (hb : Below W.heap.size W W') : RowS m v W' := by
  rcases h with h | ⟨g, o, c, rfl, hc, hg, cs, h1, h2⟩
  · exact .inl h
  · exact .inr ⟨g, o, c, rfl, hc, Nat.lt_of_lt_of_le hg hb.size, cs, (hb.block g hg).trans h1, h2⟩
/-- an array of 32 bytes -/
def Arr32 (a : Nat) (W : World) : Prop := ∃ cs, W.heap[a]? = some (.cells cs 259 (0, 0)) ∧ ∀ i, i < 32 → ∃ x : Nat, cs[i]? = some (.int .u8 x) ∧ x < 256
theorem Arr32.cs {a : Nat} {W : World} (h : Arr32 a W) : ∀ s, s ≤ 32 → ∃ zs : Lab, zs.length = s ∧ Cs W (some ⟨a, 0, none⟩) (zs.map byteV)
  | 0, _ => ⟨[], rfl, Cs.nil _ _⟩
  | s + 1, hs => by
    obtain ⟨zs, h1, h2⟩ := Arr32.cs h s (by omega)
    obtain ⟨cs, h3, h4⟩ := h
    obtain ⟨x, h5, h6⟩ := h4 s (by omega)
    refine ⟨zs ++ [UInt8.ofNat x], by simp [h1], ?_⟩
    intro i u hu
    rw [List.map_append, List.getElem?_append] at hu
    split at hu
    · exact h2 i u hu
    · rename_i hi
      simp at hi
      have hlt := (List.getElem?_eq_some_iff.1 hu).1
      simp at hlt
      have his : i = s := by omega
      subst his
      simp [h1] at hu
      refine ⟨a, 0, rfl, lt_block h3, ?_⟩
      rw [Nat.zero_add, cell_of_row W a i _ _ _ h3, h5, ← hu, byteV_mod]
      congr 2
      omega
theorem Arr32.block {a : Nat} {W W' : World} (h : Arr32 a W) (hb : W'.heap[a]? = W.heap[a]?) : Arr32 a W' := by
  obtain ⟨cs, h3, h4⟩ := h
  exact ⟨cs, hb.trans h3, h4⟩
theorem Arr32.set {a i x : Nat} {W : World} (h : Arr32 a W) (hi : i < 32) (hx : x < 256) : Arr32 a (W.setCell ⟨a, i, none⟩ (.int .u8 x)) := by
  obtain ⟨cs, h3, h4⟩ := h
  refine ⟨cs.setIfInBounds i (.int .u8 x), by simp [World.setCell, Array.getElem?_modify, h3], fun k hk => ?_⟩
  by_cases e : k = i
  · subst e
    obtain ⟨y, h5, h6⟩ := h4 k hk
    exact ⟨x, by rw [Array.getElem?_setIfInBounds]; simp [(Array.getElem?_eq_some_iff.1 h5).1], hx⟩
  · obtain ⟨y, h5, h6⟩ := h4 k hk
    exact ⟨y, by rw [Array.getElem?_setIfInBounds, if_neg (fun h : i = k => e h.symm)]; exact h5, h6⟩
theorem yield_bytes2 {ops : Array Oper} {o : Oper} {a : Act} {W : World} {R : Value → World → Prop} (hgd : o.guard = none) (sl x : Operand) {t : TypeId} (ht : Tryz.prog.underlying t = some (.slice 5))
    (ho : o.op = .call { callee := .builtin .append, args := #[sl, x], argTypes := #[t, t] }) {B : Nat} {v : Value} {n : Nat} {xs us : List Value} (hs : a.eval sl = v) (hown : W.ownsRow B 5 1 v n xs) (hB : B ≤ W.heap.size)
    {b : Addr} {c : Nat} (hx : a.eval x = .slice (some b) us.length c) (hcs : Cs W (some b) us) (h1 : ∀ u ∈ us, u.oneCell' = true) (hn : n + us.length ≤ 1000000000)
    (h : ∀ v' W', W'.ownsRow B 5 1 v' (n + us.length) (xs ++ us) → Moved v W v' W' → R v' W') : opYield Tryz.prog ops o a W R := by
  obtain ⟨i0, hi, hz0, hz1, hz2⟩ := info_parts info_u8
  have hw : Region.wanted o (yielded ops a.tmps) = true := by simp [Region.wanted, hgd]
  rw [opYield_def, if_pos hw]
  obtain ⟨v', W', hr, h2, h3, _, h5⟩ := run_append_own_at (P := Tryz.prog) W B t o.type 5 i0 _ 1 1 ht hi hz0 hz1 hz2 rfl (by decide) v n xs hown b us.length c us (by simp) hcs.cells h1 (by unfold maxLen; omega) (by omega) hB
  unfold execOp
  simp only [ho, resolve, invoke, builtin, Sem.run_bind, Sem.run_pure, Result.andThen_ok, List.map_toArray, List.map_cons, List.map_nil, hs, hx, hr]
  refine h v' W' h2 ⟨Kept.of_grown h3, fun k hk => ?_⟩
  rcases h5 with h5 | h5
  · exact .inl (h5 ▸ hk)
  · rw [h5] at hk
    cases hk
    exact .inr (Nat.le_refl _)
/-- a region that draws, under whatever relations, values' facts of one value each -/
theorem wp_region_r2 {P : Program} {ops : Array Oper} {id : Nat} {Q : Exit → Act → World → Prop} {a0 : Act} {w0 : World} (hm : P.follows .mixedOrders = true) (hB : relB2 ops = true)
    (kills : Nat → Nat → Bool) (hkB : killsX bindD ops kills = true) (T : Nat → World → World → Prop) (C : World → Prop) (R : Nat → Value → World → Prop)
    (I0 : World → Prop) (kills0 : Nat → Bool) (hI0 : I0 { w0 with drawn := w0.drawn + 1 }) (hIst : ∀ i W W', kills0 i = false → C W → I0 W → T i W W' → I0 W')
    (hC0 : C { w0 with drawn := w0.drawn + 1 }) (hC : ∀ i W W', C W → T i W W' → C W')
    (hR : ∀ i j v W W', i ≠ j → kills i j = false → waitsT ops ops.size j i = false → C W → R j v W → T i W W' → R j v W')
    (step : ∀ i o, ops[i]? = some o → ∀ vals W, C W → (∀ e ∈ o.after, bindD e = true → R e.on (vals e.on) W) → ((∀ k, k < ops.size → kills0 k = true → k = i ∨ waitsT ops ops.size k i = true) → I0 W) →
      opYield P ops o (relAct ops a0 (fun _ => true) vals i) W (fun v W' => T i W W' ∧ R i v W'))
    (hend : ∀ vals W, C W → (∀ j, j < ops.size → (∀ i, i < ops.size → kills i j = false) → R j (vals j) W) → Q .normal (relAct ops a0 (fun _ => true) vals ops.size) W) :
    (Code.region id ops true).wp P Q a0 w0 := by
  refine wp_region_t bindD (fun e h => bindD_binds h) hm hB kills hkB T C (fun j vals W => R j (vals j) W) (fun j vals i v W hij _ h => ?_) I0 kills0 hI0 hIst hC0 hC (fun i j v W W' h1 h2 h3 h4 h5 h6 => hR i j (v j) W W' h1 h2 h3 h4 h5 h6) ?_ hend
  · simp only
    rw [if_neg (fun h => hij h.symm)]
    exact h
  · intro i o hio vals W hC haf hI
    refine opYield_mono ?_ (step i o hio vals W hC haf hI)
    intro v W' h
    simpa using h
/-- some bytes, laid from block B on, k at most -/
def BytesV (B k : Nat) (v : Value) (W : World) : Prop := ∃ xs : Lab, xs.length ≤ k ∧ W.ownsRow B 5 1 v xs.length (xs.map byteV)
def InnR (w0 : World) (a g o m : Nat) (vl vs : Value) (W : World) : Prop := (∃ g2 o2 m2 c3 : Nat, vl = .slice (some ⟨g2, o2, none⟩) m2 c3 ∧ m2 ≤ c3 ∧ g2 < w0.heap.size ∧ Row16 W g2 (o2 + m2) ∧ (m2 < m ∨ m2 = m ∧ g2 = g ∧ o2 = o)) ∧ (∃ s : Nat, vs = .int .i64 s ∧ s ≤ 32) ∧ Arr32 a W ∧ Below w0.heap.size w0 W
def BitR (w : World) (L : Nat) (vl vo : Value) (W : World) : Prop := ∃ m, m ≤ L ∧ RowS m vl W ∧ BytesV w.heap.size (34 * (L - m)) vo W ∧ Below w.heap.size w W
theorem row16_block {W W' : World} {g n : Nat} (h : Row16 W g n) (hb : W'.heap[g]? = W.heap[g]?) : Row16 W' g n := by
  obtain ⟨cs, h1, h2⟩ := h
  exact ⟨cs, hb.trans h1, h2⟩
theorem row16_less {W : World} {g n m : Nat} (h : Row16 W g n) (hm : m ≤ n) : Row16 W g m := by
  obtain ⟨cs, h1, h2⟩ := h
  exact ⟨cs, h1, fun i hi => h2 i (by omega)⟩
theorem row_apart {W : World} {g n k B : Nat} {v : Value} {xs : List Value} (h : Row16 W g n) (ho : W.ownsRow B 5 1 v k xs) : ¬ some g = v.ownBlock := by
  intro e
  obtain ⟨cs, h1, _⟩ := h
  rcases ho.2 with ⟨rfl, _⟩ | ⟨g', cap, cur, rfl, _, hh, _⟩
  · cases e
  · cases e
    have := h1.symm.trans hh
    simp at this
set_option maxRecDepth 100000 in
set_option maxHeartbeats 20000000 in
theorem Bitmap (A : Option Addr) (xs : List Int) (c : Nat) (w : World) (hc : CsU w A xs) (hlen : xs.length ≤ 10000000) (hx : ∀ x ∈ xs, ∃ y : Nat, x = y ∧ y < 65536) :
    Calls Tryz.prog 187 #[.slice A xs.length c] w fun e w' => ∃ v, e = .returned v ∧ BytesV w.heap.size 340000000 v w' ∧ Below w.heap.size w w' := by
  have hC := Lib.hid (Clean A xs c w hc (by omega) hx)
  go_enter Tryz.func187, Tryz.ntmps187
  go_wp2_with fail
  refine hC.out.mono ?_
  rintro e w1 ⟨v, m0, rfl, hm0, hv, hb1⟩
  go_wp2_with fail
  go_loopw [0, 3] (BitR w xs.length) (fun l _ _ => match l with | .slice _ n _ => n | _ => 0)
  case atStart => exact ⟨m0, hm0, rowS_of hv, ⟨[], by simp, World.ownsRow_nil _ _ _ _⟩, hb1⟩
  case round =>
    obtain ⟨m, hm, hv, ho, hb⟩ := hrel
    have hoF : BytesV w.heap.size 340000000 u3 wr := by
      obtain ⟨ys, hy1, hy2⟩ := ho
      exact ⟨ys, by omega, hy2⟩
    obtain ⟨V, hVV⟩ : ∃ V, V = wr := ⟨_, rfl⟩
    rw [← hVV] at hv ho hb hoF ⊢
    clear hVV
    have hout : RowS m u0 V → (∃ A2 c2, u0 = .slice A2 0 c2) ∨ ∃ g o c2 : Nat, u0 = .slice (some ⟨g, o, none⟩) m c2 ∧ 0 < m ∧ m ≤ c2 ∧ g < V.heap.size ∧ Row16 V g (o + m) := by
      rintro (⟨_, A2, c2, h⟩ | ⟨g, o, c2, h1, h2, h3, h4⟩)
      · exact .inl ⟨A2, c2, h⟩
      · by_cases h0 : m = 0
        · subst h0
          exact .inl ⟨_, _, h1⟩
        · exact .inr ⟨g, o, c2, h1, by omega, h2, h3, h4⟩
    rcases hout hv with ⟨A2, c2, rfl⟩ | ⟨g, o, c2, rfl, hm0, hmc, hg, hr⟩
    · clear hv hout
      go_wp2_with fail
      go_ret
      exact ⟨_, rfl, hoF, hb⟩
    · clear hv hout
      obtain ⟨x, q1, hx1⟩ := hr.cell o (by omega)
      have q2 := hr.frozen o
      have hm0i : (0 : Int) < (m : Int) := by omega
      have hroV := hr
      have HO := Lib.hid ho
      have HB := Lib.hid hb
      have HR := Lib.hid hr
      have HQ1 := Lib.hid q1
      clear ho hb hr hoF hroV
      go_wp2_with fail
      clear q1 q2
      go_loopw [0, 6] (InnR V V.heap.size g o m) (fun l _ _ => match l with | .slice _ n _ => n | _ => 0)
      case atStart =>
        refine ⟨⟨g, o, m, c2, rfl, hmc, hg, ?_, .inr ⟨rfl, rfl, rfl⟩⟩, ⟨0, rfl, by omega⟩, ⟨_, heap_alloc_new V _, ?_⟩, (Below.refl _ _).alloc (Nat.le_refl _) _⟩
        · exact row16_block HR.out (Below.heap_alloc _ _ _ hg)
        · intro i hi
          rcases i with _ | _ | _ | _ | _ | _ | _ | _ | _ | _ | _ | _ | _ | _ | _ | _ | _ | _ | _ | _ | _ | _ | _ | _ | _ | _ | _ | _ | _ | _ | _ | _ | i
          all_goals first
            | exact ⟨0, rfl, by omega⟩
            | omega
      case round =>
        obtain ⟨⟨g2, o2, m2, c3, rfl, hc3, hg2, hr2, hme⟩, ⟨s, rfl, hs⟩, hA, hb2⟩ := hrel
        by_cases hin : ∃ y : Nat, 0 < m2 ∧ wr.cell? ⟨g2, o2, none⟩ = some (.int .u16 y) ∧ y < 65536 ∧ y / 256 = x / 256
        · obtain ⟨y, hm20, hy, hy1, hyx⟩ := hin
          have q2 := hr2.frozen o2
          have hm2i : (0 : Int) < (m2 : Int) := by omega
          have hyi : (y : Int) / 256 = (x : Int) / 256 := by omega
          obtain ⟨cs, ha1, ha2⟩ := hA
          obtain ⟨_, hz, z, rfl, hz2⟩ : ∃ v, cs[y % 256 / 8]? = some v ∧ ∃ z : Nat, v = .int .u8 z ∧ z < 256 := by
            obtain ⟨z, h1, h2⟩ := ha2 (y % 256 / 8) (by omega)
            exact ⟨_, h1, z, rfl, h2⟩
          have q4 := (cell_of_row _ _ (y % 256 / 8) _ _ _ ha1).trans hz
          have q5 : wr.frozen? ⟨V.heap.size, y % 256 / 8, none⟩ = false := by simp [World.frozen?, ha1]
          have q6 : (y : Int) % 256 / 8 < 32 := by omega
          have hA : Arr32 V.heap.size wr := ⟨cs, ha1, ha2⟩
          clear hz ha1 ha2
          go_upto_region 10 with fail
          obtain ⟨zz, hzz, hzz2⟩ := setBit z (y % 8) hz2
          rw [hzz]
          have hA2 : Arr32 V.heap.size (wr.setCell ⟨V.heap.size, y % 256 / 8, none⟩ (.int .u8 zz)) := hA.set (by omega) hzz2
          have hB2 : Below V.heap.size V (wr.setCell ⟨V.heap.size, y % 256 / 8, none⟩ (.int .u8 zz)) := hb2.setCell (p := ⟨V.heap.size, y % 256 / 8, none⟩) (Nat.le_refl _) _
          have hR2 : Row16 (wr.setCell ⟨V.heap.size, y % 256 / 8, none⟩ (.int .u8 zz)) g2 (o2 + m2) := row16_block hr2 (Below.heap_setCell _ _ _ _ (by show g2 ≠ V.heap.size; omega))
          generalize wr.setCell ⟨V.heap.size, y % 256 / 8, none⟩ (.int .u8 zz) = W0 at *
          clear q2 q4 q5 hA hy hb2 hr2 HQ1 hzz
          refine wp_region_c mixed0 (by kernel_rfl) (fun W => Arr32 V.heap.size W ∧ Below V.heap.size V W ∧ Row16 W g2 (o2 + m2)) ⟨hA2, hB2.drew, hR2⟩ [(· = .int .i64 ((y : Int) % 256)), (· = .int .i64 ((y : Int) % 256 / 8)), (· = .int .i64 ((y : Int) % 256 / 8 + 1)), (· = .slice (some ⟨g2, o2, none⟩) m2 c3), (fun v => ∃ o3, v = .slice (some ⟨g2, o3, none⟩) (m2 - 1) (c3 - 1) ∧ o3 + (m2 - 1) ≤ o2 + m2), (· = .int .i64 ((y : Int) % 256 / 8 + 1)), (fun v => ∃ o3, v = .slice (some ⟨g2, o3, none⟩) (m2 - 1) (c3 - 1) ∧ o3 + (m2 - 1) ≤ o2 + m2)] ?_ ?_
          · intro i q hio vals W hC haf
            have r1 : IntKind.i64.wrap ((y : Int) % 256 / 8 + 1) = (y : Int) % 256 / 8 + 1 := IntWalk.i64_in _ (by omega)
            have r0 : IntKind.i64.wrap (((y : Int) % 256).tdiv 8) = (y : Int) % 256 / 8 := by rw [Int.tdiv_eq_ediv_of_nonneg (by omega)]; exact IntWalk.i64_in _ (by omega)
            have r2 : (1 : Int) ≤ (m2 : Int) := by omega
            have r3 : 1 ≤ m2 := by omega
            rcases i with _ | _ | _ | _ | _ | _ | _ | i
            · simp at hio; subst hio; simp [bindD, rdB, Region.binds] at haf; simp [opYield_def, yieldUpon, yielded, relAct, dstAt, Act.put, Region.wanted, go_sem, hC, *]
            · simp at hio; subst hio; simp [bindD, rdB, Region.binds] at haf; simp [opYield_def, yieldUpon, yielded, relAct, dstAt, Act.put, Region.wanted, go_sem, hC, *]
            · simp at hio; subst hio; simp [bindD, rdB, Region.binds] at haf; simp [opYield_def, yieldUpon, yielded, relAct, dstAt, Act.put, Region.wanted, go_sem, hC, *]
            · simp at hio; subst hio; simp [bindD, rdB, Region.binds] at haf; simp [opYield_def, yieldUpon, yielded, relAct, dstAt, Act.put, Region.wanted, go_sem, hC, *]
            · simp at hio; subst hio; simp [bindD, rdB, Region.binds] at haf
              by_cases hc1 : c3 = 1
              · have hm1 : m2 = 1 := by omega
                subst hc1
                subst hm1
                simp [opYield_def, yieldUpon, yielded, relAct, dstAt, Act.put, Region.wanted, go_sem, hC, haf]
              · simp [opYield_def, yieldUpon, yielded, relAct, dstAt, Act.put, Region.wanted, go_sem, hC, *]
                omega
            · simp at hio; subst hio; simp [bindD, rdB, Region.binds] at haf; simp [opYield_def, yieldUpon, yielded, relAct, dstAt, Act.put, Region.wanted, go_sem, hC, *]
            · simp at hio; subst hio; simp [bindD, rdB, Region.binds] at haf; simp [opYield_def, yieldUpon, yielded, relAct, dstAt, Act.put, Region.wanted, go_sem, hC, *]
            · exfalso; simp at hio
          · intro vals W ac hC hF hac
            obtain ⟨o3, h3, ho3⟩ : ∃ o3, vals 6 = .slice (some ⟨g2, o3, none⟩) (m2 - 1) (c3 - 1) ∧ o3 + (m2 - 1) ≤ o2 + m2 := hF 6 (by show 6 < 7; omega)
            have h5 : vals 5 = .int .i64 ((y : Int) % 256 / 8 + 1) := hF 5 (by show 5 < 7; omega)
            simp [relAct, dstAt, Act.put] at hac
            rw [h3, h5] at hac
            subst hac
            clear hF h3 h5
            obtain ⟨hC1, hC2, hC3⟩ := hC
            go_wp2_with fail
            refine ⟨⟨⟨g2, o3, m2 - 1, c3 - 1, rfl, by omega, hg2, row16_less hC3 ho3, .inl (by omega)⟩, ⟨y % 256 / 8 + 1, by simp, by omega⟩, hC1, hC2⟩, ?_⟩
            show m2 - 1 < m2
            omega
        · have hmm : m2 < m := by
            rcases hme with h | ⟨h1, h2, h3⟩
            · exact h
            · exfalso
              subst h1
              subst h2
              subst h3
              exact hin ⟨x, hm0, (bcl hb2 hg).trans HQ1.out, hx1, rfl⟩
          rcases Nat.eq_zero_or_pos m2 with hm20 | hm20
          · subst hm20
            clear hin hme HQ1
            go_upto_region 11 with fail
            obtain ⟨ys, hy1, hy2⟩ := HO.out
            have hlt := fun k hk => hy2.lt k hk
            have HLT := Lib.hid hlt
            have hyw : w.heap.size ≤ V.heap.size := HB.out.size
            have hVw : V.heap.size < wr.heap.size := by obtain ⟨cs, h1, h2⟩ := hA; exact lt_block h1
            obtain ⟨qx, hqx, hqx2⟩ : ∃ qx : Nat, (x : Int) / 256 = qx ∧ qx < 256 := ⟨x / 256, by omega, by omega⟩
            rw [hqx]
            have hown0 : wr.ownsRow w.heap.size 5 1 u3 ys.length (ys.map byteV) := Kept.row hy2 (Kept.of_below hb2) (fun k hk => by have := (hlt k hk).2; omega)
            have HOwn := Lib.hid hown0
            have hAV : ¬ some V.heap.size = u3.ownBlock := fun h => by have := (hlt _ h.symm).2; omega
            have hGV : ¬ some g2 = u3.ownBlock := row_apart hr2 hown0
            have hW0 : Below w.heap.size w wr := HB.out.trans (hb2.mono hyw)
            have hN6 : ∀ k, k < w.heap.size → ¬ some k = u3.ownBlock := fun k hk h => by have := (hlt _ h.symm).1; omega
            have hN9 : ∀ k, k < w.heap.size → ¬ (some k = u3.ownBlock ∨ wr.heap.size ≤ k) := fun k hk h => by
              rcases h with h | h
              · exact hN6 k hk h
              · omega
            have hA9 : ¬ (some V.heap.size = u3.ownBlock ∨ wr.heap.size ≤ V.heap.size) := fun h => by
              rcases h with h | h
              · exact hAV h
              · omega
            have hG9 : ¬ (some g2 = u3.ownBlock ∨ wr.heap.size ≤ g2) := fun h => by
              rcases h with h | h
              · exact hGV h
              · omega
            have hK6 : ∀ k, wr.heap.size ≤ k → ¬ some k = u3.ownBlock := fun k hk h => by have := (hlt _ h.symm).2; omega
            have hym : ys.length ≤ 340000000 := by omega
            clear hlt hy2 hown0
            refine wp_region_r2 mixed0 (by kernel_rfl) (fun i j => i == 9 && (j == 5 || j == 6)) (by kernel_rfl)
              (fun i W W' => if i = 6 then Kept (fun b => some b = u3.ownBlock) W W' else if i = 9 then Kept (fun b => some b = u3.ownBlock ∨ wr.heap.size ≤ b) W W' else Ext W W')
              (fun W => Below w.heap.size w W ∧ Arr32 V.heap.size W ∧ wr.heap.size ≤ W.heap.size ∧ Row16 W g2 (o2 + 0))
              (fun i v W => match i with
                | 0 => v = u3
                | 1 => v = .int .u16 qx
                | 2 => v = .int .u8 qx
                | 3 => v = .int .i64 s
                | 4 => v = .int .u8 s
                | 5 => ∃ k, v = .slice (some ⟨k, 0, none⟩) 2 2 ∧ wr.heap.size ≤ k ∧ Cs W (some ⟨k, 0, none⟩) [.int .u8 qx, .int .u8 s]
                | 6 => W.ownsRow w.heap.size 5 1 v (ys.length + 2) (ys.map byteV ++ [.int .u8 qx, .int .u8 s]) ∧ ∀ b, v.ownBlock = some b → some b = u3.ownBlock ∨ wr.heap.size ≤ b
                | 7 => v = .int .i64 s
                | 8 => v = .slice (some ⟨V.heap.size, 0, none⟩) s 32
                | 9 => BytesV w.heap.size (34 * (xs.length - m) + 34) v W
                | 10 => BytesV w.heap.size (34 * (xs.length - m) + 34) v W
                | _ => True)
              (fun W => W.ownsRow w.heap.size 5 1 u3 ys.length (ys.map byteV)) (fun i => i == 6 || i == 9) HOwn.out ?_ ⟨hW0.drew, hA, Nat.le_refl _, hr2⟩ ?_ ?_ ?_ ?_
            · intro i W W' hk hC hI hT
              have h6 : i ≠ 6 := fun h => by subst h; cases hk
              have h9 : i ≠ 9 := fun h => by subst h; cases hk
              simp only [h6, h9, if_false] at hT
              exact own_below hI hT
            · intro i W W' hC hT
              obtain ⟨h1, h2, h3, h4⟩ := hC
              by_cases h6 : i = 6
              · simp only [h6, if_true] at hT
                exact ⟨h1.trans (hT.below h1.size (fun k hk => hN6 k hk)), h2.block (hT.block _ (by omega) hAV), Nat.le_trans h3 hT.size, row16_block h4 (hT.block _ (by omega) hGV)⟩
              · by_cases h9 : i = 9
                · simp only [h9, if_true, show ¬ (9 : Nat) = 6 by omega, if_false] at hT
                  exact ⟨h1.trans (hT.below h1.size (fun k hk => hN9 k hk)), h2.block (hT.block _ (by omega) hA9), Nat.le_trans h3 hT.size, row16_block h4 (hT.block _ (by omega) hG9)⟩
                · simp only [h6, h9, if_false] at hT
                  have hz := hT.size
                  exact ⟨h1.trans (hT.mono h1.size), h2.block (hT.block _ (by omega)), Nat.le_trans h3 hz, row16_block h4 (hT.block _ (by omega))⟩
            · intro i j v W W' hij hkl hw hC hR hT
              obtain ⟨h1, h2, h3, h4⟩ := hC
              by_cases h6 : i = 6
              · subst h6
                simp only [if_true] at hT
                rcases j with _ | _ | _ | _ | _ | _ | _ | _ | _ | _ | _ | j
                · exact hR
                · exact hR
                · exact hR
                · exact hR
                · exact hR
                · obtain ⟨k, e1, e2, e3⟩ := hR
                  exact ⟨k, e1, e2, Kept.cs e3 hT (fun a ha hx => by cases ha; exact hK6 k e2)⟩
                · exact absurd rfl hij
                · exact hR
                · exact hR
                · exact Bool.noConfusion (show false = true from hw.symm.trans (by kernel_rfl))
                · exact Bool.noConfusion (show false = true from hw.symm.trans (by kernel_rfl))
                · trivial
              · by_cases h9 : i = 9
                · subst h9
                  simp only [if_true, show ¬ (9 : Nat) = 6 by omega, if_false] at hT
                  rcases j with _ | _ | _ | _ | _ | _ | _ | _ | _ | _ | _ | j
                  · exact hR
                  · exact hR
                  · exact hR
                  · exact hR
                  · exact hR
                  · cases hkl
                  · cases hkl
                  · exact hR
                  · exact hR
                  · exact absurd rfl hij
                  · exact Bool.noConfusion (show false = true from hw.symm.trans (by kernel_rfl))
                  · trivial
                · simp only [h6, h9, if_false] at hT
                  rcases j with _ | _ | _ | _ | _ | _ | _ | _ | _ | _ | _ | j
                  · exact hR
                  · exact hR
                  · exact hR
                  · exact hR
                  · exact hR
                  · obtain ⟨k, e1, e2, e3⟩ := hR
                    exact ⟨k, e1, e2, e3.below hT⟩
                  · exact ⟨own_below hR.1 hT, hR.2⟩
                  · exact hR
                  · exact hR
                  · obtain ⟨zs, e1, e2⟩ := hR
                    exact ⟨zs, e1, own_below e2 hT⟩
                  · obtain ⟨zs, e1, e2⟩ := hR
                    exact ⟨zs, e1, own_below e2 hT⟩
                  · trivial
            · intro i o hio vals W hC haf hI
              obtain ⟨h1, h2, h3, h4⟩ := hC
              have r1 : IntKind.u8.wrap (qx : Int) = qx := by simp [IntKind.wrap, IntKind.bits, IntKind.signed]; omega
              have r2 : IntKind.u8.wrap (s : Int) = s := by simp [IntKind.wrap, IntKind.bits, IntKind.signed]; omega
              have r3 : (s : Int) ≤ 32 := by omega
              rcases i with _ | _ | _ | _ | _ | _ | _ | _ | _ | _ | _ | i
              all_goals first
                | (exfalso; simp at hio; done)
                | (simp at hio; subst hio; simp [bindD, rdB, Region.binds] at haf; simp [opYield_def, yieldUpon, yielded, relAct, dstAt, Act.put, Region.wanted, go_sem, haf, r1, r2, r3, hs, Ext.refl]; done)
                | skip
              all_goals
                simp at hio
                subst hio
                simp [bindD, rdB, Region.binds] at haf
              · simp [opYield_def, yieldUpon, yielded, relAct, dstAt, Act.put, Region.wanted, go_sem, haf]
                exact ⟨(Below.refl _ _).alloc (Nat.le_refl _) _, h3, cs_new W 5 [.int .u8 qx, .int .u8 s] (0, 0)⟩
              · obtain ⟨e0, k, e5, hk, hc5⟩ := haf
                have hrow := hI (fun k hk h => by
                  have : k = 6 ∨ k = 9 := by simpa using h
                  rcases this with rfl | rfl
                  · exact .inl rfl
                  · exact .inr (by kernel_rfl))
                refine yield_bytes2 rfl (.tmp 48) (.tmp 53) Tryz.underlying31 rfl (v := u3) (by simp [relAct, dstAt, Act.put, Act.eval, e0]) hrow (Nat.le_trans hW0.size h3) (us := [.int .u8 qx, .int .u8 s]) (b := ⟨k, 0, none⟩) (c := 2) (by simp [relAct, dstAt, Act.put, Act.eval, e5]) hc5 (by simp [Value.oneCell']) (by simp; omega) ?_
                intro v' W' e6 e7
                refine ⟨e7.kept, e6, fun b hb => ?_⟩
                rcases e7.at_ b hb with h | h
                · exact .inl h.symm
                · exact .inr (Nat.le_trans h3 h)
              · obtain ⟨⟨e6, ea⟩, e8⟩ := haf
                obtain ⟨zs, hzl, hzc⟩ := h2.cs s hs
                have e6' : W.ownsRow w.heap.size 5 1 (vals 6) (ys.length + 2) ((ys ++ [UInt8.ofNat qx, UInt8.ofNat s]).map byteV) := by
                  have b1 : byteV (UInt8.ofNat qx) = .int .u8 qx := by rw [byteV_mod]; congr 1; try omega
                  have b2 : byteV (UInt8.ofNat s) = .int .u8 s := by rw [byteV_mod]; congr 1; try omega
                  rw [List.map_append, List.map_cons, List.map_cons, List.map_nil, b1, b2]
                  exact e6
                refine yield_bytes2 rfl (.tmp 54) (.tmp 56) Tryz.underlying31 rfl (v := vals 6) (by simp [relAct, dstAt, Act.put, Act.eval]) e6' (Nat.le_trans hW0.size h3) (us := zs.map byteV) (b := ⟨V.heap.size, 0, none⟩) (c := 32) (by simp [relAct, dstAt, Act.put, Act.eval, e8, hzl]) hzc (fun u hu => by obtain ⟨z, _, rfl⟩ := List.mem_map.1 hu; rfl) (by simp [hzl]; omega) ?_
                intro v' W' e10 e7
                refine ⟨e7.kept.mono (fun k hk hkk => ea k hkk.symm), ys ++ [UInt8.ofNat qx, UInt8.ofNat s] ++ zs, by simp [hzl]; omega, ?_⟩
                rw [List.map_append, List.length_append]
                simpa [Nat.add_assoc] using e10
            · intro vals W hC hR
              obtain ⟨h1, h2, h3, h4⟩ := hC
              have hR10 : BytesV w.heap.size (34 * (xs.length - m) + 34) (vals 10) W := hR 10 (by show 10 < 11; omega) (fun i _ => by show (i == 9 && _) = false; simp)
              obtain ⟨zs, hz1, hz2⟩ := hR10
              simp [relAct, dstAt, Act.put]
              go_wp2_with fail
              refine ⟨⟨0, by omega, .inr ⟨g2, o2, c3, rfl, hc3, by omega, h4⟩, ⟨zs, by omega, hz2⟩, h1⟩, ?_⟩
              show 0 < m
              exact hmm
          · obtain ⟨y, q1, hy1⟩ := hr2.cell o2 (by omega)
            have q2 := hr2.frozen o2
            have hm2i : (0 : Int) < (m2 : Int) := by omega
            have hyx : ¬ (y : Int) / 256 = (x : Int) / 256 := fun h => hin ⟨y, hm20, q1, hy1, by omega⟩
            clear hin hme HQ1
            go_upto_region 11 with fail
            obtain ⟨ys, hy1, hy2⟩ := HO.out
            have hlt := fun k hk => hy2.lt k hk
            have HLT := Lib.hid hlt
            have hyw : w.heap.size ≤ V.heap.size := HB.out.size
            have hVw : V.heap.size < wr.heap.size := by obtain ⟨cs, h1, h2⟩ := hA; exact lt_block h1
            obtain ⟨qx, hqx, hqx2⟩ : ∃ qx : Nat, (x : Int) / 256 = qx ∧ qx < 256 := ⟨x / 256, by omega, by omega⟩
            rw [hqx]
            have hown0 : wr.ownsRow w.heap.size 5 1 u3 ys.length (ys.map byteV) := Kept.row hy2 (Kept.of_below hb2) (fun k hk => by have := (hlt k hk).2; omega)
            have HOwn := Lib.hid hown0
            have hAV : ¬ some V.heap.size = u3.ownBlock := fun h => by have := (hlt _ h.symm).2; omega
            have hGV : ¬ some g2 = u3.ownBlock := row_apart hr2 hown0
            have hW0 : Below w.heap.size w wr := HB.out.trans (hb2.mono hyw)
            have hN6 : ∀ k, k < w.heap.size → ¬ some k = u3.ownBlock := fun k hk h => by have := (hlt _ h.symm).1; omega
            have hN9 : ∀ k, k < w.heap.size → ¬ (some k = u3.ownBlock ∨ wr.heap.size ≤ k) := fun k hk h => by
              rcases h with h | h
              · exact hN6 k hk h
              · omega
            have hA9 : ¬ (some V.heap.size = u3.ownBlock ∨ wr.heap.size ≤ V.heap.size) := fun h => by
              rcases h with h | h
              · exact hAV h
              · omega
            have hG9 : ¬ (some g2 = u3.ownBlock ∨ wr.heap.size ≤ g2) := fun h => by
              rcases h with h | h
              · exact hGV h
              · omega
            have hK6 : ∀ k, wr.heap.size ≤ k → ¬ some k = u3.ownBlock := fun k hk h => by have := (hlt _ h.symm).2; omega
            have hym : ys.length ≤ 340000000 := by omega
            clear hlt hy2 hown0
            refine wp_region_r2 mixed0 (by kernel_rfl) (fun i j => i == 9 && (j == 5 || j == 6)) (by kernel_rfl)
              (fun i W W' => if i = 6 then Kept (fun b => some b = u3.ownBlock) W W' else if i = 9 then Kept (fun b => some b = u3.ownBlock ∨ wr.heap.size ≤ b) W W' else Ext W W')
              (fun W => Below w.heap.size w W ∧ Arr32 V.heap.size W ∧ wr.heap.size ≤ W.heap.size ∧ Row16 W g2 (o2 + m2))
              (fun i v W => match i with
                | 0 => v = u3
                | 1 => v = .int .u16 qx
                | 2 => v = .int .u8 qx
                | 3 => v = .int .i64 s
                | 4 => v = .int .u8 s
                | 5 => ∃ k, v = .slice (some ⟨k, 0, none⟩) 2 2 ∧ wr.heap.size ≤ k ∧ Cs W (some ⟨k, 0, none⟩) [.int .u8 qx, .int .u8 s]
                | 6 => W.ownsRow w.heap.size 5 1 v (ys.length + 2) (ys.map byteV ++ [.int .u8 qx, .int .u8 s]) ∧ ∀ b, v.ownBlock = some b → some b = u3.ownBlock ∨ wr.heap.size ≤ b
                | 7 => v = .int .i64 s
                | 8 => v = .slice (some ⟨V.heap.size, 0, none⟩) s 32
                | 9 => BytesV w.heap.size (34 * (xs.length - m) + 34) v W
                | 10 => BytesV w.heap.size (34 * (xs.length - m) + 34) v W
                | _ => True)
              (fun W => W.ownsRow w.heap.size 5 1 u3 ys.length (ys.map byteV)) (fun i => i == 6 || i == 9) HOwn.out ?_ ⟨hW0.drew, hA, Nat.le_refl _, hr2⟩ ?_ ?_ ?_ ?_
            · intro i W W' hk hC hI hT
              have h6 : i ≠ 6 := fun h => by subst h; cases hk
              have h9 : i ≠ 9 := fun h => by subst h; cases hk
              simp only [h6, h9, if_false] at hT
              exact own_below hI hT
            · intro i W W' hC hT
              obtain ⟨h1, h2, h3, h4⟩ := hC
              by_cases h6 : i = 6
              · simp only [h6, if_true] at hT
                exact ⟨h1.trans (hT.below h1.size (fun k hk => hN6 k hk)), h2.block (hT.block _ (by omega) hAV), Nat.le_trans h3 hT.size, row16_block h4 (hT.block _ (by omega) hGV)⟩
              · by_cases h9 : i = 9
                · simp only [h9, if_true, show ¬ (9 : Nat) = 6 by omega, if_false] at hT
                  exact ⟨h1.trans (hT.below h1.size (fun k hk => hN9 k hk)), h2.block (hT.block _ (by omega) hA9), Nat.le_trans h3 hT.size, row16_block h4 (hT.block _ (by omega) hG9)⟩
                · simp only [h6, h9, if_false] at hT
                  have hz := hT.size
                  exact ⟨h1.trans (hT.mono h1.size), h2.block (hT.block _ (by omega)), Nat.le_trans h3 hz, row16_block h4 (hT.block _ (by omega))⟩
            · intro i j v W W' hij hkl hw hC hR hT
              obtain ⟨h1, h2, h3, h4⟩ := hC
              by_cases h6 : i = 6
              · subst h6
                simp only [if_true] at hT
                rcases j with _ | _ | _ | _ | _ | _ | _ | _ | _ | _ | _ | j
                · exact hR
                · exact hR
                · exact hR
                · exact hR
                · exact hR
                · obtain ⟨k, e1, e2, e3⟩ := hR
                  exact ⟨k, e1, e2, Kept.cs e3 hT (fun a ha hx => by cases ha; exact hK6 k e2)⟩
                · exact absurd rfl hij
                · exact hR
                · exact hR
                · exact Bool.noConfusion (show false = true from hw.symm.trans (by kernel_rfl))
                · exact Bool.noConfusion (show false = true from hw.symm.trans (by kernel_rfl))
                · trivial
              · by_cases h9 : i = 9
                · subst h9
                  simp only [if_true, show ¬ (9 : Nat) = 6 by omega, if_false] at hT
                  rcases j with _ | _ | _ | _ | _ | _ | _ | _ | _ | _ | _ | j
                  · exact hR
                  · exact hR
                  · exact hR
                  · exact hR
                  · exact hR
                  · cases hkl
                  · cases hkl
                  · exact hR
                  · exact hR
                  · exact absurd rfl hij
                  · exact Bool.noConfusion (show false = true from hw.symm.trans (by kernel_rfl))
                  · trivial
                · simp only [h6, h9, if_false] at hT
                  rcases j with _ | _ | _ | _ | _ | _ | _ | _ | _ | _ | _ | j
                  · exact hR
                  · exact hR
                  · exact hR
                  · exact hR
                  · exact hR
                  · obtain ⟨k, e1, e2, e3⟩ := hR
                    exact ⟨k, e1, e2, e3.below hT⟩
                  · exact ⟨own_below hR.1 hT, hR.2⟩
                  · exact hR
                  · exact hR
                  · obtain ⟨zs, e1, e2⟩ := hR
                    exact ⟨zs, e1, own_below e2 hT⟩
                  · obtain ⟨zs, e1, e2⟩ := hR
                    exact ⟨zs, e1, own_below e2 hT⟩
                  · trivial
            · intro i o hio vals W hC haf hI
              obtain ⟨h1, h2, h3, h4⟩ := hC
              have r1 : IntKind.u8.wrap (qx : Int) = qx := by simp [IntKind.wrap, IntKind.bits, IntKind.signed]; omega
              have r2 : IntKind.u8.wrap (s : Int) = s := by simp [IntKind.wrap, IntKind.bits, IntKind.signed]; omega
              have r3 : (s : Int) ≤ 32 := by omega
              rcases i with _ | _ | _ | _ | _ | _ | _ | _ | _ | _ | _ | i
              all_goals first
                | (exfalso; simp at hio; done)
                | (simp at hio; subst hio; simp [bindD, rdB, Region.binds] at haf; simp [opYield_def, yieldUpon, yielded, relAct, dstAt, Act.put, Region.wanted, go_sem, haf, r1, r2, r3, hs, Ext.refl]; done)
                | skip
              all_goals
                simp at hio
                subst hio
                simp [bindD, rdB, Region.binds] at haf
              · simp [opYield_def, yieldUpon, yielded, relAct, dstAt, Act.put, Region.wanted, go_sem, haf]
                exact ⟨(Below.refl _ _).alloc (Nat.le_refl _) _, h3, cs_new W 5 [.int .u8 qx, .int .u8 s] (0, 0)⟩
              · obtain ⟨e0, k, e5, hk, hc5⟩ := haf
                have hrow := hI (fun k hk h => by
                  have : k = 6 ∨ k = 9 := by simpa using h
                  rcases this with rfl | rfl
                  · exact .inl rfl
                  · exact .inr (by kernel_rfl))
                refine yield_bytes2 rfl (.tmp 48) (.tmp 53) Tryz.underlying31 rfl (v := u3) (by simp [relAct, dstAt, Act.put, Act.eval, e0]) hrow (Nat.le_trans hW0.size h3) (us := [.int .u8 qx, .int .u8 s]) (b := ⟨k, 0, none⟩) (c := 2) (by simp [relAct, dstAt, Act.put, Act.eval, e5]) hc5 (by simp [Value.oneCell']) (by simp; omega) ?_
                intro v' W' e6 e7
                refine ⟨e7.kept, e6, fun b hb => ?_⟩
                rcases e7.at_ b hb with h | h
                · exact .inl h.symm
                · exact .inr (Nat.le_trans h3 h)
              · obtain ⟨⟨e6, ea⟩, e8⟩ := haf
                obtain ⟨zs, hzl, hzc⟩ := h2.cs s hs
                have e6' : W.ownsRow w.heap.size 5 1 (vals 6) (ys.length + 2) ((ys ++ [UInt8.ofNat qx, UInt8.ofNat s]).map byteV) := by
                  have b1 : byteV (UInt8.ofNat qx) = .int .u8 qx := by rw [byteV_mod]; congr 1; try omega
                  have b2 : byteV (UInt8.ofNat s) = .int .u8 s := by rw [byteV_mod]; congr 1; try omega
                  rw [List.map_append, List.map_cons, List.map_cons, List.map_nil, b1, b2]
                  exact e6
                refine yield_bytes2 rfl (.tmp 54) (.tmp 56) Tryz.underlying31 rfl (v := vals 6) (by simp [relAct, dstAt, Act.put, Act.eval]) e6' (Nat.le_trans hW0.size h3) (us := zs.map byteV) (b := ⟨V.heap.size, 0, none⟩) (c := 32) (by simp [relAct, dstAt, Act.put, Act.eval, e8, hzl]) hzc (fun u hu => by obtain ⟨z, _, rfl⟩ := List.mem_map.1 hu; rfl) (by simp [hzl]; omega) ?_
                intro v' W' e10 e7
                refine ⟨e7.kept.mono (fun k hk hkk => ea k hkk.symm), ys ++ [UInt8.ofNat qx, UInt8.ofNat s] ++ zs, by simp [hzl]; omega, ?_⟩
                rw [List.map_append, List.length_append]
                simpa [Nat.add_assoc] using e10
            · intro vals W hC hR
              obtain ⟨h1, h2, h3, h4⟩ := hC
              have hR10 : BytesV w.heap.size (34 * (xs.length - m) + 34) (vals 10) W := hR 10 (by show 10 < 11; omega) (fun i _ => by show (i == 9 && _) = false; simp)
              obtain ⟨zs, hz1, hz2⟩ := hR10
              simp [relAct, dstAt, Act.put]
              go_wp2_with fail
              refine ⟨⟨m2, by omega, .inr ⟨g2, o2, c3, rfl, hc3, by omega, h4⟩, ⟨zs, by omega, hz2⟩, h1⟩, ?_⟩
              show m2 < m
              exact hmm
end Nm
end Go.Proofs.YtkeimgamjnpcbaaGreat
