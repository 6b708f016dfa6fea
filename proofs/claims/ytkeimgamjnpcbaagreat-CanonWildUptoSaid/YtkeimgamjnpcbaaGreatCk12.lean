/-
  Texts merged by a program (Pdq7, Pdq8).
-/
import Derived.Test.YtkeimgamjnpcbaaGreatCk8
import Derived.Test.YtkeimgamjnpcbaaGreatCk9
set_option linter.unusedSimpArgs false
set_option linter.unusedVariables false
/- partialInsertionSortOrdered at uint16, whatever the row holds. (Printed by a program: wip/gen_pdq7.py.) -/
namespace Go.Proofs.YtkeimgamjnpcbaaGreat
open Go.RowKit
set_option linter.unusedVariables false
set_option linter.unusedSimpArgs false
namespace Nm
def PiR (a b : Nat) (w : World) (g n : Nat) (v u : Value) (W : World) : Prop := ∃ i s : Nat, v = .int .i64 i ∧ u = .int .i64 s ∧ a + 1 ≤ i ∧ i ≤ b ∧ s ≤ 5 ∧ CW w g n W
set_option maxRecDepth 100000 in
set_option maxHeartbeats 40000000 in
theorem partins16 (g n c a b : Nat) (w : World) (h : Row16 w g n) (hc : n ≤ c) (hb : b ≤ n) (hab : a < b) (hn : n ≤ 1000000000) :
    Calls Tryz.prog 205 #[.slice (some ⟨g, 0, none⟩) n c, .int .i64 a, .int .i64 b] w fun e w' => (∃ o : Bool, e = .returned (.bool o)) ∧ CW w g n w' := by
  go_enter Tryz.func205, Tryz.ntmps205
  go_wp2_with fail
  go_loopw [7, 8] (PiR a b w g n) (fun _ s _ => 5 - (intOf s).toNat)
  case atStart => exact ⟨a + 1, 0, by go_num, rfl, by omega, by omega, by omega, CW.refl h⟩
  case round =>
    obtain ⟨i0, s, rfl, rfl, hi1, hi2, hs5, hw⟩ := hrel
    by_cases hs : s < 5
    · go_wp2_with fail
      go_loopw [7] (IdxR i0 b w g n) (fun i _ => b - (intOf i).toNat)
      case atStart => exact ⟨i0, rfl, by omega, by omega, hw⟩
      case round =>
        obtain ⟨i, rfl, hi3, hi4, hw2⟩ := hrel
        have hwD := hw2.drew
        obtain ⟨p, hp⟩ : ∃ p : Nat, p + 1 ≤ i ∧ i ≤ p + 1 := ⟨i - 1, by omega⟩
        go_upto_region 5 with fail
        refine wp_region_c mixed0 (by kernel_rfl) (CW w g n) hwD [(· = .int .i64 (i)), (· = .int .i64 (b)), (· = .bool (decide (i < b))), (· = .bool (decide (i < b))), (fun v => i < b → v = .slice (some ⟨g, 0, none⟩) n c), (fun v => i < b → v = .int .i64 (i)), (fun v => i < b → v = .pointer (some ⟨g, i, none⟩)), (fun v => i < b → isU v), (fun v => i < b → v = .slice (some ⟨g, 0, none⟩) n c), (fun v => i < b → v = .int .i64 (i)), (fun v => i < b → v = .int .i64 (p)), (fun v => i < b → v = .pointer (some ⟨g, p, none⟩)), (fun v => i < b → isU v), (fun v => i < b → isB v), (fun v => i < b → isB v), (fun v => ∃ o : Bool, v = .bool o ∧ (o = true → i < b))] ?_ ?_
        · intro ix q hio vals W hC haf
          by_cases hg : i < b
          · obtain ⟨x0, q0, hx0⟩ := hC.2.cell (i) (by omega)
            have f0 := hC.2.frozen (i)
            have t0 : isU (.int .u16 x0) := isU_mk _ hx0
            obtain ⟨x1, q1, hx1⟩ := hC.2.cell (p) (by omega)
            have f1 := hC.2.frozen (p)
            have t1 : isU (.int .u16 x1) := isU_mk _ hx1
            have r0 : IntKind.i64.wrap ((i : Int) - 1) = (p : Int) := by first | omega | exact IntWalk.i64_in _ (by omega) | exact (IntWalk.i64_in _ (by omega)).trans (by omega) | go_num
            have r1 : i < n := by first | omega | exact IntWalk.i64_in _ (by omega) | exact (IntWalk.i64_in _ (by omega)).trans (by omega) | go_num
            have r2 : p < n := by first | omega | exact IntWalk.i64_in _ (by omega) | exact (IntWalk.i64_in _ (by omega)).trans (by omega) | go_num
            rcases ix with _ | _ | _ | _ | _ | _ | _ | _ | _ | _ | _ | _ | _ | _ | _ | _ | ix
            · simp at hio; subst hio; simp [bindD, rdB, Region.binds, hg] at haf; simp [opYield_def, yieldUpon, yielded, relAct, dstAt, Act.put, Region.wanted, go_sem, hC, isU_mk, isB_mk, *]
            · simp at hio; subst hio; simp [bindD, rdB, Region.binds, hg] at haf; simp [opYield_def, yieldUpon, yielded, relAct, dstAt, Act.put, Region.wanted, go_sem, hC, isU_mk, isB_mk, *]
            · simp at hio; subst hio; simp [bindD, rdB, Region.binds, hg] at haf; simp [opYield_def, yieldUpon, yielded, relAct, dstAt, Act.put, Region.wanted, go_sem, hC, isU_mk, isB_mk, *]
            · simp at hio; subst hio; simp [bindD, rdB, Region.binds, hg] at haf; simp [opYield_def, yieldUpon, yielded, relAct, dstAt, Act.put, Region.wanted, go_sem, hC, isU_mk, isB_mk, *]
            · simp at hio; subst hio; simp [bindD, rdB, Region.binds, hg] at haf; simp [opYield_def, yieldUpon, yielded, relAct, dstAt, Act.put, Region.wanted, go_sem, hC, isU_mk, isB_mk, *]
            · simp at hio; subst hio; simp [bindD, rdB, Region.binds, hg] at haf; simp [opYield_def, yieldUpon, yielded, relAct, dstAt, Act.put, Region.wanted, go_sem, hC, isU_mk, isB_mk, *]
            · simp at hio; subst hio; simp [bindD, rdB, Region.binds, hg] at haf; simp [opYield_def, yieldUpon, yielded, relAct, dstAt, Act.put, Region.wanted, go_sem, hC, isU_mk, isB_mk, *]
            · simp at hio; subst hio; simp [bindD, rdB, Region.binds, hg] at haf; simp [opYield_def, yieldUpon, yielded, relAct, dstAt, Act.put, Region.wanted, go_sem, hC, isU_mk, isB_mk, *]
            · simp at hio; subst hio; simp [bindD, rdB, Region.binds, hg] at haf; simp [opYield_def, yieldUpon, yielded, relAct, dstAt, Act.put, Region.wanted, go_sem, hC, isU_mk, isB_mk, *]
            · simp at hio; subst hio; simp [bindD, rdB, Region.binds, hg] at haf; simp [opYield_def, yieldUpon, yielded, relAct, dstAt, Act.put, Region.wanted, go_sem, hC, isU_mk, isB_mk, *]
            · simp at hio; subst hio; simp [bindD, rdB, Region.binds, hg] at haf; simp [opYield_def, yieldUpon, yielded, relAct, dstAt, Act.put, Region.wanted, go_sem, hC, isU_mk, isB_mk, *]
            · simp at hio; subst hio; simp [bindD, rdB, Region.binds, hg] at haf; simp [opYield_def, yieldUpon, yielded, relAct, dstAt, Act.put, Region.wanted, go_sem, hC, isU_mk, isB_mk, *]
            · simp at hio; subst hio; simp [bindD, rdB, Region.binds, hg] at haf; simp [opYield_def, yieldUpon, yielded, relAct, dstAt, Act.put, Region.wanted, go_sem, hC, isU_mk, isB_mk, *]
            · simp at hio; subst hio; simp [bindD, rdB, Region.binds, hg] at haf; first | (obtain ⟨⟨y1, e1, l1⟩, ⟨y2, e2, l2⟩, e3⟩ := haf; simp [opYield_def, yieldUpon, yielded, relAct, dstAt, Act.put, Region.wanted, go_sem, hC, isU_mk, isB_mk, *]; exact (less16 y1 y2 W).mono fun e w' ⟨h1, h2⟩ => ⟨_, h1, by rw [h2]; exact hC, _, rfl⟩) | (obtain ⟨⟨y1, e1, l1⟩, ⟨y2, e2, l2⟩⟩ := haf; simp [opYield_def, yieldUpon, yielded, relAct, dstAt, Act.put, Region.wanted, go_sem, hC, isU_mk, isB_mk, *]; exact (less16 y1 y2 W).mono fun e w' ⟨h1, h2⟩ => ⟨_, h1, by rw [h2]; exact hC, _, rfl⟩)
            · simp at hio; subst hio; simp [bindD, rdB, Region.binds, hg] at haf; first | (simp [opYield_def, yieldUpon, yielded, relAct, dstAt, Act.put, Region.wanted, go_sem, hC, isU_mk, isB_mk, *]; done) | (obtain ⟨y, e1⟩ := haf; simp [opYield_def, yieldUpon, yielded, relAct, dstAt, Act.put, Region.wanted, go_sem, hC, isU_mk, isB_mk, *]; done) | (obtain ⟨⟨y, e1⟩, e2⟩ := haf; simp [opYield_def, yieldUpon, yielded, relAct, dstAt, Act.put, Region.wanted, go_sem, hC, isU_mk, isB_mk, *]; done) | (obtain ⟨e2, ⟨y, e1⟩⟩ := haf; simp [opYield_def, yieldUpon, yielded, relAct, dstAt, Act.put, Region.wanted, go_sem, hC, isU_mk, isB_mk, *]; done)
            · simp at hio; subst hio; simp [bindD, rdB, Region.binds, hg] at haf; first | (simp [opYield_def, yieldUpon, yielded, relAct, dstAt, Act.put, Region.wanted, go_sem, hC, isU_mk, isB_mk, *]; done) | (obtain ⟨y, e1⟩ := haf; simp [opYield_def, yieldUpon, yielded, relAct, dstAt, Act.put, Region.wanted, go_sem, hC, isU_mk, isB_mk, *]; done) | (obtain ⟨⟨y, e1⟩, e2⟩ := haf; simp [opYield_def, yieldUpon, yielded, relAct, dstAt, Act.put, Region.wanted, go_sem, hC, isU_mk, isB_mk, *]; done) | (obtain ⟨e2, ⟨y, e1⟩⟩ := haf; simp [opYield_def, yieldUpon, yielded, relAct, dstAt, Act.put, Region.wanted, go_sem, hC, isU_mk, isB_mk, *]; done)
            · exfalso; simp at hio
          · rcases ix with _ | _ | _ | _ | _ | _ | _ | _ | _ | _ | _ | _ | _ | _ | _ | _ | ix
            · simp at hio; subst hio; simp [bindD, rdB, Region.binds, hg] at haf; simp [opYield_def, yieldUpon, yielded, relAct, dstAt, Act.put, Region.wanted, go_sem, hC, isU_mk, isB_mk, *]
            · simp at hio; subst hio; simp [bindD, rdB, Region.binds, hg] at haf; simp [opYield_def, yieldUpon, yielded, relAct, dstAt, Act.put, Region.wanted, go_sem, hC, isU_mk, isB_mk, *]
            · simp at hio; subst hio; simp [bindD, rdB, Region.binds, hg] at haf; simp [opYield_def, yieldUpon, yielded, relAct, dstAt, Act.put, Region.wanted, go_sem, hC, isU_mk, isB_mk, *]
            · simp at hio; subst hio; simp [bindD, rdB, Region.binds, hg] at haf; simp [opYield_def, yieldUpon, yielded, relAct, dstAt, Act.put, Region.wanted, go_sem, hC, isU_mk, isB_mk, *]
            · simp at hio; subst hio; simp [bindD, rdB, Region.binds, hg] at haf; simp [opYield_def, yieldUpon, yielded, relAct, dstAt, Act.put, Region.wanted, go_sem, hC, isU_mk, isB_mk, *]
            · simp at hio; subst hio; simp [bindD, rdB, Region.binds, hg] at haf; simp [opYield_def, yieldUpon, yielded, relAct, dstAt, Act.put, Region.wanted, go_sem, hC, isU_mk, isB_mk, *]
            · simp at hio; subst hio; simp [bindD, rdB, Region.binds, hg] at haf; simp [opYield_def, yieldUpon, yielded, relAct, dstAt, Act.put, Region.wanted, go_sem, hC, isU_mk, isB_mk, *]
            · simp at hio; subst hio; simp [bindD, rdB, Region.binds, hg] at haf; simp [opYield_def, yieldUpon, yielded, relAct, dstAt, Act.put, Region.wanted, go_sem, hC, isU_mk, isB_mk, *]
            · simp at hio; subst hio; simp [bindD, rdB, Region.binds, hg] at haf; simp [opYield_def, yieldUpon, yielded, relAct, dstAt, Act.put, Region.wanted, go_sem, hC, isU_mk, isB_mk, *]
            · simp at hio; subst hio; simp [bindD, rdB, Region.binds, hg] at haf; simp [opYield_def, yieldUpon, yielded, relAct, dstAt, Act.put, Region.wanted, go_sem, hC, isU_mk, isB_mk, *]
            · simp at hio; subst hio; simp [bindD, rdB, Region.binds, hg] at haf; simp [opYield_def, yieldUpon, yielded, relAct, dstAt, Act.put, Region.wanted, go_sem, hC, isU_mk, isB_mk, *]
            · simp at hio; subst hio; simp [bindD, rdB, Region.binds, hg] at haf; simp [opYield_def, yieldUpon, yielded, relAct, dstAt, Act.put, Region.wanted, go_sem, hC, isU_mk, isB_mk, *]
            · simp at hio; subst hio; simp [bindD, rdB, Region.binds, hg] at haf; simp [opYield_def, yieldUpon, yielded, relAct, dstAt, Act.put, Region.wanted, go_sem, hC, isU_mk, isB_mk, *]
            · simp at hio; subst hio; simp [bindD, rdB, Region.binds, hg] at haf; simp [opYield_def, yieldUpon, yielded, relAct, dstAt, Act.put, Region.wanted, go_sem, hC, isU_mk, isB_mk, *]
            · simp at hio; subst hio; simp [bindD, rdB, Region.binds, hg] at haf; simp [opYield_def, yieldUpon, yielded, relAct, dstAt, Act.put, Region.wanted, go_sem, hC, isU_mk, isB_mk, *]
            · simp at hio; subst hio; simp [bindD, rdB, Region.binds, hg] at haf; simp [opYield_def, yieldUpon, yielded, relAct, dstAt, Act.put, Region.wanted, go_sem, hC, isU_mk, isB_mk, *]
            · exfalso; simp at hio
        · intro vals W ac hC hF hac
          obtain ⟨o, ho, hoG⟩ : ∃ o : Bool, vals 15 = .bool o ∧ (o = true → i < b) := hF 15 (by show 15 < 16; omega)
          simp [relAct, dstAt, Act.put] at hac
          rw [ho] at hac
          subst hac
          clear hF
          have hwD := hC.drew
          cases o
          · by_cases hib : i = b
            · have hib2 : (i : Int) = (b : Int) := by omega
              go_wp2_with fail
              go_ret
              exact ⟨⟨true, rfl⟩, hC⟩
            · have hib2 : ¬ (i : Int) = (b : Int) := by omega
              have hlt : i < b := by omega
              by_cases h50 : b - a < 50
              · have h502 : (b : Int) - (a : Int) < 50 := by omega
                go_wp2_with fail
                go_ret
                exact ⟨⟨false, rfl⟩, hC⟩
              · have h502 : ¬ (b : Int) - (a : Int) < 50 := by omega
                go_upto_region 11 with fail
                refine wp_region_c mixed0 (by kernel_rfl) (CW w g n) hwD [(· = .slice (some ⟨g, 0, none⟩) n c), (· = .int .i64 (i)), (· = .slice (some ⟨g, 0, none⟩) n c), (· = .int .i64 (i)), (· = .int .i64 (p)), (· = .slice (some ⟨g, 0, none⟩) n c), (· = .int .i64 (i)), (· = .int .i64 (p)), (· = .pointer (some ⟨g, p, none⟩)), isU, (· = .slice (some ⟨g, 0, none⟩) n c), (· = .int .i64 (i)), (· = .pointer (some ⟨g, i, none⟩)), isU, (· = .pointer (some ⟨g, i, none⟩)), fun _ => True, (· = .pointer (some ⟨g, p, none⟩)), fun _ => True] ?_ ?_
                · intro ix q hio vals W hC haf
                  obtain ⟨x0, q0, hx0⟩ := hC.2.cell (i) (by omega)
                  have f0 := hC.2.frozen (i)
                  have t0 : isU (.int .u16 x0) := isU_mk _ hx0
                  obtain ⟨x1, q1, hx1⟩ := hC.2.cell (p) (by omega)
                  have f1 := hC.2.frozen (p)
                  have t1 : isU (.int .u16 x1) := isU_mk _ hx1
                  have r0 : IntKind.i64.wrap ((i : Int) - 1) = (p : Int) := by first | omega | exact IntWalk.i64_in _ (by omega) | exact (IntWalk.i64_in _ (by omega)).trans (by omega) | go_num
                  have r1 : i < n := by first | omega | exact IntWalk.i64_in _ (by omega) | exact (IntWalk.i64_in _ (by omega)).trans (by omega) | go_num
                  have r2 : p < n := by first | omega | exact IntWalk.i64_in _ (by omega) | exact (IntWalk.i64_in _ (by omega)).trans (by omega) | go_num
                  rcases ix with _ | _ | _ | _ | _ | _ | _ | _ | _ | _ | _ | _ | _ | _ | _ | _ | _ | _ | ix
                  · simp at hio; subst hio; simp [bindD, rdB, Region.binds] at haf; simp [opYield_def, yieldUpon, yielded, relAct, dstAt, Act.put, Region.wanted, go_sem, hC, isU_mk, isB_mk, *]
                  · simp at hio; subst hio; simp [bindD, rdB, Region.binds] at haf; simp [opYield_def, yieldUpon, yielded, relAct, dstAt, Act.put, Region.wanted, go_sem, hC, isU_mk, isB_mk, *]
                  · simp at hio; subst hio; simp [bindD, rdB, Region.binds] at haf; simp [opYield_def, yieldUpon, yielded, relAct, dstAt, Act.put, Region.wanted, go_sem, hC, isU_mk, isB_mk, *]
                  · simp at hio; subst hio; simp [bindD, rdB, Region.binds] at haf; simp [opYield_def, yieldUpon, yielded, relAct, dstAt, Act.put, Region.wanted, go_sem, hC, isU_mk, isB_mk, *]
                  · simp at hio; subst hio; simp [bindD, rdB, Region.binds] at haf; simp [opYield_def, yieldUpon, yielded, relAct, dstAt, Act.put, Region.wanted, go_sem, hC, isU_mk, isB_mk, *]
                  · simp at hio; subst hio; simp [bindD, rdB, Region.binds] at haf; simp [opYield_def, yieldUpon, yielded, relAct, dstAt, Act.put, Region.wanted, go_sem, hC, isU_mk, isB_mk, *]
                  · simp at hio; subst hio; simp [bindD, rdB, Region.binds] at haf; simp [opYield_def, yieldUpon, yielded, relAct, dstAt, Act.put, Region.wanted, go_sem, hC, isU_mk, isB_mk, *]
                  · simp at hio; subst hio; simp [bindD, rdB, Region.binds] at haf; simp [opYield_def, yieldUpon, yielded, relAct, dstAt, Act.put, Region.wanted, go_sem, hC, isU_mk, isB_mk, *]
                  · simp at hio; subst hio; simp [bindD, rdB, Region.binds] at haf; simp [opYield_def, yieldUpon, yielded, relAct, dstAt, Act.put, Region.wanted, go_sem, hC, isU_mk, isB_mk, *]
                  · simp at hio; subst hio; simp [bindD, rdB, Region.binds] at haf; simp [opYield_def, yieldUpon, yielded, relAct, dstAt, Act.put, Region.wanted, go_sem, hC, isU_mk, isB_mk, *]
                  · simp at hio; subst hio; simp [bindD, rdB, Region.binds] at haf; simp [opYield_def, yieldUpon, yielded, relAct, dstAt, Act.put, Region.wanted, go_sem, hC, isU_mk, isB_mk, *]
                  · simp at hio; subst hio; simp [bindD, rdB, Region.binds] at haf; simp [opYield_def, yieldUpon, yielded, relAct, dstAt, Act.put, Region.wanted, go_sem, hC, isU_mk, isB_mk, *]
                  · simp at hio; subst hio; simp [bindD, rdB, Region.binds] at haf; simp [opYield_def, yieldUpon, yielded, relAct, dstAt, Act.put, Region.wanted, go_sem, hC, isU_mk, isB_mk, *]
                  · simp at hio; subst hio; simp [bindD, rdB, Region.binds] at haf; simp [opYield_def, yieldUpon, yielded, relAct, dstAt, Act.put, Region.wanted, go_sem, hC, isU_mk, isB_mk, *]
                  · simp at hio; subst hio; simp [bindD, rdB, Region.binds] at haf; simp [opYield_def, yieldUpon, yielded, relAct, dstAt, Act.put, Region.wanted, go_sem, hC, isU_mk, isB_mk, *]
                  · simp at hio; subst hio; simp [bindD, rdB, Region.binds] at haf; first | (obtain ⟨e1, y2, e2, l2⟩ := haf; simp [opYield_def, yieldUpon, yielded, relAct, dstAt, Act.put, Region.wanted, go_sem, hC, isU_mk, isB_mk, *]; exact hC.set _ _ l2) | (obtain ⟨⟨y2, e2, l2⟩, e1⟩ := haf; simp [opYield_def, yieldUpon, yielded, relAct, dstAt, Act.put, Region.wanted, go_sem, hC, isU_mk, isB_mk, *]; exact hC.set _ _ l2)
                  · simp at hio; subst hio; simp [bindD, rdB, Region.binds] at haf; simp [opYield_def, yieldUpon, yielded, relAct, dstAt, Act.put, Region.wanted, go_sem, hC, isU_mk, isB_mk, *]
                  · simp at hio; subst hio; simp [bindD, rdB, Region.binds] at haf; first | (obtain ⟨e1, y2, e2, l2⟩ := haf; simp [opYield_def, yieldUpon, yielded, relAct, dstAt, Act.put, Region.wanted, go_sem, hC, isU_mk, isB_mk, *]; exact hC.set _ _ l2) | (obtain ⟨⟨y2, e2, l2⟩, e1⟩ := haf; simp [opYield_def, yieldUpon, yielded, relAct, dstAt, Act.put, Region.wanted, go_sem, hC, isU_mk, isB_mk, *]; exact hC.set _ _ l2)
                  · exfalso; simp at hio
                · intro vals W ac hC hF hac
                  simp [relAct, dstAt, Act.put] at hac
                  subst hac
                  clear hF
                  have hwD := hC.drew
                  clear hwD
                  have hw5 := hC
                  by_cases hia : 2 ≤ i - a
                  · have hia2 : 2 ≤ (i : Int) - (a : Int) := by omega
                    go_wp2_with fail
                    have ep : (i : Int) - 1 = (p : Int) := by omega
                    rw [ep]
                    clear ep
                    go_loopw [9] (IdxR 0 p w g n) (fun j _ => (intOf j).toNat)
                    case atStart => exact ⟨p, rfl, by omega, by omega, hw5⟩
                    case round =>
                      obtain ⟨k, rfl, hk1, hk2, hw3⟩ := hrel
                      have hwD := hw3.drew
                      by_cases hkp : 1 ≤ k
                      · go_upto_region 16 with fail
                        obtain ⟨d, hd⟩ : ∃ d : Nat, d + 1 ≤ k ∧ k ≤ d + 1 := ⟨k - 1, by omega⟩
                        refine wp_region_c mixed0 (by kernel_rfl) (CW w g n) hwD [(· = .slice (some ⟨g, 0, none⟩) n c), (· = .int .i64 (k)), (· = .pointer (some ⟨g, k, none⟩)), isU, (· = .slice (some ⟨g, 0, none⟩) n c), (· = .int .i64 (k)), (· = .int .i64 (d)), (· = .pointer (some ⟨g, d, none⟩)), isU, isB, isB] ?_ ?_
                        · intro ix q hio vals W hC haf
                          obtain ⟨x0, q0, hx0⟩ := hC.2.cell (k) (by omega)
                          have f0 := hC.2.frozen (k)
                          have t0 : isU (.int .u16 x0) := isU_mk _ hx0
                          obtain ⟨x1, q1, hx1⟩ := hC.2.cell (d) (by omega)
                          have f1 := hC.2.frozen (d)
                          have t1 : isU (.int .u16 x1) := isU_mk _ hx1
                          have r0 : IntKind.i64.wrap ((k : Int) - 1) = (d : Int) := by first | omega | exact IntWalk.i64_in _ (by omega) | exact (IntWalk.i64_in _ (by omega)).trans (by omega) | go_num
                          have r1 : k < n := by first | omega | exact IntWalk.i64_in _ (by omega) | exact (IntWalk.i64_in _ (by omega)).trans (by omega) | go_num
                          have r2 : d < n := by first | omega | exact IntWalk.i64_in _ (by omega) | exact (IntWalk.i64_in _ (by omega)).trans (by omega) | go_num
                          rcases ix with _ | _ | _ | _ | _ | _ | _ | _ | _ | _ | _ | ix
                          · simp at hio; subst hio; simp [bindD, rdB, Region.binds] at haf; simp [opYield_def, yieldUpon, yielded, relAct, dstAt, Act.put, Region.wanted, go_sem, hC, isU_mk, isB_mk, *]
                          · simp at hio; subst hio; simp [bindD, rdB, Region.binds] at haf; simp [opYield_def, yieldUpon, yielded, relAct, dstAt, Act.put, Region.wanted, go_sem, hC, isU_mk, isB_mk, *]
                          · simp at hio; subst hio; simp [bindD, rdB, Region.binds] at haf; simp [opYield_def, yieldUpon, yielded, relAct, dstAt, Act.put, Region.wanted, go_sem, hC, isU_mk, isB_mk, *]
                          · simp at hio; subst hio; simp [bindD, rdB, Region.binds] at haf; simp [opYield_def, yieldUpon, yielded, relAct, dstAt, Act.put, Region.wanted, go_sem, hC, isU_mk, isB_mk, *]
                          · simp at hio; subst hio; simp [bindD, rdB, Region.binds] at haf; simp [opYield_def, yieldUpon, yielded, relAct, dstAt, Act.put, Region.wanted, go_sem, hC, isU_mk, isB_mk, *]
                          · simp at hio; subst hio; simp [bindD, rdB, Region.binds] at haf; simp [opYield_def, yieldUpon, yielded, relAct, dstAt, Act.put, Region.wanted, go_sem, hC, isU_mk, isB_mk, *]
                          · simp at hio; subst hio; simp [bindD, rdB, Region.binds] at haf; simp [opYield_def, yieldUpon, yielded, relAct, dstAt, Act.put, Region.wanted, go_sem, hC, isU_mk, isB_mk, *]
                          · simp at hio; subst hio; simp [bindD, rdB, Region.binds] at haf; simp [opYield_def, yieldUpon, yielded, relAct, dstAt, Act.put, Region.wanted, go_sem, hC, isU_mk, isB_mk, *]
                          · simp at hio; subst hio; simp [bindD, rdB, Region.binds] at haf; simp [opYield_def, yieldUpon, yielded, relAct, dstAt, Act.put, Region.wanted, go_sem, hC, isU_mk, isB_mk, *]
                          · simp at hio; subst hio; simp [bindD, rdB, Region.binds] at haf; first | (obtain ⟨⟨y1, e1, l1⟩, ⟨y2, e2, l2⟩, e3⟩ := haf; simp [opYield_def, yieldUpon, yielded, relAct, dstAt, Act.put, Region.wanted, go_sem, hC, isU_mk, isB_mk, *]; exact (less16 y1 y2 W).mono fun e w' ⟨h1, h2⟩ => ⟨_, h1, by rw [h2]; exact hC, _, rfl⟩) | (obtain ⟨⟨y1, e1, l1⟩, ⟨y2, e2, l2⟩⟩ := haf; simp [opYield_def, yieldUpon, yielded, relAct, dstAt, Act.put, Region.wanted, go_sem, hC, isU_mk, isB_mk, *]; exact (less16 y1 y2 W).mono fun e w' ⟨h1, h2⟩ => ⟨_, h1, by rw [h2]; exact hC, _, rfl⟩)
                          · simp at hio; subst hio; simp [bindD, rdB, Region.binds] at haf; first | (simp [opYield_def, yieldUpon, yielded, relAct, dstAt, Act.put, Region.wanted, go_sem, hC, isU_mk, isB_mk, *]; done) | (obtain ⟨y, e1⟩ := haf; simp [opYield_def, yieldUpon, yielded, relAct, dstAt, Act.put, Region.wanted, go_sem, hC, isU_mk, isB_mk, *]; done) | (obtain ⟨⟨y, e1⟩, e2⟩ := haf; simp [opYield_def, yieldUpon, yielded, relAct, dstAt, Act.put, Region.wanted, go_sem, hC, isU_mk, isB_mk, *]; done) | (obtain ⟨e2, ⟨y, e1⟩⟩ := haf; simp [opYield_def, yieldUpon, yielded, relAct, dstAt, Act.put, Region.wanted, go_sem, hC, isU_mk, isB_mk, *]; done)
                          · exfalso; simp at hio
                        · intro vals W ac hC hF hac
                          obtain ⟨o, ho⟩ : isB (vals 10) := hF 10 (by show 10 < 11; omega)
                          simp [relAct, dstAt, Act.put] at hac
                          rw [ho] at hac
                          subst hac
                          clear hF
                          have hwD := hC.drew
                          cases o
                          · go_upto_region 17 with fail
                            refine wp_region_c mixed0 (by kernel_rfl) (CW w g n) hwD [(· = .slice (some ⟨g, 0, none⟩) n c), (· = .int .i64 (k)), (· = .slice (some ⟨g, 0, none⟩) n c), (· = .int .i64 (k)), (· = .int .i64 (d)), (· = .slice (some ⟨g, 0, none⟩) n c), (· = .int .i64 (k)), (· = .int .i64 (d)), (· = .pointer (some ⟨g, d, none⟩)), isU, (· = .slice (some ⟨g, 0, none⟩) n c), (· = .int .i64 (k)), (· = .pointer (some ⟨g, k, none⟩)), isU, (· = .pointer (some ⟨g, k, none⟩)), fun _ => True, (· = .pointer (some ⟨g, d, none⟩)), fun _ => True] ?_ ?_
                            · intro ix q hio vals W hC haf
                              obtain ⟨x0, q0, hx0⟩ := hC.2.cell (k) (by omega)
                              have f0 := hC.2.frozen (k)
                              have t0 : isU (.int .u16 x0) := isU_mk _ hx0
                              obtain ⟨x1, q1, hx1⟩ := hC.2.cell (d) (by omega)
                              have f1 := hC.2.frozen (d)
                              have t1 : isU (.int .u16 x1) := isU_mk _ hx1
                              have r0 : IntKind.i64.wrap ((k : Int) - 1) = (d : Int) := by first | omega | exact IntWalk.i64_in _ (by omega) | exact (IntWalk.i64_in _ (by omega)).trans (by omega) | go_num
                              have r1 : k < n := by first | omega | exact IntWalk.i64_in _ (by omega) | exact (IntWalk.i64_in _ (by omega)).trans (by omega) | go_num
                              have r2 : d < n := by first | omega | exact IntWalk.i64_in _ (by omega) | exact (IntWalk.i64_in _ (by omega)).trans (by omega) | go_num
                              rcases ix with _ | _ | _ | _ | _ | _ | _ | _ | _ | _ | _ | _ | _ | _ | _ | _ | _ | _ | ix
                              · simp at hio; subst hio; simp [bindD, rdB, Region.binds] at haf; simp [opYield_def, yieldUpon, yielded, relAct, dstAt, Act.put, Region.wanted, go_sem, hC, isU_mk, isB_mk, *]
                              · simp at hio; subst hio; simp [bindD, rdB, Region.binds] at haf; simp [opYield_def, yieldUpon, yielded, relAct, dstAt, Act.put, Region.wanted, go_sem, hC, isU_mk, isB_mk, *]
                              · simp at hio; subst hio; simp [bindD, rdB, Region.binds] at haf; simp [opYield_def, yieldUpon, yielded, relAct, dstAt, Act.put, Region.wanted, go_sem, hC, isU_mk, isB_mk, *]
                              · simp at hio; subst hio; simp [bindD, rdB, Region.binds] at haf; simp [opYield_def, yieldUpon, yielded, relAct, dstAt, Act.put, Region.wanted, go_sem, hC, isU_mk, isB_mk, *]
                              · simp at hio; subst hio; simp [bindD, rdB, Region.binds] at haf; simp [opYield_def, yieldUpon, yielded, relAct, dstAt, Act.put, Region.wanted, go_sem, hC, isU_mk, isB_mk, *]
                              · simp at hio; subst hio; simp [bindD, rdB, Region.binds] at haf; simp [opYield_def, yieldUpon, yielded, relAct, dstAt, Act.put, Region.wanted, go_sem, hC, isU_mk, isB_mk, *]
                              · simp at hio; subst hio; simp [bindD, rdB, Region.binds] at haf; simp [opYield_def, yieldUpon, yielded, relAct, dstAt, Act.put, Region.wanted, go_sem, hC, isU_mk, isB_mk, *]
                              · simp at hio; subst hio; simp [bindD, rdB, Region.binds] at haf; simp [opYield_def, yieldUpon, yielded, relAct, dstAt, Act.put, Region.wanted, go_sem, hC, isU_mk, isB_mk, *]
                              · simp at hio; subst hio; simp [bindD, rdB, Region.binds] at haf; simp [opYield_def, yieldUpon, yielded, relAct, dstAt, Act.put, Region.wanted, go_sem, hC, isU_mk, isB_mk, *]
                              · simp at hio; subst hio; simp [bindD, rdB, Region.binds] at haf; simp [opYield_def, yieldUpon, yielded, relAct, dstAt, Act.put, Region.wanted, go_sem, hC, isU_mk, isB_mk, *]
                              · simp at hio; subst hio; simp [bindD, rdB, Region.binds] at haf; simp [opYield_def, yieldUpon, yielded, relAct, dstAt, Act.put, Region.wanted, go_sem, hC, isU_mk, isB_mk, *]
                              · simp at hio; subst hio; simp [bindD, rdB, Region.binds] at haf; simp [opYield_def, yieldUpon, yielded, relAct, dstAt, Act.put, Region.wanted, go_sem, hC, isU_mk, isB_mk, *]
                              · simp at hio; subst hio; simp [bindD, rdB, Region.binds] at haf; simp [opYield_def, yieldUpon, yielded, relAct, dstAt, Act.put, Region.wanted, go_sem, hC, isU_mk, isB_mk, *]
                              · simp at hio; subst hio; simp [bindD, rdB, Region.binds] at haf; simp [opYield_def, yieldUpon, yielded, relAct, dstAt, Act.put, Region.wanted, go_sem, hC, isU_mk, isB_mk, *]
                              · simp at hio; subst hio; simp [bindD, rdB, Region.binds] at haf; simp [opYield_def, yieldUpon, yielded, relAct, dstAt, Act.put, Region.wanted, go_sem, hC, isU_mk, isB_mk, *]
                              · simp at hio; subst hio; simp [bindD, rdB, Region.binds] at haf; first | (obtain ⟨e1, y2, e2, l2⟩ := haf; simp [opYield_def, yieldUpon, yielded, relAct, dstAt, Act.put, Region.wanted, go_sem, hC, isU_mk, isB_mk, *]; exact hC.set _ _ l2) | (obtain ⟨⟨y2, e2, l2⟩, e1⟩ := haf; simp [opYield_def, yieldUpon, yielded, relAct, dstAt, Act.put, Region.wanted, go_sem, hC, isU_mk, isB_mk, *]; exact hC.set _ _ l2)
                              · simp at hio; subst hio; simp [bindD, rdB, Region.binds] at haf; simp [opYield_def, yieldUpon, yielded, relAct, dstAt, Act.put, Region.wanted, go_sem, hC, isU_mk, isB_mk, *]
                              · simp at hio; subst hio; simp [bindD, rdB, Region.binds] at haf; first | (obtain ⟨e1, y2, e2, l2⟩ := haf; simp [opYield_def, yieldUpon, yielded, relAct, dstAt, Act.put, Region.wanted, go_sem, hC, isU_mk, isB_mk, *]; exact hC.set _ _ l2) | (obtain ⟨⟨y2, e2, l2⟩, e1⟩ := haf; simp [opYield_def, yieldUpon, yielded, relAct, dstAt, Act.put, Region.wanted, go_sem, hC, isU_mk, isB_mk, *]; exact hC.set _ _ l2)
                              · exfalso; simp at hio
                            · intro vals W ac hC hF hac
                              simp [relAct, dstAt, Act.put] at hac
                              subst hac
                              clear hF
                              have hwD := hC.drew
                              go_wp2_with fail
                              exact ⟨⟨k - 1, by go_num, by omega, by omega, hC⟩, by simp [intOf]; omega⟩
                          · have hY := hC
                            by_cases hup : 2 ≤ b - i
                            · have hup2 : 2 ≤ (b : Int) - (i : Int) := by omega
                              go_wp2_with fail
                              go_loopw [10] (IdxR (i + 1) b w g n) (fun j _ => b - (intOf j).toNat)
                              case atStart => exact ⟨i + 1, by go_num, by omega, by omega, hY⟩
                              case round =>
                                obtain ⟨k, rfl, hk1, hk2, hw4⟩ := hrel
                                have hwD := hw4.drew
                                by_cases hkb : k < b
                                · go_upto_region 22 with fail
                                  obtain ⟨d, hd⟩ : ∃ d : Nat, d + 1 ≤ k ∧ k ≤ d + 1 := ⟨k - 1, by omega⟩
                                  refine wp_region_c mixed0 (by kernel_rfl) (CW w g n) hwD [(· = .slice (some ⟨g, 0, none⟩) n c), (· = .int .i64 (k)), (· = .pointer (some ⟨g, k, none⟩)), isU, (· = .slice (some ⟨g, 0, none⟩) n c), (· = .int .i64 (k)), (· = .int .i64 (d)), (· = .pointer (some ⟨g, d, none⟩)), isU, isB, isB] ?_ ?_
                                  · intro ix q hio vals W hC haf
                                    obtain ⟨x0, q0, hx0⟩ := hC.2.cell (k) (by omega)
                                    have f0 := hC.2.frozen (k)
                                    have t0 : isU (.int .u16 x0) := isU_mk _ hx0
                                    obtain ⟨x1, q1, hx1⟩ := hC.2.cell (d) (by omega)
                                    have f1 := hC.2.frozen (d)
                                    have t1 : isU (.int .u16 x1) := isU_mk _ hx1
                                    have r0 : IntKind.i64.wrap ((k : Int) - 1) = (d : Int) := by first | omega | exact IntWalk.i64_in _ (by omega) | exact (IntWalk.i64_in _ (by omega)).trans (by omega) | go_num
                                    have r1 : k < n := by first | omega | exact IntWalk.i64_in _ (by omega) | exact (IntWalk.i64_in _ (by omega)).trans (by omega) | go_num
                                    have r2 : d < n := by first | omega | exact IntWalk.i64_in _ (by omega) | exact (IntWalk.i64_in _ (by omega)).trans (by omega) | go_num
                                    rcases ix with _ | _ | _ | _ | _ | _ | _ | _ | _ | _ | _ | ix
                                    · simp at hio; subst hio; simp [bindD, rdB, Region.binds] at haf; simp [opYield_def, yieldUpon, yielded, relAct, dstAt, Act.put, Region.wanted, go_sem, hC, isU_mk, isB_mk, *]
                                    · simp at hio; subst hio; simp [bindD, rdB, Region.binds] at haf; simp [opYield_def, yieldUpon, yielded, relAct, dstAt, Act.put, Region.wanted, go_sem, hC, isU_mk, isB_mk, *]
                                    · simp at hio; subst hio; simp [bindD, rdB, Region.binds] at haf; simp [opYield_def, yieldUpon, yielded, relAct, dstAt, Act.put, Region.wanted, go_sem, hC, isU_mk, isB_mk, *]
                                    · simp at hio; subst hio; simp [bindD, rdB, Region.binds] at haf; simp [opYield_def, yieldUpon, yielded, relAct, dstAt, Act.put, Region.wanted, go_sem, hC, isU_mk, isB_mk, *]
                                    · simp at hio; subst hio; simp [bindD, rdB, Region.binds] at haf; simp [opYield_def, yieldUpon, yielded, relAct, dstAt, Act.put, Region.wanted, go_sem, hC, isU_mk, isB_mk, *]
                                    · simp at hio; subst hio; simp [bindD, rdB, Region.binds] at haf; simp [opYield_def, yieldUpon, yielded, relAct, dstAt, Act.put, Region.wanted, go_sem, hC, isU_mk, isB_mk, *]
                                    · simp at hio; subst hio; simp [bindD, rdB, Region.binds] at haf; simp [opYield_def, yieldUpon, yielded, relAct, dstAt, Act.put, Region.wanted, go_sem, hC, isU_mk, isB_mk, *]
                                    · simp at hio; subst hio; simp [bindD, rdB, Region.binds] at haf; simp [opYield_def, yieldUpon, yielded, relAct, dstAt, Act.put, Region.wanted, go_sem, hC, isU_mk, isB_mk, *]
                                    · simp at hio; subst hio; simp [bindD, rdB, Region.binds] at haf; simp [opYield_def, yieldUpon, yielded, relAct, dstAt, Act.put, Region.wanted, go_sem, hC, isU_mk, isB_mk, *]
                                    · simp at hio; subst hio; simp [bindD, rdB, Region.binds] at haf; first | (obtain ⟨⟨y1, e1, l1⟩, ⟨y2, e2, l2⟩, e3⟩ := haf; simp [opYield_def, yieldUpon, yielded, relAct, dstAt, Act.put, Region.wanted, go_sem, hC, isU_mk, isB_mk, *]; exact (less16 y1 y2 W).mono fun e w' ⟨h1, h2⟩ => ⟨_, h1, by rw [h2]; exact hC, _, rfl⟩) | (obtain ⟨⟨y1, e1, l1⟩, ⟨y2, e2, l2⟩⟩ := haf; simp [opYield_def, yieldUpon, yielded, relAct, dstAt, Act.put, Region.wanted, go_sem, hC, isU_mk, isB_mk, *]; exact (less16 y1 y2 W).mono fun e w' ⟨h1, h2⟩ => ⟨_, h1, by rw [h2]; exact hC, _, rfl⟩)
                                    · simp at hio; subst hio; simp [bindD, rdB, Region.binds] at haf; first | (simp [opYield_def, yieldUpon, yielded, relAct, dstAt, Act.put, Region.wanted, go_sem, hC, isU_mk, isB_mk, *]; done) | (obtain ⟨y, e1⟩ := haf; simp [opYield_def, yieldUpon, yielded, relAct, dstAt, Act.put, Region.wanted, go_sem, hC, isU_mk, isB_mk, *]; done) | (obtain ⟨⟨y, e1⟩, e2⟩ := haf; simp [opYield_def, yieldUpon, yielded, relAct, dstAt, Act.put, Region.wanted, go_sem, hC, isU_mk, isB_mk, *]; done) | (obtain ⟨e2, ⟨y, e1⟩⟩ := haf; simp [opYield_def, yieldUpon, yielded, relAct, dstAt, Act.put, Region.wanted, go_sem, hC, isU_mk, isB_mk, *]; done)
                                    · exfalso; simp at hio
                                  · intro vals W ac hC hF hac
                                    obtain ⟨o, ho⟩ : isB (vals 10) := hF 10 (by show 10 < 11; omega)
                                    simp [relAct, dstAt, Act.put] at hac
                                    rw [ho] at hac
                                    subst hac
                                    clear hF
                                    have hwD := hC.drew
                                    cases o
                                    · go_upto_region 23 with fail
                                      refine wp_region_c mixed0 (by kernel_rfl) (CW w g n) hwD [(· = .slice (some ⟨g, 0, none⟩) n c), (· = .int .i64 (k)), (· = .slice (some ⟨g, 0, none⟩) n c), (· = .int .i64 (k)), (· = .int .i64 (d)), (· = .slice (some ⟨g, 0, none⟩) n c), (· = .int .i64 (k)), (· = .int .i64 (d)), (· = .pointer (some ⟨g, d, none⟩)), isU, (· = .slice (some ⟨g, 0, none⟩) n c), (· = .int .i64 (k)), (· = .pointer (some ⟨g, k, none⟩)), isU, (· = .pointer (some ⟨g, k, none⟩)), fun _ => True, (· = .pointer (some ⟨g, d, none⟩)), fun _ => True] ?_ ?_
                                      · intro ix q hio vals W hC haf
                                        obtain ⟨x0, q0, hx0⟩ := hC.2.cell (k) (by omega)
                                        have f0 := hC.2.frozen (k)
                                        have t0 : isU (.int .u16 x0) := isU_mk _ hx0
                                        obtain ⟨x1, q1, hx1⟩ := hC.2.cell (d) (by omega)
                                        have f1 := hC.2.frozen (d)
                                        have t1 : isU (.int .u16 x1) := isU_mk _ hx1
                                        have r0 : IntKind.i64.wrap ((k : Int) - 1) = (d : Int) := by first | omega | exact IntWalk.i64_in _ (by omega) | exact (IntWalk.i64_in _ (by omega)).trans (by omega) | go_num
                                        have r1 : k < n := by first | omega | exact IntWalk.i64_in _ (by omega) | exact (IntWalk.i64_in _ (by omega)).trans (by omega) | go_num
                                        have r2 : d < n := by first | omega | exact IntWalk.i64_in _ (by omega) | exact (IntWalk.i64_in _ (by omega)).trans (by omega) | go_num
                                        rcases ix with _ | _ | _ | _ | _ | _ | _ | _ | _ | _ | _ | _ | _ | _ | _ | _ | _ | _ | ix
                                        · simp at hio; subst hio; simp [bindD, rdB, Region.binds] at haf; simp [opYield_def, yieldUpon, yielded, relAct, dstAt, Act.put, Region.wanted, go_sem, hC, isU_mk, isB_mk, *]
                                        · simp at hio; subst hio; simp [bindD, rdB, Region.binds] at haf; simp [opYield_def, yieldUpon, yielded, relAct, dstAt, Act.put, Region.wanted, go_sem, hC, isU_mk, isB_mk, *]
                                        · simp at hio; subst hio; simp [bindD, rdB, Region.binds] at haf; simp [opYield_def, yieldUpon, yielded, relAct, dstAt, Act.put, Region.wanted, go_sem, hC, isU_mk, isB_mk, *]
                                        · simp at hio; subst hio; simp [bindD, rdB, Region.binds] at haf; simp [opYield_def, yieldUpon, yielded, relAct, dstAt, Act.put, Region.wanted, go_sem, hC, isU_mk, isB_mk, *]
                                        · simp at hio; subst hio; simp [bindD, rdB, Region.binds] at haf; simp [opYield_def, yieldUpon, yielded, relAct, dstAt, Act.put, Region.wanted, go_sem, hC, isU_mk, isB_mk, *]
                                        · simp at hio; subst hio; simp [bindD, rdB, Region.binds] at haf; simp [opYield_def, yieldUpon, yielded, relAct, dstAt, Act.put, Region.wanted, go_sem, hC, isU_mk, isB_mk, *]
                                        · simp at hio; subst hio; simp [bindD, rdB, Region.binds] at haf; simp [opYield_def, yieldUpon, yielded, relAct, dstAt, Act.put, Region.wanted, go_sem, hC, isU_mk, isB_mk, *]
                                        · simp at hio; subst hio; simp [bindD, rdB, Region.binds] at haf; simp [opYield_def, yieldUpon, yielded, relAct, dstAt, Act.put, Region.wanted, go_sem, hC, isU_mk, isB_mk, *]
                                        · simp at hio; subst hio; simp [bindD, rdB, Region.binds] at haf; simp [opYield_def, yieldUpon, yielded, relAct, dstAt, Act.put, Region.wanted, go_sem, hC, isU_mk, isB_mk, *]
                                        · simp at hio; subst hio; simp [bindD, rdB, Region.binds] at haf; simp [opYield_def, yieldUpon, yielded, relAct, dstAt, Act.put, Region.wanted, go_sem, hC, isU_mk, isB_mk, *]
                                        · simp at hio; subst hio; simp [bindD, rdB, Region.binds] at haf; simp [opYield_def, yieldUpon, yielded, relAct, dstAt, Act.put, Region.wanted, go_sem, hC, isU_mk, isB_mk, *]
                                        · simp at hio; subst hio; simp [bindD, rdB, Region.binds] at haf; simp [opYield_def, yieldUpon, yielded, relAct, dstAt, Act.put, Region.wanted, go_sem, hC, isU_mk, isB_mk, *]
                                        · simp at hio; subst hio; simp [bindD, rdB, Region.binds] at haf; simp [opYield_def, yieldUpon, yielded, relAct, dstAt, Act.put, Region.wanted, go_sem, hC, isU_mk, isB_mk, *]
                                        · simp at hio; subst hio; simp [bindD, rdB, Region.binds] at haf; simp [opYield_def, yieldUpon, yielded, relAct, dstAt, Act.put, Region.wanted, go_sem, hC, isU_mk, isB_mk, *]
                                        · simp at hio; subst hio; simp [bindD, rdB, Region.binds] at haf; simp [opYield_def, yieldUpon, yielded, relAct, dstAt, Act.put, Region.wanted, go_sem, hC, isU_mk, isB_mk, *]
                                        · simp at hio; subst hio; simp [bindD, rdB, Region.binds] at haf; first | (obtain ⟨e1, y2, e2, l2⟩ := haf; simp [opYield_def, yieldUpon, yielded, relAct, dstAt, Act.put, Region.wanted, go_sem, hC, isU_mk, isB_mk, *]; exact hC.set _ _ l2) | (obtain ⟨⟨y2, e2, l2⟩, e1⟩ := haf; simp [opYield_def, yieldUpon, yielded, relAct, dstAt, Act.put, Region.wanted, go_sem, hC, isU_mk, isB_mk, *]; exact hC.set _ _ l2)
                                        · simp at hio; subst hio; simp [bindD, rdB, Region.binds] at haf; simp [opYield_def, yieldUpon, yielded, relAct, dstAt, Act.put, Region.wanted, go_sem, hC, isU_mk, isB_mk, *]
                                        · simp at hio; subst hio; simp [bindD, rdB, Region.binds] at haf; first | (obtain ⟨e1, y2, e2, l2⟩ := haf; simp [opYield_def, yieldUpon, yielded, relAct, dstAt, Act.put, Region.wanted, go_sem, hC, isU_mk, isB_mk, *]; exact hC.set _ _ l2) | (obtain ⟨⟨y2, e2, l2⟩, e1⟩ := haf; simp [opYield_def, yieldUpon, yielded, relAct, dstAt, Act.put, Region.wanted, go_sem, hC, isU_mk, isB_mk, *]; exact hC.set _ _ l2)
                                        · exfalso; simp at hio
                                      · intro vals W ac hC hF hac
                                        simp [relAct, dstAt, Act.put] at hac
                                        subst hac
                                        clear hF
                                        have hwD := hC.drew
                                        go_wp2_with fail
                                        exact ⟨⟨k + 1, by go_num, by omega, by omega, hC⟩, by simp [intOf]; omega⟩
                                    · have hZ := hC
                                      go_wp2_with fail
                                      exact ⟨⟨i, s + 1, rfl, by go_num, by omega, by omega, by omega, hZ⟩, by simp [intOf]; omega⟩
                                · have hZ := hw4
                                  go_wp2_with fail
                                  exact ⟨⟨i, s + 1, rfl, by go_num, by omega, by omega, by omega, hZ⟩, by simp [intOf]; omega⟩
                            · have hup2 : ¬ 2 ≤ (b : Int) - (i : Int) := by omega
                              go_wp2_with fail
                              exact ⟨⟨i, s + 1, rfl, by go_num, by omega, by omega, by omega, hY⟩, by simp [intOf]; omega⟩
                      · have hY := hw3
                        by_cases hup : 2 ≤ b - i
                        · have hup2 : 2 ≤ (b : Int) - (i : Int) := by omega
                          go_wp2_with fail
                          go_loopw [10] (IdxR (i + 1) b w g n) (fun j _ => b - (intOf j).toNat)
                          case atStart => exact ⟨i + 1, by go_num, by omega, by omega, hY⟩
                          case round =>
                            obtain ⟨k, rfl, hk1, hk2, hw4⟩ := hrel
                            have hwD := hw4.drew
                            by_cases hkb : k < b
                            · go_upto_region 22 with fail
                              obtain ⟨d, hd⟩ : ∃ d : Nat, d + 1 ≤ k ∧ k ≤ d + 1 := ⟨k - 1, by omega⟩
                              refine wp_region_c mixed0 (by kernel_rfl) (CW w g n) hwD [(· = .slice (some ⟨g, 0, none⟩) n c), (· = .int .i64 (k)), (· = .pointer (some ⟨g, k, none⟩)), isU, (· = .slice (some ⟨g, 0, none⟩) n c), (· = .int .i64 (k)), (· = .int .i64 (d)), (· = .pointer (some ⟨g, d, none⟩)), isU, isB, isB] ?_ ?_
                              · intro ix q hio vals W hC haf
                                obtain ⟨x0, q0, hx0⟩ := hC.2.cell (k) (by omega)
                                have f0 := hC.2.frozen (k)
                                have t0 : isU (.int .u16 x0) := isU_mk _ hx0
                                obtain ⟨x1, q1, hx1⟩ := hC.2.cell (d) (by omega)
                                have f1 := hC.2.frozen (d)
                                have t1 : isU (.int .u16 x1) := isU_mk _ hx1
                                have r0 : IntKind.i64.wrap ((k : Int) - 1) = (d : Int) := by first | omega | exact IntWalk.i64_in _ (by omega) | exact (IntWalk.i64_in _ (by omega)).trans (by omega) | go_num
                                have r1 : k < n := by first | omega | exact IntWalk.i64_in _ (by omega) | exact (IntWalk.i64_in _ (by omega)).trans (by omega) | go_num
                                have r2 : d < n := by first | omega | exact IntWalk.i64_in _ (by omega) | exact (IntWalk.i64_in _ (by omega)).trans (by omega) | go_num
                                rcases ix with _ | _ | _ | _ | _ | _ | _ | _ | _ | _ | _ | ix
                                · simp at hio; subst hio; simp [bindD, rdB, Region.binds] at haf; simp [opYield_def, yieldUpon, yielded, relAct, dstAt, Act.put, Region.wanted, go_sem, hC, isU_mk, isB_mk, *]
                                · simp at hio; subst hio; simp [bindD, rdB, Region.binds] at haf; simp [opYield_def, yieldUpon, yielded, relAct, dstAt, Act.put, Region.wanted, go_sem, hC, isU_mk, isB_mk, *]
                                · simp at hio; subst hio; simp [bindD, rdB, Region.binds] at haf; simp [opYield_def, yieldUpon, yielded, relAct, dstAt, Act.put, Region.wanted, go_sem, hC, isU_mk, isB_mk, *]
                                · simp at hio; subst hio; simp [bindD, rdB, Region.binds] at haf; simp [opYield_def, yieldUpon, yielded, relAct, dstAt, Act.put, Region.wanted, go_sem, hC, isU_mk, isB_mk, *]
                                · simp at hio; subst hio; simp [bindD, rdB, Region.binds] at haf; simp [opYield_def, yieldUpon, yielded, relAct, dstAt, Act.put, Region.wanted, go_sem, hC, isU_mk, isB_mk, *]
                                · simp at hio; subst hio; simp [bindD, rdB, Region.binds] at haf; simp [opYield_def, yieldUpon, yielded, relAct, dstAt, Act.put, Region.wanted, go_sem, hC, isU_mk, isB_mk, *]
                                · simp at hio; subst hio; simp [bindD, rdB, Region.binds] at haf; simp [opYield_def, yieldUpon, yielded, relAct, dstAt, Act.put, Region.wanted, go_sem, hC, isU_mk, isB_mk, *]
                                · simp at hio; subst hio; simp [bindD, rdB, Region.binds] at haf; simp [opYield_def, yieldUpon, yielded, relAct, dstAt, Act.put, Region.wanted, go_sem, hC, isU_mk, isB_mk, *]
                                · simp at hio; subst hio; simp [bindD, rdB, Region.binds] at haf; simp [opYield_def, yieldUpon, yielded, relAct, dstAt, Act.put, Region.wanted, go_sem, hC, isU_mk, isB_mk, *]
                                · simp at hio; subst hio; simp [bindD, rdB, Region.binds] at haf; first | (obtain ⟨⟨y1, e1, l1⟩, ⟨y2, e2, l2⟩, e3⟩ := haf; simp [opYield_def, yieldUpon, yielded, relAct, dstAt, Act.put, Region.wanted, go_sem, hC, isU_mk, isB_mk, *]; exact (less16 y1 y2 W).mono fun e w' ⟨h1, h2⟩ => ⟨_, h1, by rw [h2]; exact hC, _, rfl⟩) | (obtain ⟨⟨y1, e1, l1⟩, ⟨y2, e2, l2⟩⟩ := haf; simp [opYield_def, yieldUpon, yielded, relAct, dstAt, Act.put, Region.wanted, go_sem, hC, isU_mk, isB_mk, *]; exact (less16 y1 y2 W).mono fun e w' ⟨h1, h2⟩ => ⟨_, h1, by rw [h2]; exact hC, _, rfl⟩)
                                · simp at hio; subst hio; simp [bindD, rdB, Region.binds] at haf; first | (simp [opYield_def, yieldUpon, yielded, relAct, dstAt, Act.put, Region.wanted, go_sem, hC, isU_mk, isB_mk, *]; done) | (obtain ⟨y, e1⟩ := haf; simp [opYield_def, yieldUpon, yielded, relAct, dstAt, Act.put, Region.wanted, go_sem, hC, isU_mk, isB_mk, *]; done) | (obtain ⟨⟨y, e1⟩, e2⟩ := haf; simp [opYield_def, yieldUpon, yielded, relAct, dstAt, Act.put, Region.wanted, go_sem, hC, isU_mk, isB_mk, *]; done) | (obtain ⟨e2, ⟨y, e1⟩⟩ := haf; simp [opYield_def, yieldUpon, yielded, relAct, dstAt, Act.put, Region.wanted, go_sem, hC, isU_mk, isB_mk, *]; done)
                                · exfalso; simp at hio
                              · intro vals W ac hC hF hac
                                obtain ⟨o, ho⟩ : isB (vals 10) := hF 10 (by show 10 < 11; omega)
                                simp [relAct, dstAt, Act.put] at hac
                                rw [ho] at hac
                                subst hac
                                clear hF
                                have hwD := hC.drew
                                cases o
                                · go_upto_region 23 with fail
                                  refine wp_region_c mixed0 (by kernel_rfl) (CW w g n) hwD [(· = .slice (some ⟨g, 0, none⟩) n c), (· = .int .i64 (k)), (· = .slice (some ⟨g, 0, none⟩) n c), (· = .int .i64 (k)), (· = .int .i64 (d)), (· = .slice (some ⟨g, 0, none⟩) n c), (· = .int .i64 (k)), (· = .int .i64 (d)), (· = .pointer (some ⟨g, d, none⟩)), isU, (· = .slice (some ⟨g, 0, none⟩) n c), (· = .int .i64 (k)), (· = .pointer (some ⟨g, k, none⟩)), isU, (· = .pointer (some ⟨g, k, none⟩)), fun _ => True, (· = .pointer (some ⟨g, d, none⟩)), fun _ => True] ?_ ?_
                                  · intro ix q hio vals W hC haf
                                    obtain ⟨x0, q0, hx0⟩ := hC.2.cell (k) (by omega)
                                    have f0 := hC.2.frozen (k)
                                    have t0 : isU (.int .u16 x0) := isU_mk _ hx0
                                    obtain ⟨x1, q1, hx1⟩ := hC.2.cell (d) (by omega)
                                    have f1 := hC.2.frozen (d)
                                    have t1 : isU (.int .u16 x1) := isU_mk _ hx1
                                    have r0 : IntKind.i64.wrap ((k : Int) - 1) = (d : Int) := by first | omega | exact IntWalk.i64_in _ (by omega) | exact (IntWalk.i64_in _ (by omega)).trans (by omega) | go_num
                                    have r1 : k < n := by first | omega | exact IntWalk.i64_in _ (by omega) | exact (IntWalk.i64_in _ (by omega)).trans (by omega) | go_num
                                    have r2 : d < n := by first | omega | exact IntWalk.i64_in _ (by omega) | exact (IntWalk.i64_in _ (by omega)).trans (by omega) | go_num
                                    rcases ix with _ | _ | _ | _ | _ | _ | _ | _ | _ | _ | _ | _ | _ | _ | _ | _ | _ | _ | ix
                                    · simp at hio; subst hio; simp [bindD, rdB, Region.binds] at haf; simp [opYield_def, yieldUpon, yielded, relAct, dstAt, Act.put, Region.wanted, go_sem, hC, isU_mk, isB_mk, *]
                                    · simp at hio; subst hio; simp [bindD, rdB, Region.binds] at haf; simp [opYield_def, yieldUpon, yielded, relAct, dstAt, Act.put, Region.wanted, go_sem, hC, isU_mk, isB_mk, *]
                                    · simp at hio; subst hio; simp [bindD, rdB, Region.binds] at haf; simp [opYield_def, yieldUpon, yielded, relAct, dstAt, Act.put, Region.wanted, go_sem, hC, isU_mk, isB_mk, *]
                                    · simp at hio; subst hio; simp [bindD, rdB, Region.binds] at haf; simp [opYield_def, yieldUpon, yielded, relAct, dstAt, Act.put, Region.wanted, go_sem, hC, isU_mk, isB_mk, *]
                                    · simp at hio; subst hio; simp [bindD, rdB, Region.binds] at haf; simp [opYield_def, yieldUpon, yielded, relAct, dstAt, Act.put, Region.wanted, go_sem, hC, isU_mk, isB_mk, *]
                                    · simp at hio; subst hio; simp [bindD, rdB, Region.binds] at haf; simp [opYield_def, yieldUpon, yielded, relAct, dstAt, Act.put, Region.wanted, go_sem, hC, isU_mk, isB_mk, *]
                                    · simp at hio; subst hio; simp [bindD, rdB, Region.binds] at haf; simp [opYield_def, yieldUpon, yielded, relAct, dstAt, Act.put, Region.wanted, go_sem, hC, isU_mk, isB_mk, *]
                                    · simp at hio; subst hio; simp [bindD, rdB, Region.binds] at haf; simp [opYield_def, yieldUpon, yielded, relAct, dstAt, Act.put, Region.wanted, go_sem, hC, isU_mk, isB_mk, *]
                                    · simp at hio; subst hio; simp [bindD, rdB, Region.binds] at haf; simp [opYield_def, yieldUpon, yielded, relAct, dstAt, Act.put, Region.wanted, go_sem, hC, isU_mk, isB_mk, *]
                                    · simp at hio; subst hio; simp [bindD, rdB, Region.binds] at haf; simp [opYield_def, yieldUpon, yielded, relAct, dstAt, Act.put, Region.wanted, go_sem, hC, isU_mk, isB_mk, *]
                                    · simp at hio; subst hio; simp [bindD, rdB, Region.binds] at haf; simp [opYield_def, yieldUpon, yielded, relAct, dstAt, Act.put, Region.wanted, go_sem, hC, isU_mk, isB_mk, *]
                                    · simp at hio; subst hio; simp [bindD, rdB, Region.binds] at haf; simp [opYield_def, yieldUpon, yielded, relAct, dstAt, Act.put, Region.wanted, go_sem, hC, isU_mk, isB_mk, *]
                                    · simp at hio; subst hio; simp [bindD, rdB, Region.binds] at haf; simp [opYield_def, yieldUpon, yielded, relAct, dstAt, Act.put, Region.wanted, go_sem, hC, isU_mk, isB_mk, *]
                                    · simp at hio; subst hio; simp [bindD, rdB, Region.binds] at haf; simp [opYield_def, yieldUpon, yielded, relAct, dstAt, Act.put, Region.wanted, go_sem, hC, isU_mk, isB_mk, *]
                                    · simp at hio; subst hio; simp [bindD, rdB, Region.binds] at haf; simp [opYield_def, yieldUpon, yielded, relAct, dstAt, Act.put, Region.wanted, go_sem, hC, isU_mk, isB_mk, *]
                                    · simp at hio; subst hio; simp [bindD, rdB, Region.binds] at haf; first | (obtain ⟨e1, y2, e2, l2⟩ := haf; simp [opYield_def, yieldUpon, yielded, relAct, dstAt, Act.put, Region.wanted, go_sem, hC, isU_mk, isB_mk, *]; exact hC.set _ _ l2) | (obtain ⟨⟨y2, e2, l2⟩, e1⟩ := haf; simp [opYield_def, yieldUpon, yielded, relAct, dstAt, Act.put, Region.wanted, go_sem, hC, isU_mk, isB_mk, *]; exact hC.set _ _ l2)
                                    · simp at hio; subst hio; simp [bindD, rdB, Region.binds] at haf; simp [opYield_def, yieldUpon, yielded, relAct, dstAt, Act.put, Region.wanted, go_sem, hC, isU_mk, isB_mk, *]
                                    · simp at hio; subst hio; simp [bindD, rdB, Region.binds] at haf; first | (obtain ⟨e1, y2, e2, l2⟩ := haf; simp [opYield_def, yieldUpon, yielded, relAct, dstAt, Act.put, Region.wanted, go_sem, hC, isU_mk, isB_mk, *]; exact hC.set _ _ l2) | (obtain ⟨⟨y2, e2, l2⟩, e1⟩ := haf; simp [opYield_def, yieldUpon, yielded, relAct, dstAt, Act.put, Region.wanted, go_sem, hC, isU_mk, isB_mk, *]; exact hC.set _ _ l2)
                                    · exfalso; simp at hio
                                  · intro vals W ac hC hF hac
                                    simp [relAct, dstAt, Act.put] at hac
                                    subst hac
                                    clear hF
                                    have hwD := hC.drew
                                    go_wp2_with fail
                                    exact ⟨⟨k + 1, by go_num, by omega, by omega, hC⟩, by simp [intOf]; omega⟩
                                · have hZ := hC
                                  go_wp2_with fail
                                  exact ⟨⟨i, s + 1, rfl, by go_num, by omega, by omega, by omega, hZ⟩, by simp [intOf]; omega⟩
                            · have hZ := hw4
                              go_wp2_with fail
                              exact ⟨⟨i, s + 1, rfl, by go_num, by omega, by omega, by omega, hZ⟩, by simp [intOf]; omega⟩
                        · have hup2 : ¬ 2 ≤ (b : Int) - (i : Int) := by omega
                          go_wp2_with fail
                          exact ⟨⟨i, s + 1, rfl, by go_num, by omega, by omega, by omega, hY⟩, by simp [intOf]; omega⟩
                  · have hia2 : ¬ 2 ≤ (i : Int) - (a : Int) := by omega
                    have hY := hw5
                    by_cases hup : 2 ≤ b - i
                    · have hup2 : 2 ≤ (b : Int) - (i : Int) := by omega
                      go_wp2_with fail
                      go_loopw [10] (IdxR (i + 1) b w g n) (fun j _ => b - (intOf j).toNat)
                      case atStart => exact ⟨i + 1, by go_num, by omega, by omega, hY⟩
                      case round =>
                        obtain ⟨k, rfl, hk1, hk2, hw4⟩ := hrel
                        have hwD := hw4.drew
                        by_cases hkb : k < b
                        · go_upto_region 22 with fail
                          obtain ⟨d, hd⟩ : ∃ d : Nat, d + 1 ≤ k ∧ k ≤ d + 1 := ⟨k - 1, by omega⟩
                          refine wp_region_c mixed0 (by kernel_rfl) (CW w g n) hwD [(· = .slice (some ⟨g, 0, none⟩) n c), (· = .int .i64 (k)), (· = .pointer (some ⟨g, k, none⟩)), isU, (· = .slice (some ⟨g, 0, none⟩) n c), (· = .int .i64 (k)), (· = .int .i64 (d)), (· = .pointer (some ⟨g, d, none⟩)), isU, isB, isB] ?_ ?_
                          · intro ix q hio vals W hC haf
                            obtain ⟨x0, q0, hx0⟩ := hC.2.cell (k) (by omega)
                            have f0 := hC.2.frozen (k)
                            have t0 : isU (.int .u16 x0) := isU_mk _ hx0
                            obtain ⟨x1, q1, hx1⟩ := hC.2.cell (d) (by omega)
                            have f1 := hC.2.frozen (d)
                            have t1 : isU (.int .u16 x1) := isU_mk _ hx1
                            have r0 : IntKind.i64.wrap ((k : Int) - 1) = (d : Int) := by first | omega | exact IntWalk.i64_in _ (by omega) | exact (IntWalk.i64_in _ (by omega)).trans (by omega) | go_num
                            have r1 : k < n := by first | omega | exact IntWalk.i64_in _ (by omega) | exact (IntWalk.i64_in _ (by omega)).trans (by omega) | go_num
                            have r2 : d < n := by first | omega | exact IntWalk.i64_in _ (by omega) | exact (IntWalk.i64_in _ (by omega)).trans (by omega) | go_num
                            rcases ix with _ | _ | _ | _ | _ | _ | _ | _ | _ | _ | _ | ix
                            · simp at hio; subst hio; simp [bindD, rdB, Region.binds] at haf; simp [opYield_def, yieldUpon, yielded, relAct, dstAt, Act.put, Region.wanted, go_sem, hC, isU_mk, isB_mk, *]
                            · simp at hio; subst hio; simp [bindD, rdB, Region.binds] at haf; simp [opYield_def, yieldUpon, yielded, relAct, dstAt, Act.put, Region.wanted, go_sem, hC, isU_mk, isB_mk, *]
                            · simp at hio; subst hio; simp [bindD, rdB, Region.binds] at haf; simp [opYield_def, yieldUpon, yielded, relAct, dstAt, Act.put, Region.wanted, go_sem, hC, isU_mk, isB_mk, *]
                            · simp at hio; subst hio; simp [bindD, rdB, Region.binds] at haf; simp [opYield_def, yieldUpon, yielded, relAct, dstAt, Act.put, Region.wanted, go_sem, hC, isU_mk, isB_mk, *]
                            · simp at hio; subst hio; simp [bindD, rdB, Region.binds] at haf; simp [opYield_def, yieldUpon, yielded, relAct, dstAt, Act.put, Region.wanted, go_sem, hC, isU_mk, isB_mk, *]
                            · simp at hio; subst hio; simp [bindD, rdB, Region.binds] at haf; simp [opYield_def, yieldUpon, yielded, relAct, dstAt, Act.put, Region.wanted, go_sem, hC, isU_mk, isB_mk, *]
                            · simp at hio; subst hio; simp [bindD, rdB, Region.binds] at haf; simp [opYield_def, yieldUpon, yielded, relAct, dstAt, Act.put, Region.wanted, go_sem, hC, isU_mk, isB_mk, *]
                            · simp at hio; subst hio; simp [bindD, rdB, Region.binds] at haf; simp [opYield_def, yieldUpon, yielded, relAct, dstAt, Act.put, Region.wanted, go_sem, hC, isU_mk, isB_mk, *]
                            · simp at hio; subst hio; simp [bindD, rdB, Region.binds] at haf; simp [opYield_def, yieldUpon, yielded, relAct, dstAt, Act.put, Region.wanted, go_sem, hC, isU_mk, isB_mk, *]
                            · simp at hio; subst hio; simp [bindD, rdB, Region.binds] at haf; first | (obtain ⟨⟨y1, e1, l1⟩, ⟨y2, e2, l2⟩, e3⟩ := haf; simp [opYield_def, yieldUpon, yielded, relAct, dstAt, Act.put, Region.wanted, go_sem, hC, isU_mk, isB_mk, *]; exact (less16 y1 y2 W).mono fun e w' ⟨h1, h2⟩ => ⟨_, h1, by rw [h2]; exact hC, _, rfl⟩) | (obtain ⟨⟨y1, e1, l1⟩, ⟨y2, e2, l2⟩⟩ := haf; simp [opYield_def, yieldUpon, yielded, relAct, dstAt, Act.put, Region.wanted, go_sem, hC, isU_mk, isB_mk, *]; exact (less16 y1 y2 W).mono fun e w' ⟨h1, h2⟩ => ⟨_, h1, by rw [h2]; exact hC, _, rfl⟩)
                            · simp at hio; subst hio; simp [bindD, rdB, Region.binds] at haf; first | (simp [opYield_def, yieldUpon, yielded, relAct, dstAt, Act.put, Region.wanted, go_sem, hC, isU_mk, isB_mk, *]; done) | (obtain ⟨y, e1⟩ := haf; simp [opYield_def, yieldUpon, yielded, relAct, dstAt, Act.put, Region.wanted, go_sem, hC, isU_mk, isB_mk, *]; done) | (obtain ⟨⟨y, e1⟩, e2⟩ := haf; simp [opYield_def, yieldUpon, yielded, relAct, dstAt, Act.put, Region.wanted, go_sem, hC, isU_mk, isB_mk, *]; done) | (obtain ⟨e2, ⟨y, e1⟩⟩ := haf; simp [opYield_def, yieldUpon, yielded, relAct, dstAt, Act.put, Region.wanted, go_sem, hC, isU_mk, isB_mk, *]; done)
                            · exfalso; simp at hio
                          · intro vals W ac hC hF hac
                            obtain ⟨o, ho⟩ : isB (vals 10) := hF 10 (by show 10 < 11; omega)
                            simp [relAct, dstAt, Act.put] at hac
                            rw [ho] at hac
                            subst hac
                            clear hF
                            have hwD := hC.drew
                            cases o
                            · go_upto_region 23 with fail
                              refine wp_region_c mixed0 (by kernel_rfl) (CW w g n) hwD [(· = .slice (some ⟨g, 0, none⟩) n c), (· = .int .i64 (k)), (· = .slice (some ⟨g, 0, none⟩) n c), (· = .int .i64 (k)), (· = .int .i64 (d)), (· = .slice (some ⟨g, 0, none⟩) n c), (· = .int .i64 (k)), (· = .int .i64 (d)), (· = .pointer (some ⟨g, d, none⟩)), isU, (· = .slice (some ⟨g, 0, none⟩) n c), (· = .int .i64 (k)), (· = .pointer (some ⟨g, k, none⟩)), isU, (· = .pointer (some ⟨g, k, none⟩)), fun _ => True, (· = .pointer (some ⟨g, d, none⟩)), fun _ => True] ?_ ?_
                              · intro ix q hio vals W hC haf
                                obtain ⟨x0, q0, hx0⟩ := hC.2.cell (k) (by omega)
                                have f0 := hC.2.frozen (k)
                                have t0 : isU (.int .u16 x0) := isU_mk _ hx0
                                obtain ⟨x1, q1, hx1⟩ := hC.2.cell (d) (by omega)
                                have f1 := hC.2.frozen (d)
                                have t1 : isU (.int .u16 x1) := isU_mk _ hx1
                                have r0 : IntKind.i64.wrap ((k : Int) - 1) = (d : Int) := by first | omega | exact IntWalk.i64_in _ (by omega) | exact (IntWalk.i64_in _ (by omega)).trans (by omega) | go_num
                                have r1 : k < n := by first | omega | exact IntWalk.i64_in _ (by omega) | exact (IntWalk.i64_in _ (by omega)).trans (by omega) | go_num
                                have r2 : d < n := by first | omega | exact IntWalk.i64_in _ (by omega) | exact (IntWalk.i64_in _ (by omega)).trans (by omega) | go_num
                                rcases ix with _ | _ | _ | _ | _ | _ | _ | _ | _ | _ | _ | _ | _ | _ | _ | _ | _ | _ | ix
                                · simp at hio; subst hio; simp [bindD, rdB, Region.binds] at haf; simp [opYield_def, yieldUpon, yielded, relAct, dstAt, Act.put, Region.wanted, go_sem, hC, isU_mk, isB_mk, *]
                                · simp at hio; subst hio; simp [bindD, rdB, Region.binds] at haf; simp [opYield_def, yieldUpon, yielded, relAct, dstAt, Act.put, Region.wanted, go_sem, hC, isU_mk, isB_mk, *]
                                · simp at hio; subst hio; simp [bindD, rdB, Region.binds] at haf; simp [opYield_def, yieldUpon, yielded, relAct, dstAt, Act.put, Region.wanted, go_sem, hC, isU_mk, isB_mk, *]
                                · simp at hio; subst hio; simp [bindD, rdB, Region.binds] at haf; simp [opYield_def, yieldUpon, yielded, relAct, dstAt, Act.put, Region.wanted, go_sem, hC, isU_mk, isB_mk, *]
                                · simp at hio; subst hio; simp [bindD, rdB, Region.binds] at haf; simp [opYield_def, yieldUpon, yielded, relAct, dstAt, Act.put, Region.wanted, go_sem, hC, isU_mk, isB_mk, *]
                                · simp at hio; subst hio; simp [bindD, rdB, Region.binds] at haf; simp [opYield_def, yieldUpon, yielded, relAct, dstAt, Act.put, Region.wanted, go_sem, hC, isU_mk, isB_mk, *]
                                · simp at hio; subst hio; simp [bindD, rdB, Region.binds] at haf; simp [opYield_def, yieldUpon, yielded, relAct, dstAt, Act.put, Region.wanted, go_sem, hC, isU_mk, isB_mk, *]
                                · simp at hio; subst hio; simp [bindD, rdB, Region.binds] at haf; simp [opYield_def, yieldUpon, yielded, relAct, dstAt, Act.put, Region.wanted, go_sem, hC, isU_mk, isB_mk, *]
                                · simp at hio; subst hio; simp [bindD, rdB, Region.binds] at haf; simp [opYield_def, yieldUpon, yielded, relAct, dstAt, Act.put, Region.wanted, go_sem, hC, isU_mk, isB_mk, *]
                                · simp at hio; subst hio; simp [bindD, rdB, Region.binds] at haf; simp [opYield_def, yieldUpon, yielded, relAct, dstAt, Act.put, Region.wanted, go_sem, hC, isU_mk, isB_mk, *]
                                · simp at hio; subst hio; simp [bindD, rdB, Region.binds] at haf; simp [opYield_def, yieldUpon, yielded, relAct, dstAt, Act.put, Region.wanted, go_sem, hC, isU_mk, isB_mk, *]
                                · simp at hio; subst hio; simp [bindD, rdB, Region.binds] at haf; simp [opYield_def, yieldUpon, yielded, relAct, dstAt, Act.put, Region.wanted, go_sem, hC, isU_mk, isB_mk, *]
                                · simp at hio; subst hio; simp [bindD, rdB, Region.binds] at haf; simp [opYield_def, yieldUpon, yielded, relAct, dstAt, Act.put, Region.wanted, go_sem, hC, isU_mk, isB_mk, *]
                                · simp at hio; subst hio; simp [bindD, rdB, Region.binds] at haf; simp [opYield_def, yieldUpon, yielded, relAct, dstAt, Act.put, Region.wanted, go_sem, hC, isU_mk, isB_mk, *]
                                · simp at hio; subst hio; simp [bindD, rdB, Region.binds] at haf; simp [opYield_def, yieldUpon, yielded, relAct, dstAt, Act.put, Region.wanted, go_sem, hC, isU_mk, isB_mk, *]
                                · simp at hio; subst hio; simp [bindD, rdB, Region.binds] at haf; first | (obtain ⟨e1, y2, e2, l2⟩ := haf; simp [opYield_def, yieldUpon, yielded, relAct, dstAt, Act.put, Region.wanted, go_sem, hC, isU_mk, isB_mk, *]; exact hC.set _ _ l2) | (obtain ⟨⟨y2, e2, l2⟩, e1⟩ := haf; simp [opYield_def, yieldUpon, yielded, relAct, dstAt, Act.put, Region.wanted, go_sem, hC, isU_mk, isB_mk, *]; exact hC.set _ _ l2)
                                · simp at hio; subst hio; simp [bindD, rdB, Region.binds] at haf; simp [opYield_def, yieldUpon, yielded, relAct, dstAt, Act.put, Region.wanted, go_sem, hC, isU_mk, isB_mk, *]
                                · simp at hio; subst hio; simp [bindD, rdB, Region.binds] at haf; first | (obtain ⟨e1, y2, e2, l2⟩ := haf; simp [opYield_def, yieldUpon, yielded, relAct, dstAt, Act.put, Region.wanted, go_sem, hC, isU_mk, isB_mk, *]; exact hC.set _ _ l2) | (obtain ⟨⟨y2, e2, l2⟩, e1⟩ := haf; simp [opYield_def, yieldUpon, yielded, relAct, dstAt, Act.put, Region.wanted, go_sem, hC, isU_mk, isB_mk, *]; exact hC.set _ _ l2)
                                · exfalso; simp at hio
                              · intro vals W ac hC hF hac
                                simp [relAct, dstAt, Act.put] at hac
                                subst hac
                                clear hF
                                have hwD := hC.drew
                                go_wp2_with fail
                                exact ⟨⟨k + 1, by go_num, by omega, by omega, hC⟩, by simp [intOf]; omega⟩
                            · have hZ := hC
                              go_wp2_with fail
                              exact ⟨⟨i, s + 1, rfl, by go_num, by omega, by omega, by omega, hZ⟩, by simp [intOf]; omega⟩
                        · have hZ := hw4
                          go_wp2_with fail
                          exact ⟨⟨i, s + 1, rfl, by go_num, by omega, by omega, by omega, hZ⟩, by simp [intOf]; omega⟩
                    · have hup2 : ¬ 2 ≤ (b : Int) - (i : Int) := by omega
                      go_wp2_with fail
                      exact ⟨⟨i, s + 1, rfl, by go_num, by omega, by omega, by omega, hY⟩, by simp [intOf]; omega⟩
          · have hij := hoG rfl
            go_wp2_with fail
            exact ⟨⟨i + 1, by go_num, by omega, by omega, hC⟩, by simp [intOf]; omega⟩
    · go_wp2_with fail
      go_ret
      exact ⟨⟨false, rfl⟩, hw⟩
end Nm
end Go.Proofs.YtkeimgamjnpcbaaGreat

/- order2Ordered, medianOrdered, medianAdjacentOrdered, choosePivotOrdered at uint16, whatever the row holds. (Printed by a program: wip/gen_pdq8.py.) -/
namespace Go.Proofs.YtkeimgamjnpcbaaGreat
open Go.RowKit
set_option linter.unusedVariables false
set_option linter.unusedSimpArgs false
namespace Nm
def Cnt (s : Nat) (W : World) : Prop := ∃ x : Int, W.heap[s]? = some (.cells #[.int .i64 x] 3 (0, 0))
/-- what the pivot's functions keep: only the counter is written -/
def SW (w : World) (g n s : Nat) (W : World) : Prop := (Kept (fun b => b = s) w W ∧ Cnt s W) ∧ Row16 W g n
theorem SW.refl {w : World} {g n s : Nat} (h : Row16 w g n) (hs : Cnt s w) : SW w g n s w := ⟨⟨Kept.refl _ _, hs⟩, h⟩
theorem SW.trans {w W W' : World} {g n s : Nat} (h : SW w g n s W) (k : SW W g n s W') : SW w g n s W' := ⟨⟨h.1.1.trans k.1.1, k.1.2⟩, k.2⟩
theorem SW.drew {w W : World} {g n s : Nat} (h : SW w g n s W) : SW w g n s { W with drawn := W.drawn + 1 } := ⟨⟨h.1.1.drew, h.1.2⟩, h.2⟩
theorem SW.set {w W : World} {g n s : Nat} (h : SW w g n s W) (hgs : g ≠ s) (x : Int) : SW w g n s (W.setCell ⟨s, 0, none⟩ (.int .i64 x)) := by
  obtain ⟨⟨h1, y, h2⟩, cs, h3, h4⟩ := h
  refine ⟨⟨h1.setCell (p := ⟨s, 0, none⟩) (fun _ => rfl) _, x, ?_⟩, cs, (Below.heap_setCell _ _ _ _ (show g ≠ s from hgs)).trans h3, h4⟩
  simp [World.setCell, Array.getElem?_modify, h2]
set_option maxRecDepth 100000 in
set_option maxHeartbeats 20000000 in
theorem order16 (g n c a b s lo hi : Nat) (w : World) (h : Row16 w g n) (hs : Cnt s w) (hgs : g ≠ s) (hc : n ≤ c) (ha : lo ≤ a ∧ a < hi) (hb : lo ≤ b ∧ b < hi) (hhi : hi ≤ n) (hn : n ≤ 1000000000) :
    Calls Tryz.prog 226 #[.slice (some ⟨g, 0, none⟩) n c, .int .i64 a, .int .i64 b, .pointer (some ⟨s, 0, none⟩)] w fun e w' => (∃ x y : Nat, e = .returned (.tuple #[.int .i64 x, .int .i64 y]) ∧ (lo ≤ x ∧ x < hi) ∧ lo ≤ y ∧ y < hi) ∧ SW w g n s w' := by
  go_enter Tryz.func226, Tryz.ntmps226
  have hwD := (SW.refl h hs).drew
  go_upto_region 1 with fail
  refine wp_region_c mixed0 (by kernel_rfl) (SW w g n s) hwD [(· = .slice (some ⟨g, 0, none⟩) n c), (· = .int .i64 (b)), (· = .pointer (some ⟨g, b, none⟩)), isU, (· = .slice (some ⟨g, 0, none⟩) n c), (· = .int .i64 (a)), (· = .pointer (some ⟨g, a, none⟩)), isU, isB] ?_ ?_
  · intro ix q hio vals W hC haf
    obtain ⟨x0, q0, hx0⟩ := hC.2.cell (a) (by omega)
    have f0 := hC.2.frozen (a)
    have t0 : isU (.int .u16 x0) := isU_mk _ hx0
    obtain ⟨x1, q1, hx1⟩ := hC.2.cell (b) (by omega)
    have f1 := hC.2.frozen (b)
    have t1 : isU (.int .u16 x1) := isU_mk _ hx1
    have r0 : a < n := by first | omega | exact IntWalk.i64_in _ (by omega) | go_num
    have r1 : b < n := by first | omega | exact IntWalk.i64_in _ (by omega) | go_num
    rcases ix with _ | _ | _ | _ | _ | _ | _ | _ | _ | ix
    · simp at hio; subst hio; simp [bindD, rdB, Region.binds] at haf; simp [opYield_def, yieldUpon, yielded, relAct, dstAt, Act.put, Region.wanted, go_sem, hC, isU_mk, isB_mk, *]
    · simp at hio; subst hio; simp [bindD, rdB, Region.binds] at haf; simp [opYield_def, yieldUpon, yielded, relAct, dstAt, Act.put, Region.wanted, go_sem, hC, isU_mk, isB_mk, *]
    · simp at hio; subst hio; simp [bindD, rdB, Region.binds] at haf; simp [opYield_def, yieldUpon, yielded, relAct, dstAt, Act.put, Region.wanted, go_sem, hC, isU_mk, isB_mk, *]
    · simp at hio; subst hio; simp [bindD, rdB, Region.binds] at haf; simp [opYield_def, yieldUpon, yielded, relAct, dstAt, Act.put, Region.wanted, go_sem, hC, isU_mk, isB_mk, *]
    · simp at hio; subst hio; simp [bindD, rdB, Region.binds] at haf; simp [opYield_def, yieldUpon, yielded, relAct, dstAt, Act.put, Region.wanted, go_sem, hC, isU_mk, isB_mk, *]
    · simp at hio; subst hio; simp [bindD, rdB, Region.binds] at haf; simp [opYield_def, yieldUpon, yielded, relAct, dstAt, Act.put, Region.wanted, go_sem, hC, isU_mk, isB_mk, *]
    · simp at hio; subst hio; simp [bindD, rdB, Region.binds] at haf; simp [opYield_def, yieldUpon, yielded, relAct, dstAt, Act.put, Region.wanted, go_sem, hC, isU_mk, isB_mk, *]
    · simp at hio; subst hio; simp [bindD, rdB, Region.binds] at haf; simp [opYield_def, yieldUpon, yielded, relAct, dstAt, Act.put, Region.wanted, go_sem, hC, isU_mk, isB_mk, *]
    · simp at hio; subst hio; simp [bindD, rdB, Region.binds] at haf; first | (obtain ⟨⟨y1, e1, l1⟩, ⟨y2, e2, l2⟩, e3⟩ := haf; simp [opYield_def, yieldUpon, yielded, relAct, dstAt, Act.put, Region.wanted, go_sem, hC, isU_mk, isB_mk, *]; exact (less16 y1 y2 W).mono fun e w' ⟨h1, h2⟩ => ⟨_, h1, by rw [h2]; exact hC, _, rfl⟩) | (obtain ⟨⟨y1, e1, l1⟩, ⟨y2, e2, l2⟩⟩ := haf; simp [opYield_def, yieldUpon, yielded, relAct, dstAt, Act.put, Region.wanted, go_sem, hC, isU_mk, isB_mk, *]; exact (less16 y1 y2 W).mono fun e w' ⟨h1, h2⟩ => ⟨_, h1, by rw [h2]; exact hC, _, rfl⟩)
    · exfalso; simp at hio
  · intro vals W ac hC hF hac
    obtain ⟨o, ho⟩ : isB (vals 8) := hF 8 (by show 8 < 9; omega)
    simp [relAct, dstAt, Act.put] at hac
    rw [ho] at hac
    subst hac
    clear hF
    have hwD := hC.drew
    clear hwD
    obtain ⟨x, hx⟩ := hC.1.2
    have q1 : W.cell? ⟨s, 0, none⟩ = some (.int .i64 x) := cell_of_row _ _ 0 _ _ _ hx
    have q2 : W.frozen? ⟨s, 0, none⟩ = false := by simp [World.frozen?, hx]
    cases o
    · go_wp2_with fail
      go_ret2
      exact ⟨⟨a, b, rfl, ha, hb⟩, hC⟩
    · go_wp2_with fail
      go_ret2
      exact ⟨⟨b, a, rfl, hb, ha⟩, hC.set hgs _⟩
set_option maxRecDepth 100000 in
set_option maxHeartbeats 20000000 in
theorem median16 (g n c a b d s lo hi : Nat) (w : World) (h : Row16 w g n) (hs : Cnt s w) (hgs : g ≠ s) (hc : n ≤ c) (ha : lo ≤ a ∧ a < hi) (hb : lo ≤ b ∧ b < hi) (hd : lo ≤ d ∧ d < hi) (hhi : hi ≤ n) (hn : n ≤ 1000000000) :
    Calls Tryz.prog 220 #[.slice (some ⟨g, 0, none⟩) n c, .int .i64 a, .int .i64 b, .int .i64 d, .pointer (some ⟨s, 0, none⟩)] w fun e w' => (∃ x : Nat, e = .returned (.int .i64 x) ∧ (lo ≤ x ∧ x < hi)) ∧ SW w g n s w' := by
  go_enter Tryz.func220, Tryz.ntmps220
  go_wp2_with fail
  refine (order16 g n c a b s lo hi w h hs hgs hc ha hb hhi hn).mono ?_
  rintro e w1 ⟨⟨x, y, rfl, hx, hy⟩, hw1⟩
  go_wp2_with fail
  refine (order16 g n c y d s lo hi w1 hw1.2 hw1.1.2 hgs hc hy hd hhi hn).mono ?_
  rintro e w2 ⟨⟨y2, z, rfl, hy2, hz⟩, hw2⟩
  go_wp2_with fail
  refine (order16 g n c x y2 s lo hi w2 hw2.2 hw2.1.2 hgs hc hx hy2 hhi hn).mono ?_
  rintro e w3 ⟨⟨x3, y3, rfl, hx3, hy3⟩, hw3⟩
  go_wp2_with fail
  go_ret
  exact ⟨⟨y3, rfl, hy3⟩, (hw1.trans hw2).trans hw3⟩
set_option maxRecDepth 100000 in
set_option maxHeartbeats 20000000 in
theorem medadj16 (g n c a s lo hi : Nat) (w : World) (h : Row16 w g n) (hs : Cnt s w) (hgs : g ≠ s) (hc : n ≤ c) (ha : lo + 1 ≤ a ∧ a + 1 < hi) (hhi : hi ≤ n) (hn : n ≤ 1000000000) :
    Calls Tryz.prog 219 #[.slice (some ⟨g, 0, none⟩) n c, .int .i64 a, .pointer (some ⟨s, 0, none⟩)] w fun e w' => (∃ x : Nat, e = .returned (.int .i64 x) ∧ (lo ≤ x ∧ x < hi)) ∧ SW w g n s w' := by
  have e1 : (a : Int) - 1 = ((a - 1 : Nat) : Int) := by omega
  have e2 : (a : Int) + 1 = ((a + 1 : Nat) : Int) := by omega
  have HM := Lib.hid (median16 g n c (a - 1) a (a + 1) s lo hi w h hs hgs hc (by omega) (by omega) (by omega) hhi hn)
  rw [← e1, ← e2] at HM
  clear e1 e2
  go_enter Tryz.func219, Tryz.ntmps219
  go_wp2_with fail
  refine HM.out.mono ?_
  rintro e w1 ⟨⟨x, rfl, hx⟩, hw1⟩
  go_wp2_with fail
  go_ret
  exact ⟨⟨x, rfl, hx⟩, hw1⟩
set_option maxRecDepth 100000 in
set_option maxHeartbeats 20000000 in
theorem pivot16 (g n c a b : Nat) (w : World) (h : Row16 w g n) (hg : g < w.heap.size) (hc : n ≤ c) (hb : b ≤ n) (hab : a + 12 < b) (hn : n ≤ 1000000000) :
    Calls Tryz.prog 203 #[.slice (some ⟨g, 0, none⟩) n c, .int .i64 a, .int .i64 b] w fun e w' => (∃ (x y : Nat), e = .returned (.tuple #[.int .i64 x, .int .i64 y]) ∧ (a ≤ x ∧ x < b) ∧ y ≤ 2) ∧ CW w g n w' := by
  obtain ⟨q, hq⟩ : ∃ q : Nat, q = (b - a) / 4 := ⟨_, rfl⟩
  obtain ⟨l, hl⟩ : ∃ l : Nat, l = b - a := ⟨_, rfl⟩
  go_enter Tryz.func203, Tryz.ntmps203
  go_upto_region 6 with fail
  generalize hw1 : w.alloc (.cells #[.int .i64 0] 3) = w1
  have hb1 : Below w.heap.size w w1 := by rw [← hw1]; exact (Below.refl _ _).alloc (Nat.le_refl _) _
  have hs1 : Cnt w.heap.size w1 := ⟨0, by rw [← hw1]; exact heap_alloc_new w _⟩
  have hr1 : Row16 w1 g n := by
    obtain ⟨cs, h1, h2⟩ := h
    exact ⟨cs, (hb1.block g hg).trans h1, h2⟩
  have hk01 : Kept (fun b => b = g) w w1 := (Kept.of_ext hb1).mono (fun _ _ h => h.elim)
  have hgs : g ≠ w.heap.size := by omega
  clear hw1
  obtain ⟨i1, hi1⟩ : ∃ i : Nat, i = a + q := ⟨_, rfl⟩
  obtain ⟨j1, hj1⟩ : ∃ i : Nat, i = a + q * 2 := ⟨_, rfl⟩
  obtain ⟨k1, hk1⟩ : ∃ i : Nat, i = a + q * 3 := ⟨_, rfl⟩
  have e0 : ((b : Int) - (a : Int)) / 4 = (q : Int) := by omega
  have e1 : (a : Int) + (q : Int) = (i1 : Int) := by omega
  have e2 : (a : Int) + (q : Int) * 2 = (j1 : Int) := by omega
  have e3 : (a : Int) + (q : Int) * 3 = (k1 : Int) := by omega
  have e4 : (b : Int) - (a : Int) = (l : Int) := by omega
  rw [e0, e1, e2, e3, e4]
  have hI : a + 1 ≤ i1 ∧ i1 + 1 < b := by omega
  have hJ : a + 1 ≤ j1 ∧ j1 + 1 < b := by omega
  have hK : a + 1 ≤ k1 ∧ k1 + 1 < b := by omega
  have hl8 : 8 ≤ l := by omega
  clear e0 e1 e2 e3 e4 hi1 hj1 hk1 hq hl
  have hsw := SW.refl hr1 hs1
  by_cases h50 : 50 ≤ l
  · go_wp2_with fail
    refine (medadj16 g n c i1 w.heap.size a b w1 hr1 hs1 hgs hc hI hb hn).mono ?_
    rintro e w2 ⟨⟨i2, rfl, hi2⟩, hw2⟩
    go_wp2_with fail
    refine (medadj16 g n c j1 w.heap.size a b w2 hw2.2 hw2.1.2 hgs hc hJ hb hn).mono ?_
    rintro e w3 ⟨⟨j2, rfl, hj2⟩, hw3⟩
    go_wp2_with fail
    refine (medadj16 g n c k1 w.heap.size a b w3 hw3.2 hw3.1.2 hgs hc hK hb hn).mono ?_
    rintro e w4 ⟨⟨k2, rfl, hk2⟩, hw4⟩
    go_wp2_with fail
    refine (median16 g n c i2 j2 k2 w.heap.size a b w4 hw4.2 hw4.1.2 hgs hc hi2 hj2 hk2 hb hn).mono ?_
    rintro e wZ ⟨⟨p1, rfl, hp1⟩, hw5⟩
    have hwZ := ((hw2.trans hw3).trans hw4).trans hw5
    clear hw2 hw3 hw4 hw5
    obtain ⟨x, hx⟩ := hwZ.1.2
    have z1 : wZ.cell? ⟨w.heap.size, 0, none⟩ = some (.int .i64 x) := cell_of_row _ _ 0 _ _ _ hx
    have z2 : wZ.frozen? ⟨w.heap.size, 0, none⟩ = false := by simp [World.frozen?, hx]
    have hF : CW w g n wZ := ⟨hk01.then hwZ.1.1 (fun k hk he => by omega), hwZ.2⟩
    clear hx hwZ
    by_cases hx0 : x = 0
    · subst hx0
      go_wp2_with fail
      go_ret2
      exact ⟨⟨p1, 1, rfl, hp1, by omega⟩, hF⟩
    · by_cases hx12 : x = 12
      · subst hx12
        go_wp2_with fail
        go_ret2
        exact ⟨⟨p1, 2, rfl, hp1, by omega⟩, hF⟩
      · go_wp2_with fail
        go_ret2
        exact ⟨⟨p1, 0, rfl, hp1, by omega⟩, hF⟩
  · go_wp2_with fail
    refine (median16 g n c i1 j1 k1 w.heap.size a b w1 hr1 hs1 hgs hc (by omega) (by omega) (by omega) hb hn).mono ?_
    rintro e wZ ⟨⟨p1, rfl, hp1⟩, hwZ⟩
    obtain ⟨x, hx⟩ := hwZ.1.2
    have z1 : wZ.cell? ⟨w.heap.size, 0, none⟩ = some (.int .i64 x) := cell_of_row _ _ 0 _ _ _ hx
    have z2 : wZ.frozen? ⟨w.heap.size, 0, none⟩ = false := by simp [World.frozen?, hx]
    have hF : CW w g n wZ := ⟨hk01.then hwZ.1.1 (fun k hk he => by omega), hwZ.2⟩
    clear hx hwZ
    by_cases hx0 : x = 0
    · subst hx0
      go_wp2_with fail
      go_ret2
      exact ⟨⟨p1, 1, rfl, hp1, by omega⟩, hF⟩
    · by_cases hx12 : x = 12
      · subst hx12
        go_wp2_with fail
        go_ret2
        exact ⟨⟨p1, 2, rfl, hp1, by omega⟩, hF⟩
      · go_wp2_with fail
        go_ret2
        exact ⟨⟨p1, 0, rfl, hp1, by omega⟩, hF⟩
end Nm
end Go.Proofs.YtkeimgamjnpcbaaGreat
