/-
  Texts merged by a program (Pdq2, Pdq5).
-/
import Derived.Test.YtkeimgamjnpcbaaGreatCk8
set_option linter.unusedSimpArgs false
set_option linter.unusedVariables false
/- siftDownOrdered and heapSortOrdered at uint16, whatever the row holds. (Printed by a program: wip/gen_pdq2.py.) -/
namespace Go.Proofs.YtkeimgamjnpcbaaGreat
open Go.RowKit
set_option linter.unusedVariables false
set_option linter.unusedSimpArgs false
namespace Nm
def SiftR (w : World) (g n : Nat) (r : Value) (W : World) : Prop := ∃ k : Nat, r = .int .i64 k ∧ k ≤ 1000000000 ∧ CW w g n W
set_option maxRecDepth 100000 in
set_option maxHeartbeats 20000000 in
theorem sift16 (g n c lo hi fi : Nat) (w : World) (h : Row16 w g n) (hc : n ≤ c) (hf : fi + hi ≤ n) (hlo : lo ≤ 1000000000) (hn : n ≤ 1000000000) :
    Calls Tryz.prog 218 #[.slice (some ⟨g, 0, none⟩) n c, .int .i64 lo, .int .i64 hi, .int .i64 fi] w fun e w' => e = .returned (.tuple #[]) ∧ CW w g n w' := by
  go_enter Tryz.func218, Tryz.ntmps218
  go_wp2_with fail
  go_loopw [8] (SiftR w g n) (fun r _ => hi - (intOf r).toNat)
  case atStart => exact ⟨lo, rfl, hlo, CW.refl h⟩
  case round =>
    obtain ⟨r, rfl, hr, hw⟩ := hrel
    have hwD := hw.drew
    by_cases hch : 2 * r + 1 < hi
    · go_upto_region 3 with fail
      obtain ⟨ch, hce⟩ : ∃ ch : Nat, ch = 2 * r + 1 := ⟨_, rfl⟩
      have hci : 2 * (r : Int) + 1 = (ch : Int) := by omega
      rw [hci]
      have hcl : ch < hi := by omega
      have hcr : r < ch := by omega
      clear hci hce hch
      by_cases hc2 : ch + 1 < hi
      · refine wp_region_c mixed0 (by kernel_rfl) (CW w g n) hwD [(· = .int .i64 (ch)), (· = .int .i64 (ch + 1 : Nat)), (· = .int .i64 (hi)), (· = .bool true), (· = .bool true), (· = .slice (some ⟨g, 0, none⟩) n c), (· = .int .i64 (fi)), (· = .int .i64 (ch)), (· = .int .i64 (fi + ch : Nat)), (· = .pointer (some ⟨g, fi + ch, none⟩)), isU, (· = .slice (some ⟨g, 0, none⟩) n c), (· = .int .i64 (fi)), (· = .int .i64 (ch)), (· = .int .i64 (fi + ch : Nat)), (· = .int .i64 (fi + ch + 1 : Nat)), (· = .pointer (some ⟨g, fi + ch + 1, none⟩)), isU, isB, isB] ?_ ?_
        · intro i q hio vals W hC haf
          obtain ⟨x0, q0, hx0⟩ := hC.2.cell (fi + ch) (by omega)
          have f0 := hC.2.frozen (fi + ch)
          have t0 : isU (.int .u16 x0) := isU_mk _ hx0
          obtain ⟨x1, q1, hx1⟩ := hC.2.cell (fi + ch + 1) (by omega)
          have f1 := hC.2.frozen (fi + ch + 1)
          have t1 : isU (.int .u16 x1) := isU_mk _ hx1
          have r0 : IntKind.i64.wrap ((fi : Int) + (ch : Int)) = (fi : Int) + (ch : Int) := by first | omega | exact IntWalk.i64_in _ (by omega) | go_num
          have r1 : ((fi : Int) + (ch : Int)).toNat = (fi) + (ch) := by first | omega | exact IntWalk.i64_in _ (by omega) | go_num
          have r2 : 0 ≤ (fi : Int) + (ch : Int) ∧ (fi : Int) + (ch : Int) < (n : Int) := by first | omega | exact IntWalk.i64_in _ (by omega) | go_num
          have r3 : IntKind.i64.wrap ((ch : Int) + 1) = (ch : Int) + 1 := by first | omega | exact IntWalk.i64_in _ (by omega) | go_num
          have r4 : (ch : Int) + 1 < (hi : Int) := by first | omega | exact IntWalk.i64_in _ (by omega) | go_num
          have r5 : ch + 1 < hi := by first | omega | exact IntWalk.i64_in _ (by omega) | go_num
          have r6 : IntKind.i64.wrap (((fi : Nat) : Int) + ((ch : Nat) : Int) + 1) = ((fi : Nat) : Int) + ((ch : Nat) : Int) + 1 := by first | omega | exact IntWalk.i64_in _ (by omega) | go_num
          have r7 : (((fi : Nat) : Int) + ((ch : Nat) : Int) + 1).toNat = fi + ch + 1 := by first | omega | exact IntWalk.i64_in _ (by omega) | go_num
          have r8 : 0 ≤ ((fi : Nat) : Int) + ((ch : Nat) : Int) + 1 ∧ ((fi : Nat) : Int) + ((ch : Nat) : Int) + 1 < (n : Int) := by first | omega | exact IntWalk.i64_in _ (by omega) | go_num
          rcases i with _ | _ | _ | _ | _ | _ | _ | _ | _ | _ | _ | _ | _ | _ | _ | _ | _ | _ | _ | _ | i
          · simp at hio; subst hio; simp [bindD, rdB, Region.binds] at haf; simp [opYield_def, yieldUpon, yielded, relAct, dstAt, Act.put, Region.wanted, go_sem, hC, isU_mk, isB_mk, *]
          · simp at hio; subst hio; simp [bindD, rdB, Region.binds] at haf; simp [opYield_def, yieldUpon, yielded, relAct, dstAt, Act.put, Region.wanted, go_sem, hC, isU_mk, isB_mk, *]
          · simp at hio; subst hio; simp [bindD, rdB, Region.binds] at haf; simp [opYield_def, yieldUpon, yielded, relAct, dstAt, Act.put, Region.wanted, go_sem, hC, isU_mk, isB_mk, *]
          · simp at hio; subst hio; simp [bindD, rdB, Region.binds] at haf; simp [opYield_def, yieldUpon, yielded, relAct, dstAt, Act.put, Region.wanted, go_sem, hC, isU_mk, isB_mk, *]
          · simp at hio; subst hio; simp [bindD, rdB, Region.binds] at haf; simp [opYield_def, yieldUpon, yielded, relAct, dstAt, Act.put, Region.wanted, go_sem, hC, isU_mk, isB_mk, *]
          · simp at hio; subst hio; simp [bindD, rdB, Region.binds] at haf; simp [opYield_def, yieldUpon, yielded, relAct, dstAt, Act.put, Region.wanted, go_sem, hC, isU_mk, isB_mk, *]
          · simp at hio; subst hio; simp [bindD, rdB, Region.binds] at haf; simp [opYield_def, yieldUpon, yielded, relAct, dstAt, Act.put, Region.wanted, go_sem, hC, isU_mk, isB_mk, *]
          · simp at hio; subst hio; simp [bindD, rdB, Region.binds] at haf; simp [opYield_def, yieldUpon, yielded, relAct, dstAt, Act.put, Region.wanted, go_sem, hC, isU_mk, isB_mk, *]
          · simp at hio; subst hio; simp [bindD, rdB, Region.binds] at haf; simp [opYield_def, yieldUpon, yielded, relAct, dstAt, Act.put, Region.wanted, go_sem, hC, isU_mk, isB_mk, *]
          · simp at hio; subst hio; simp [bindD, rdB, Region.binds] at haf; simp [opYield_def, yieldUpon, yielded, relAct, dstAt, Act.put, Region.wanted, go_sem, hC, isU_mk, isB_mk, *]
          · simp at hio; subst hio; simp [bindD, rdB, Region.binds] at haf; simp [opYield_def, yieldUpon, yielded, relAct, dstAt, Act.put, Region.wanted, go_sem, hC, isU_mk, isB_mk, *]
          · simp at hio; subst hio; simp [bindD, rdB, Region.binds] at haf; simp [opYield_def, yieldUpon, yielded, relAct, dstAt, Act.put, Region.wanted, go_sem, hC, isU_mk, isB_mk, *]
          · simp at hio; subst hio; simp [bindD, rdB, Region.binds] at haf; simp [opYield_def, yieldUpon, yielded, relAct, dstAt, Act.put, Region.wanted, go_sem, hC, isU_mk, isB_mk, *]
          · simp at hio; subst hio; simp [bindD, rdB, Region.binds] at haf; simp [opYield_def, yieldUpon, yielded, relAct, dstAt, Act.put, Region.wanted, go_sem, hC, isU_mk, isB_mk, *]
          · simp at hio; subst hio; simp [bindD, rdB, Region.binds] at haf; simp [opYield_def, yieldUpon, yielded, relAct, dstAt, Act.put, Region.wanted, go_sem, hC, isU_mk, isB_mk, *]
          · simp at hio; subst hio; simp [bindD, rdB, Region.binds] at haf; simp [opYield_def, yieldUpon, yielded, relAct, dstAt, Act.put, Region.wanted, go_sem, hC, isU_mk, isB_mk, *]
          · simp at hio; subst hio; simp [bindD, rdB, Region.binds] at haf; simp [opYield_def, yieldUpon, yielded, relAct, dstAt, Act.put, Region.wanted, go_sem, hC, isU_mk, isB_mk, *]
          · simp at hio; subst hio; simp [bindD, rdB, Region.binds] at haf; simp [opYield_def, yieldUpon, yielded, relAct, dstAt, Act.put, Region.wanted, go_sem, hC, isU_mk, isB_mk, *]
          · simp at hio; subst hio; simp [bindD, rdB, Region.binds] at haf; first | (obtain ⟨⟨y1, e1, l1⟩, ⟨y2, e2, l2⟩, e3⟩ := haf; simp [opYield_def, yieldUpon, yielded, relAct, dstAt, Act.put, Region.wanted, go_sem, hC, isU_mk, isB_mk, *]; exact (less16 y1 y2 W).mono fun e w' ⟨h1, h2⟩ => ⟨_, h1, by rw [h2]; exact hC, _, rfl⟩) | (obtain ⟨⟨y1, e1, l1⟩, ⟨y2, e2, l2⟩⟩ := haf; simp [opYield_def, yieldUpon, yielded, relAct, dstAt, Act.put, Region.wanted, go_sem, hC, isU_mk, isB_mk, *]; exact (less16 y1 y2 W).mono fun e w' ⟨h1, h2⟩ => ⟨_, h1, by rw [h2]; exact hC, _, rfl⟩)
          · simp at hio; subst hio; simp [bindD, rdB, Region.binds] at haf; first | (simp [opYield_def, yieldUpon, yielded, relAct, dstAt, Act.put, Region.wanted, go_sem, hC, isU_mk, isB_mk, *]; done) | (obtain ⟨y, e1⟩ := haf; simp [opYield_def, yieldUpon, yielded, relAct, dstAt, Act.put, Region.wanted, go_sem, hC, isU_mk, isB_mk, *]; done) | (obtain ⟨⟨y, e1⟩, e2⟩ := haf; simp [opYield_def, yieldUpon, yielded, relAct, dstAt, Act.put, Region.wanted, go_sem, hC, isU_mk, isB_mk, *]; done) | (obtain ⟨e2, ⟨y, e1⟩⟩ := haf; simp [opYield_def, yieldUpon, yielded, relAct, dstAt, Act.put, Region.wanted, go_sem, hC, isU_mk, isB_mk, *]; done)
          · exfalso; simp at hio
        · intro vals W ac hC hF hac
          obtain ⟨o, ho⟩ : isB (vals 19) := hF 19 (by show 19 < 20; omega)
          simp [relAct, dstAt, Act.put] at hac
          rw [ho] at hac
          subst hac
          clear hF
          have hwD := hC.drew
          cases o
          · go_upto_region 5 with fail
            refine wp_region_c mixed0 (by kernel_rfl) (CW w g n) hwD [(· = .slice (some ⟨g, 0, none⟩) n c), (· = .int .i64 (fi)), (· = .int .i64 (r)), (· = .int .i64 (fi + r : Nat)), (· = .pointer (some ⟨g, fi + r, none⟩)), isU, (· = .slice (some ⟨g, 0, none⟩) n c), (· = .int .i64 (fi)), (· = .int .i64 (ch)), (· = .int .i64 (fi + (ch) : Nat)), (· = .pointer (some ⟨g, fi + (ch), none⟩)), isU, isB, isB] ?_ ?_
            · intro i q hio vals W hC haf
              obtain ⟨x0, q0, hx0⟩ := hC.2.cell (fi + r) (by omega)
              have f0 := hC.2.frozen (fi + r)
              have t0 : isU (.int .u16 x0) := isU_mk _ hx0
              obtain ⟨x1, q1, hx1⟩ := hC.2.cell (fi + (ch)) (by omega)
              have f1 := hC.2.frozen (fi + (ch))
              have t1 : isU (.int .u16 x1) := isU_mk _ hx1
              have r0 : IntKind.i64.wrap ((fi : Int) + (r : Int)) = (fi : Int) + (r : Int) := by first | omega | exact IntWalk.i64_in _ (by omega) | go_num
              have r1 : ((fi : Int) + (r : Int)).toNat = (fi) + (r) := by first | omega | exact IntWalk.i64_in _ (by omega) | go_num
              have r2 : 0 ≤ (fi : Int) + (r : Int) ∧ (fi : Int) + (r : Int) < (n : Int) := by first | omega | exact IntWalk.i64_in _ (by omega) | go_num
              have r3 : IntKind.i64.wrap ((fi : Int) + (ch : Int)) = (fi : Int) + (ch : Int) := by first | omega | exact IntWalk.i64_in _ (by omega) | go_num
              have r4 : ((fi : Int) + (ch : Int)).toNat = (fi) + (ch) := by first | omega | exact IntWalk.i64_in _ (by omega) | go_num
              have r5 : 0 ≤ (fi : Int) + (ch : Int) ∧ (fi : Int) + (ch : Int) < (n : Int) := by first | omega | exact IntWalk.i64_in _ (by omega) | go_num
              rcases i with _ | _ | _ | _ | _ | _ | _ | _ | _ | _ | _ | _ | _ | _ | i
              · simp at hio; subst hio; simp [bindD, rdB, Region.binds] at haf; simp [opYield_def, yieldUpon, yielded, relAct, dstAt, Act.put, Region.wanted, go_sem, hC, isU_mk, isB_mk, *]
              · simp at hio; subst hio; simp [bindD, rdB, Region.binds] at haf; simp [opYield_def, yieldUpon, yielded, relAct, dstAt, Act.put, Region.wanted, go_sem, hC, isU_mk, isB_mk, *]
              · simp at hio; subst hio; simp [bindD, rdB, Region.binds] at haf; simp [opYield_def, yieldUpon, yielded, relAct, dstAt, Act.put, Region.wanted, go_sem, hC, isU_mk, isB_mk, *]
              · simp at hio; subst hio; simp [bindD, rdB, Region.binds] at haf; simp [opYield_def, yieldUpon, yielded, relAct, dstAt, Act.put, Region.wanted, go_sem, hC, isU_mk, isB_mk, *]
              · simp at hio; subst hio; simp [bindD, rdB, Region.binds] at haf; simp [opYield_def, yieldUpon, yielded, relAct, dstAt, Act.put, Region.wanted, go_sem, hC, isU_mk, isB_mk, *]
              · simp at hio; subst hio; simp [bindD, rdB, Region.binds] at haf; simp [opYield_def, yieldUpon, yielded, relAct, dstAt, Act.put, Region.wanted, go_sem, hC, isU_mk, isB_mk, *]
              · simp at hio; subst hio; simp [bindD, rdB, Region.binds] at haf; simp [opYield_def, yieldUpon, yielded, relAct, dstAt, Act.put, Region.wanted, go_sem, hC, isU_mk, isB_mk, *]
              · simp at hio; subst hio; simp [bindD, rdB, Region.binds] at haf; simp [opYield_def, yieldUpon, yielded, relAct, dstAt, Act.put, Region.wanted, go_sem, hC, isU_mk, isB_mk, *]
              · simp at hio; subst hio; simp [bindD, rdB, Region.binds] at haf; simp [opYield_def, yieldUpon, yielded, relAct, dstAt, Act.put, Region.wanted, go_sem, hC, isU_mk, isB_mk, *]
              · simp at hio; subst hio; simp [bindD, rdB, Region.binds] at haf; simp [opYield_def, yieldUpon, yielded, relAct, dstAt, Act.put, Region.wanted, go_sem, hC, isU_mk, isB_mk, *]
              · simp at hio; subst hio; simp [bindD, rdB, Region.binds] at haf; simp [opYield_def, yieldUpon, yielded, relAct, dstAt, Act.put, Region.wanted, go_sem, hC, isU_mk, isB_mk, *]
              · simp at hio; subst hio; simp [bindD, rdB, Region.binds] at haf; simp [opYield_def, yieldUpon, yielded, relAct, dstAt, Act.put, Region.wanted, go_sem, hC, isU_mk, isB_mk, *]
              · simp at hio; subst hio; simp [bindD, rdB, Region.binds] at haf; first | (obtain ⟨⟨y1, e1, l1⟩, ⟨y2, e2, l2⟩, e3⟩ := haf; simp [opYield_def, yieldUpon, yielded, relAct, dstAt, Act.put, Region.wanted, go_sem, hC, isU_mk, isB_mk, *]; exact (less16 y1 y2 W).mono fun e w' ⟨h1, h2⟩ => ⟨_, h1, by rw [h2]; exact hC, _, rfl⟩) | (obtain ⟨⟨y1, e1, l1⟩, ⟨y2, e2, l2⟩⟩ := haf; simp [opYield_def, yieldUpon, yielded, relAct, dstAt, Act.put, Region.wanted, go_sem, hC, isU_mk, isB_mk, *]; exact (less16 y1 y2 W).mono fun e w' ⟨h1, h2⟩ => ⟨_, h1, by rw [h2]; exact hC, _, rfl⟩)
              · simp at hio; subst hio; simp [bindD, rdB, Region.binds] at haf; first | (simp [opYield_def, yieldUpon, yielded, relAct, dstAt, Act.put, Region.wanted, go_sem, hC, isU_mk, isB_mk, *]; done) | (obtain ⟨y, e1⟩ := haf; simp [opYield_def, yieldUpon, yielded, relAct, dstAt, Act.put, Region.wanted, go_sem, hC, isU_mk, isB_mk, *]; done) | (obtain ⟨⟨y, e1⟩, e2⟩ := haf; simp [opYield_def, yieldUpon, yielded, relAct, dstAt, Act.put, Region.wanted, go_sem, hC, isU_mk, isB_mk, *]; done) | (obtain ⟨e2, ⟨y, e1⟩⟩ := haf; simp [opYield_def, yieldUpon, yielded, relAct, dstAt, Act.put, Region.wanted, go_sem, hC, isU_mk, isB_mk, *]; done)
              · exfalso; simp at hio
            · intro vals W ac hC hF hac
              obtain ⟨o, ho⟩ : isB (vals 13) := hF 13 (by show 13 < 14; omega)
              simp [relAct, dstAt, Act.put] at hac
              rw [ho] at hac
              subst hac
              clear hF
              have hwD := hC.drew
              cases o
              · go_upto_region 6 with fail
                refine wp_region_c mixed0 (by kernel_rfl) (CW w g n) hwD [(· = .slice (some ⟨g, 0, none⟩) n c), (· = .int .i64 (fi)), (· = .int .i64 (r)), (· = .int .i64 (fi + r : Nat)), (· = .slice (some ⟨g, 0, none⟩) n c), (· = .int .i64 (fi)), (· = .int .i64 (ch)), (· = .int .i64 (fi + (ch) : Nat)), (· = .slice (some ⟨g, 0, none⟩) n c), (· = .int .i64 (fi)), (· = .int .i64 (ch)), (· = .int .i64 (fi + (ch) : Nat)), (· = .pointer (some ⟨g, fi + (ch), none⟩)), isU, (· = .slice (some ⟨g, 0, none⟩) n c), (· = .int .i64 (fi)), (· = .int .i64 (r)), (· = .int .i64 (fi + r : Nat)), (· = .pointer (some ⟨g, fi + r, none⟩)), isU, (· = .pointer (some ⟨g, fi + r, none⟩)), fun _ => True, (· = .pointer (some ⟨g, fi + (ch), none⟩)), fun _ => True] ?_ ?_
                · intro i q hio vals W hC haf
                  obtain ⟨x0, q0, hx0⟩ := hC.2.cell (fi + r) (by omega)
                  have f0 := hC.2.frozen (fi + r)
                  have t0 : isU (.int .u16 x0) := isU_mk _ hx0
                  obtain ⟨x1, q1, hx1⟩ := hC.2.cell (fi + (ch)) (by omega)
                  have f1 := hC.2.frozen (fi + (ch))
                  have t1 : isU (.int .u16 x1) := isU_mk _ hx1
                  have r0 : IntKind.i64.wrap ((fi : Int) + (r : Int)) = (fi : Int) + (r : Int) := by first | omega | exact IntWalk.i64_in _ (by omega) | go_num
                  have r1 : ((fi : Int) + (r : Int)).toNat = (fi) + (r) := by first | omega | exact IntWalk.i64_in _ (by omega) | go_num
                  have r2 : 0 ≤ (fi : Int) + (r : Int) ∧ (fi : Int) + (r : Int) < (n : Int) := by first | omega | exact IntWalk.i64_in _ (by omega) | go_num
                  have r3 : IntKind.i64.wrap ((fi : Int) + (ch : Int)) = (fi : Int) + (ch : Int) := by first | omega | exact IntWalk.i64_in _ (by omega) | go_num
                  have r4 : ((fi : Int) + (ch : Int)).toNat = (fi) + (ch) := by first | omega | exact IntWalk.i64_in _ (by omega) | go_num
                  have r5 : 0 ≤ (fi : Int) + (ch : Int) ∧ (fi : Int) + (ch : Int) < (n : Int) := by first | omega | exact IntWalk.i64_in _ (by omega) | go_num
                  rcases i with _ | _ | _ | _ | _ | _ | _ | _ | _ | _ | _ | _ | _ | _ | _ | _ | _ | _ | _ | _ | _ | _ | _ | _ | i
                  · simp at hio; subst hio; simp [bindD, rdB, Region.binds] at haf; simp [opYield_def, yieldUpon, yielded, relAct, dstAt, Act.put, Region.wanted, go_sem, hC, isU_mk, isB_mk, *]
                  · simp at hio; subst hio; simp [bindD, rdB, Region.binds] at haf; simp [opYield_def, yieldUpon, yielded, relAct, dstAt, Act.put, Region.wanted, go_sem, hC, isU_mk, isB_mk, *]
                  · simp at hio; subst hio; simp [bindD, rdB, Region.binds] at haf; simp [opYield_def, yieldUpon, yielded, relAct, dstAt, Act.put, Region.wanted, go_sem, hC, isU_mk, isB_mk, *]
                  · simp at hio; subst hio; simp [bindD, rdB, Region.binds] at haf; simp [opYield_def, yieldUpon, yielded, relAct, dstAt, Act.put, Region.wanted, go_sem, hC, isU_mk, isB_mk, *]
                  · simp at hio; subst hio; simp [bindD, rdB, Region.binds] at haf; simp [opYield_def, yieldUpon, yielded, relAct, dstAt, Act.put, Region.wanted, go_sem, hC, isU_mk, isB_mk, *]
                  · simp at hio; subst hio; simp [bindD, rdB, Region.binds] at haf; simp [opYield_def, yieldUpon, yielded, relAct, dstAt, Act.put, Region.wanted, go_sem, hC, isU_mk, isB_mk, *]
                  · simp at hio; subst hio; simp [bindD, rdB, Region.binds] at haf; simp [opYield_def, yieldUpon, yielded, relAct, dstAt, Act.put, Region.wanted, go_sem, hC, isU_mk, isB_mk, *]
                  · simp at hio; subst hio; simp [bindD, rdB, Region.binds] at haf; simp [opYield_def, yieldUpon, yielded, relAct, dstAt, Act.put, Region.wanted, go_sem, hC, isU_mk, isB_mk, *]
                  · simp at hio; subst hio; simp [bindD, rdB, Region.binds] at haf; simp [opYield_def, yieldUpon, yielded, relAct, dstAt, Act.put, Region.wanted, go_sem, hC, isU_mk, isB_mk, *]
                  · simp at hio; subst hio; simp [bindD, rdB, Region.binds] at haf; simp [opYield_def, yieldUpon, yielded, relAct, dstAt, Act.put, Region.wanted, go_sem, hC, isU_mk, isB_mk, *]
                  · simp at hio; subst hio; simp [bindD, rdB, Region.binds] at haf; simp [opYield_def, yieldUpon, yielded, relAct, dstAt, Act.put, Region.wanted, go_sem, hC, isU_mk, isB_mk, *]
                  · simp at hio; subst hio; simp [bindD, rdB, Region.binds] at haf; simp [opYield_def, yieldUpon, yielded, relAct, dstAt, Act.put, Region.wanted, go_sem, hC, isU_mk, isB_mk, *]
                  · simp at hio; subst hio; simp [bindD, rdB, Region.binds] at haf; simp [opYield_def, yieldUpon, yielded, relAct, dstAt, Act.put, Region.wanted, go_sem, hC, isU_mk, isB_mk, *]
                  · simp at hio; subst hio; simp [bindD, rdB, Region.binds] at haf; simp [opYield_def, yieldUpon, yielded, relAct, dstAt, Act.put, Region.wanted, go_sem, hC, isU_mk, isB_mk, *]
                  · simp at hio; subst hio; simp [bindD, rdB, Region.binds] at haf; simp [opYield_def, yieldUpon, yielded, relAct, dstAt, Act.put, Region.wanted, go_sem, hC, isU_mk, isB_mk, *]
                  · simp at hio; subst hio; simp [bindD, rdB, Region.binds] at haf; simp [opYield_def, yieldUpon, yielded, relAct, dstAt, Act.put, Region.wanted, go_sem, hC, isU_mk, isB_mk, *]
                  · simp at hio; subst hio; simp [bindD, rdB, Region.binds] at haf; simp [opYield_def, yieldUpon, yielded, relAct, dstAt, Act.put, Region.wanted, go_sem, hC, isU_mk, isB_mk, *]
                  · simp at hio; subst hio; simp [bindD, rdB, Region.binds] at haf; simp [opYield_def, yieldUpon, yielded, relAct, dstAt, Act.put, Region.wanted, go_sem, hC, isU_mk, isB_mk, *]
                  · simp at hio; subst hio; simp [bindD, rdB, Region.binds] at haf; simp [opYield_def, yieldUpon, yielded, relAct, dstAt, Act.put, Region.wanted, go_sem, hC, isU_mk, isB_mk, *]
                  · simp at hio; subst hio; simp [bindD, rdB, Region.binds] at haf; simp [opYield_def, yieldUpon, yielded, relAct, dstAt, Act.put, Region.wanted, go_sem, hC, isU_mk, isB_mk, *]
                  · simp at hio; subst hio; simp [bindD, rdB, Region.binds] at haf; simp [opYield_def, yieldUpon, yielded, relAct, dstAt, Act.put, Region.wanted, go_sem, hC, isU_mk, isB_mk, *]
                  · simp at hio; subst hio; simp [bindD, rdB, Region.binds] at haf; first | (obtain ⟨e1, y2, e2, l2⟩ := haf; simp [opYield_def, yieldUpon, yielded, relAct, dstAt, Act.put, Region.wanted, go_sem, hC, isU_mk, isB_mk, *]; exact hC.set _ _ l2) | (obtain ⟨⟨y2, e2, l2⟩, e1⟩ := haf; simp [opYield_def, yieldUpon, yielded, relAct, dstAt, Act.put, Region.wanted, go_sem, hC, isU_mk, isB_mk, *]; exact hC.set _ _ l2)
                  · simp at hio; subst hio; simp [bindD, rdB, Region.binds] at haf; simp [opYield_def, yieldUpon, yielded, relAct, dstAt, Act.put, Region.wanted, go_sem, hC, isU_mk, isB_mk, *]
                  · simp at hio; subst hio; simp [bindD, rdB, Region.binds] at haf; first | (obtain ⟨e1, y2, e2, l2⟩ := haf; simp [opYield_def, yieldUpon, yielded, relAct, dstAt, Act.put, Region.wanted, go_sem, hC, isU_mk, isB_mk, *]; exact hC.set _ _ l2) | (obtain ⟨⟨y2, e2, l2⟩, e1⟩ := haf; simp [opYield_def, yieldUpon, yielded, relAct, dstAt, Act.put, Region.wanted, go_sem, hC, isU_mk, isB_mk, *]; exact hC.set _ _ l2)
                  · exfalso; simp at hio
                · intro vals W ac hC hF hac
                  simp [relAct, dstAt, Act.put] at hac
                  subst hac
                  clear hF
                  have hwD := hC.drew
                  go_wp2_with fail
                  exact ⟨⟨ch, by go_num, by omega, hC⟩, by simp [intOf]; omega⟩
              · go_wp2_with fail
                first | refine bodyPost_end (results_none rfl _ _ _) rfl ?_ | refine bodyPost_ret (results_none rfl _ _ _) rfl ?_
                exact ⟨rfl, hC⟩
          · go_upto_region 5 with fail
            refine wp_region_c mixed0 (by kernel_rfl) (CW w g n) hwD [(· = .slice (some ⟨g, 0, none⟩) n c), (· = .int .i64 (fi)), (· = .int .i64 (r)), (· = .int .i64 (fi + r : Nat)), (· = .pointer (some ⟨g, fi + r, none⟩)), isU, (· = .slice (some ⟨g, 0, none⟩) n c), (· = .int .i64 (fi)), (· = .int .i64 (ch + 1)), (· = .int .i64 (fi + (ch + 1) : Nat)), (· = .pointer (some ⟨g, fi + (ch + 1), none⟩)), isU, isB, isB] ?_ ?_
            · intro i q hio vals W hC haf
              obtain ⟨x0, q0, hx0⟩ := hC.2.cell (fi + r) (by omega)
              have f0 := hC.2.frozen (fi + r)
              have t0 : isU (.int .u16 x0) := isU_mk _ hx0
              obtain ⟨x1, q1, hx1⟩ := hC.2.cell (fi + (ch + 1)) (by omega)
              have f1 := hC.2.frozen (fi + (ch + 1))
              have t1 : isU (.int .u16 x1) := isU_mk _ hx1
              have r0 : IntKind.i64.wrap ((fi : Int) + (r : Int)) = (fi : Int) + (r : Int) := by first | omega | exact IntWalk.i64_in _ (by omega) | go_num
              have r1 : ((fi : Int) + (r : Int)).toNat = (fi) + (r) := by first | omega | exact IntWalk.i64_in _ (by omega) | go_num
              have r2 : 0 ≤ (fi : Int) + (r : Int) ∧ (fi : Int) + (r : Int) < (n : Int) := by first | omega | exact IntWalk.i64_in _ (by omega) | go_num
              have r3 : IntKind.i64.wrap ((fi : Int) + ((ch : Int) + 1)) = (fi : Int) + ((ch : Int) + 1) := by first | omega | exact IntWalk.i64_in _ (by omega) | go_num
              have r4 : ((fi : Int) + ((ch : Int) + 1)).toNat = (fi) + (ch + 1) := by first | omega | exact IntWalk.i64_in _ (by omega) | go_num
              have r5 : 0 ≤ (fi : Int) + ((ch : Int) + 1) ∧ (fi : Int) + ((ch : Int) + 1) < (n : Int) := by first | omega | exact IntWalk.i64_in _ (by omega) | go_num
              rcases i with _ | _ | _ | _ | _ | _ | _ | _ | _ | _ | _ | _ | _ | _ | i
              · simp at hio; subst hio; simp [bindD, rdB, Region.binds] at haf; simp [opYield_def, yieldUpon, yielded, relAct, dstAt, Act.put, Region.wanted, go_sem, hC, isU_mk, isB_mk, *]
              · simp at hio; subst hio; simp [bindD, rdB, Region.binds] at haf; simp [opYield_def, yieldUpon, yielded, relAct, dstAt, Act.put, Region.wanted, go_sem, hC, isU_mk, isB_mk, *]
              · simp at hio; subst hio; simp [bindD, rdB, Region.binds] at haf; simp [opYield_def, yieldUpon, yielded, relAct, dstAt, Act.put, Region.wanted, go_sem, hC, isU_mk, isB_mk, *]
              · simp at hio; subst hio; simp [bindD, rdB, Region.binds] at haf; simp [opYield_def, yieldUpon, yielded, relAct, dstAt, Act.put, Region.wanted, go_sem, hC, isU_mk, isB_mk, *]
              · simp at hio; subst hio; simp [bindD, rdB, Region.binds] at haf; simp [opYield_def, yieldUpon, yielded, relAct, dstAt, Act.put, Region.wanted, go_sem, hC, isU_mk, isB_mk, *]
              · simp at hio; subst hio; simp [bindD, rdB, Region.binds] at haf; simp [opYield_def, yieldUpon, yielded, relAct, dstAt, Act.put, Region.wanted, go_sem, hC, isU_mk, isB_mk, *]
              · simp at hio; subst hio; simp [bindD, rdB, Region.binds] at haf; simp [opYield_def, yieldUpon, yielded, relAct, dstAt, Act.put, Region.wanted, go_sem, hC, isU_mk, isB_mk, *]
              · simp at hio; subst hio; simp [bindD, rdB, Region.binds] at haf; simp [opYield_def, yieldUpon, yielded, relAct, dstAt, Act.put, Region.wanted, go_sem, hC, isU_mk, isB_mk, *]
              · simp at hio; subst hio; simp [bindD, rdB, Region.binds] at haf; simp [opYield_def, yieldUpon, yielded, relAct, dstAt, Act.put, Region.wanted, go_sem, hC, isU_mk, isB_mk, *]
              · simp at hio; subst hio; simp [bindD, rdB, Region.binds] at haf; simp [opYield_def, yieldUpon, yielded, relAct, dstAt, Act.put, Region.wanted, go_sem, hC, isU_mk, isB_mk, *]
              · simp at hio; subst hio; simp [bindD, rdB, Region.binds] at haf; simp [opYield_def, yieldUpon, yielded, relAct, dstAt, Act.put, Region.wanted, go_sem, hC, isU_mk, isB_mk, *]
              · simp at hio; subst hio; simp [bindD, rdB, Region.binds] at haf; simp [opYield_def, yieldUpon, yielded, relAct, dstAt, Act.put, Region.wanted, go_sem, hC, isU_mk, isB_mk, *]
              · simp at hio; subst hio; simp [bindD, rdB, Region.binds] at haf; first | (obtain ⟨⟨y1, e1, l1⟩, ⟨y2, e2, l2⟩, e3⟩ := haf; simp [opYield_def, yieldUpon, yielded, relAct, dstAt, Act.put, Region.wanted, go_sem, hC, isU_mk, isB_mk, *]; exact (less16 y1 y2 W).mono fun e w' ⟨h1, h2⟩ => ⟨_, h1, by rw [h2]; exact hC, _, rfl⟩) | (obtain ⟨⟨y1, e1, l1⟩, ⟨y2, e2, l2⟩⟩ := haf; simp [opYield_def, yieldUpon, yielded, relAct, dstAt, Act.put, Region.wanted, go_sem, hC, isU_mk, isB_mk, *]; exact (less16 y1 y2 W).mono fun e w' ⟨h1, h2⟩ => ⟨_, h1, by rw [h2]; exact hC, _, rfl⟩)
              · simp at hio; subst hio; simp [bindD, rdB, Region.binds] at haf; first | (simp [opYield_def, yieldUpon, yielded, relAct, dstAt, Act.put, Region.wanted, go_sem, hC, isU_mk, isB_mk, *]; done) | (obtain ⟨y, e1⟩ := haf; simp [opYield_def, yieldUpon, yielded, relAct, dstAt, Act.put, Region.wanted, go_sem, hC, isU_mk, isB_mk, *]; done) | (obtain ⟨⟨y, e1⟩, e2⟩ := haf; simp [opYield_def, yieldUpon, yielded, relAct, dstAt, Act.put, Region.wanted, go_sem, hC, isU_mk, isB_mk, *]; done) | (obtain ⟨e2, ⟨y, e1⟩⟩ := haf; simp [opYield_def, yieldUpon, yielded, relAct, dstAt, Act.put, Region.wanted, go_sem, hC, isU_mk, isB_mk, *]; done)
              · exfalso; simp at hio
            · intro vals W ac hC hF hac
              obtain ⟨o, ho⟩ : isB (vals 13) := hF 13 (by show 13 < 14; omega)
              simp [relAct, dstAt, Act.put] at hac
              rw [ho] at hac
              subst hac
              clear hF
              have hwD := hC.drew
              cases o
              · go_upto_region 6 with fail
                refine wp_region_c mixed0 (by kernel_rfl) (CW w g n) hwD [(· = .slice (some ⟨g, 0, none⟩) n c), (· = .int .i64 (fi)), (· = .int .i64 (r)), (· = .int .i64 (fi + r : Nat)), (· = .slice (some ⟨g, 0, none⟩) n c), (· = .int .i64 (fi)), (· = .int .i64 (ch + 1)), (· = .int .i64 (fi + (ch + 1) : Nat)), (· = .slice (some ⟨g, 0, none⟩) n c), (· = .int .i64 (fi)), (· = .int .i64 (ch + 1)), (· = .int .i64 (fi + (ch + 1) : Nat)), (· = .pointer (some ⟨g, fi + (ch + 1), none⟩)), isU, (· = .slice (some ⟨g, 0, none⟩) n c), (· = .int .i64 (fi)), (· = .int .i64 (r)), (· = .int .i64 (fi + r : Nat)), (· = .pointer (some ⟨g, fi + r, none⟩)), isU, (· = .pointer (some ⟨g, fi + r, none⟩)), fun _ => True, (· = .pointer (some ⟨g, fi + (ch + 1), none⟩)), fun _ => True] ?_ ?_
                · intro i q hio vals W hC haf
                  obtain ⟨x0, q0, hx0⟩ := hC.2.cell (fi + r) (by omega)
                  have f0 := hC.2.frozen (fi + r)
                  have t0 : isU (.int .u16 x0) := isU_mk _ hx0
                  obtain ⟨x1, q1, hx1⟩ := hC.2.cell (fi + (ch + 1)) (by omega)
                  have f1 := hC.2.frozen (fi + (ch + 1))
                  have t1 : isU (.int .u16 x1) := isU_mk _ hx1
                  have r0 : IntKind.i64.wrap ((fi : Int) + (r : Int)) = (fi : Int) + (r : Int) := by first | omega | exact IntWalk.i64_in _ (by omega) | go_num
                  have r1 : ((fi : Int) + (r : Int)).toNat = (fi) + (r) := by first | omega | exact IntWalk.i64_in _ (by omega) | go_num
                  have r2 : 0 ≤ (fi : Int) + (r : Int) ∧ (fi : Int) + (r : Int) < (n : Int) := by first | omega | exact IntWalk.i64_in _ (by omega) | go_num
                  have r3 : IntKind.i64.wrap ((fi : Int) + ((ch : Int) + 1)) = (fi : Int) + ((ch : Int) + 1) := by first | omega | exact IntWalk.i64_in _ (by omega) | go_num
                  have r4 : ((fi : Int) + ((ch : Int) + 1)).toNat = (fi) + (ch + 1) := by first | omega | exact IntWalk.i64_in _ (by omega) | go_num
                  have r5 : 0 ≤ (fi : Int) + ((ch : Int) + 1) ∧ (fi : Int) + ((ch : Int) + 1) < (n : Int) := by first | omega | exact IntWalk.i64_in _ (by omega) | go_num
                  rcases i with _ | _ | _ | _ | _ | _ | _ | _ | _ | _ | _ | _ | _ | _ | _ | _ | _ | _ | _ | _ | _ | _ | _ | _ | i
                  · simp at hio; subst hio; simp [bindD, rdB, Region.binds] at haf; simp [opYield_def, yieldUpon, yielded, relAct, dstAt, Act.put, Region.wanted, go_sem, hC, isU_mk, isB_mk, *]
                  · simp at hio; subst hio; simp [bindD, rdB, Region.binds] at haf; simp [opYield_def, yieldUpon, yielded, relAct, dstAt, Act.put, Region.wanted, go_sem, hC, isU_mk, isB_mk, *]
                  · simp at hio; subst hio; simp [bindD, rdB, Region.binds] at haf; simp [opYield_def, yieldUpon, yielded, relAct, dstAt, Act.put, Region.wanted, go_sem, hC, isU_mk, isB_mk, *]
                  · simp at hio; subst hio; simp [bindD, rdB, Region.binds] at haf; simp [opYield_def, yieldUpon, yielded, relAct, dstAt, Act.put, Region.wanted, go_sem, hC, isU_mk, isB_mk, *]
                  · simp at hio; subst hio; simp [bindD, rdB, Region.binds] at haf; simp [opYield_def, yieldUpon, yielded, relAct, dstAt, Act.put, Region.wanted, go_sem, hC, isU_mk, isB_mk, *]
                  · simp at hio; subst hio; simp [bindD, rdB, Region.binds] at haf; simp [opYield_def, yieldUpon, yielded, relAct, dstAt, Act.put, Region.wanted, go_sem, hC, isU_mk, isB_mk, *]
                  · simp at hio; subst hio; simp [bindD, rdB, Region.binds] at haf; simp [opYield_def, yieldUpon, yielded, relAct, dstAt, Act.put, Region.wanted, go_sem, hC, isU_mk, isB_mk, *]
                  · simp at hio; subst hio; simp [bindD, rdB, Region.binds] at haf; simp [opYield_def, yieldUpon, yielded, relAct, dstAt, Act.put, Region.wanted, go_sem, hC, isU_mk, isB_mk, *]
                  · simp at hio; subst hio; simp [bindD, rdB, Region.binds] at haf; simp [opYield_def, yieldUpon, yielded, relAct, dstAt, Act.put, Region.wanted, go_sem, hC, isU_mk, isB_mk, *]
                  · simp at hio; subst hio; simp [bindD, rdB, Region.binds] at haf; simp [opYield_def, yieldUpon, yielded, relAct, dstAt, Act.put, Region.wanted, go_sem, hC, isU_mk, isB_mk, *]
                  · simp at hio; subst hio; simp [bindD, rdB, Region.binds] at haf; simp [opYield_def, yieldUpon, yielded, relAct, dstAt, Act.put, Region.wanted, go_sem, hC, isU_mk, isB_mk, *]
                  · simp at hio; subst hio; simp [bindD, rdB, Region.binds] at haf; simp [opYield_def, yieldUpon, yielded, relAct, dstAt, Act.put, Region.wanted, go_sem, hC, isU_mk, isB_mk, *]
                  · simp at hio; subst hio; simp [bindD, rdB, Region.binds] at haf; simp [opYield_def, yieldUpon, yielded, relAct, dstAt, Act.put, Region.wanted, go_sem, hC, isU_mk, isB_mk, *]
                  · simp at hio; subst hio; simp [bindD, rdB, Region.binds] at haf; simp [opYield_def, yieldUpon, yielded, relAct, dstAt, Act.put, Region.wanted, go_sem, hC, isU_mk, isB_mk, *]
                  · simp at hio; subst hio; simp [bindD, rdB, Region.binds] at haf; simp [opYield_def, yieldUpon, yielded, relAct, dstAt, Act.put, Region.wanted, go_sem, hC, isU_mk, isB_mk, *]
                  · simp at hio; subst hio; simp [bindD, rdB, Region.binds] at haf; simp [opYield_def, yieldUpon, yielded, relAct, dstAt, Act.put, Region.wanted, go_sem, hC, isU_mk, isB_mk, *]
                  · simp at hio; subst hio; simp [bindD, rdB, Region.binds] at haf; simp [opYield_def, yieldUpon, yielded, relAct, dstAt, Act.put, Region.wanted, go_sem, hC, isU_mk, isB_mk, *]
                  · simp at hio; subst hio; simp [bindD, rdB, Region.binds] at haf; simp [opYield_def, yieldUpon, yielded, relAct, dstAt, Act.put, Region.wanted, go_sem, hC, isU_mk, isB_mk, *]
                  · simp at hio; subst hio; simp [bindD, rdB, Region.binds] at haf; simp [opYield_def, yieldUpon, yielded, relAct, dstAt, Act.put, Region.wanted, go_sem, hC, isU_mk, isB_mk, *]
                  · simp at hio; subst hio; simp [bindD, rdB, Region.binds] at haf; simp [opYield_def, yieldUpon, yielded, relAct, dstAt, Act.put, Region.wanted, go_sem, hC, isU_mk, isB_mk, *]
                  · simp at hio; subst hio; simp [bindD, rdB, Region.binds] at haf; simp [opYield_def, yieldUpon, yielded, relAct, dstAt, Act.put, Region.wanted, go_sem, hC, isU_mk, isB_mk, *]
                  · simp at hio; subst hio; simp [bindD, rdB, Region.binds] at haf; first | (obtain ⟨e1, y2, e2, l2⟩ := haf; simp [opYield_def, yieldUpon, yielded, relAct, dstAt, Act.put, Region.wanted, go_sem, hC, isU_mk, isB_mk, *]; exact hC.set _ _ l2) | (obtain ⟨⟨y2, e2, l2⟩, e1⟩ := haf; simp [opYield_def, yieldUpon, yielded, relAct, dstAt, Act.put, Region.wanted, go_sem, hC, isU_mk, isB_mk, *]; exact hC.set _ _ l2)
                  · simp at hio; subst hio; simp [bindD, rdB, Region.binds] at haf; simp [opYield_def, yieldUpon, yielded, relAct, dstAt, Act.put, Region.wanted, go_sem, hC, isU_mk, isB_mk, *]
                  · simp at hio; subst hio; simp [bindD, rdB, Region.binds] at haf; first | (obtain ⟨e1, y2, e2, l2⟩ := haf; simp [opYield_def, yieldUpon, yielded, relAct, dstAt, Act.put, Region.wanted, go_sem, hC, isU_mk, isB_mk, *]; exact hC.set _ _ l2) | (obtain ⟨⟨y2, e2, l2⟩, e1⟩ := haf; simp [opYield_def, yieldUpon, yielded, relAct, dstAt, Act.put, Region.wanted, go_sem, hC, isU_mk, isB_mk, *]; exact hC.set _ _ l2)
                  · exfalso; simp at hio
                · intro vals W ac hC hF hac
                  simp [relAct, dstAt, Act.put] at hac
                  subst hac
                  clear hF
                  have hwD := hC.drew
                  go_wp2_with fail
                  exact ⟨⟨ch + 1, by go_num, by omega, hC⟩, by simp [intOf]; omega⟩
              · go_wp2_with fail
                first | refine bodyPost_end (results_none rfl _ _ _) rfl ?_ | refine bodyPost_ret (results_none rfl _ _ _) rfl ?_
                exact ⟨rfl, hC⟩
      · refine wp_region_c mixed0 (by kernel_rfl) (CW w g n) hwD [(· = .int .i64 (ch)), (· = .int .i64 (ch + 1 : Nat)), (· = .int .i64 (hi)), (· = .bool false), (· = .bool false), fun _ => True, fun _ => True, fun _ => True, fun _ => True, fun _ => True, fun _ => True, fun _ => True, fun _ => True, fun _ => True, fun _ => True, fun _ => True, fun _ => True, fun _ => True, fun _ => True, (· = .bool false)] ?_ ?_
        · intro i q hio vals W hC haf
          have r0 : IntKind.i64.wrap ((ch : Int) + 1) = (ch : Int) + 1 := by first | omega | exact IntWalk.i64_in _ (by omega) | go_num
          have r1 : ¬ (ch : Int) + 1 < (hi : Int) := by first | omega | exact IntWalk.i64_in _ (by omega) | go_num
          have r2 : ¬ ch + 1 < hi := by first | omega | exact IntWalk.i64_in _ (by omega) | go_num
          rcases i with _ | _ | _ | _ | _ | _ | _ | _ | _ | _ | _ | _ | _ | _ | _ | _ | _ | _ | _ | _ | i
          · simp at hio; subst hio; simp [bindD, rdB, Region.binds] at haf; simp [opYield_def, yieldUpon, yielded, relAct, dstAt, Act.put, Region.wanted, go_sem, hC, isU_mk, isB_mk, *]
          · simp at hio; subst hio; simp [bindD, rdB, Region.binds] at haf; simp [opYield_def, yieldUpon, yielded, relAct, dstAt, Act.put, Region.wanted, go_sem, hC, isU_mk, isB_mk, *]
          · simp at hio; subst hio; simp [bindD, rdB, Region.binds] at haf; simp [opYield_def, yieldUpon, yielded, relAct, dstAt, Act.put, Region.wanted, go_sem, hC, isU_mk, isB_mk, *]
          · simp at hio; subst hio; simp [bindD, rdB, Region.binds] at haf; simp [opYield_def, yieldUpon, yielded, relAct, dstAt, Act.put, Region.wanted, go_sem, hC, isU_mk, isB_mk, *]
          · simp at hio; subst hio; simp [bindD, rdB, Region.binds] at haf; simp [opYield_def, yieldUpon, yielded, relAct, dstAt, Act.put, Region.wanted, go_sem, hC, isU_mk, isB_mk, *]
          · simp at hio; subst hio; simp [bindD, rdB, Region.binds] at haf; simp [opYield_def, yieldUpon, yielded, relAct, dstAt, Act.put, Region.wanted, go_sem, hC, isU_mk, isB_mk, *]
          · simp at hio; subst hio; simp [bindD, rdB, Region.binds] at haf; simp [opYield_def, yieldUpon, yielded, relAct, dstAt, Act.put, Region.wanted, go_sem, hC, isU_mk, isB_mk, *]
          · simp at hio; subst hio; simp [bindD, rdB, Region.binds] at haf; simp [opYield_def, yieldUpon, yielded, relAct, dstAt, Act.put, Region.wanted, go_sem, hC, isU_mk, isB_mk, *]
          · simp at hio; subst hio; simp [bindD, rdB, Region.binds] at haf; simp [opYield_def, yieldUpon, yielded, relAct, dstAt, Act.put, Region.wanted, go_sem, hC, isU_mk, isB_mk, *]
          · simp at hio; subst hio; simp [bindD, rdB, Region.binds] at haf; simp [opYield_def, yieldUpon, yielded, relAct, dstAt, Act.put, Region.wanted, go_sem, hC, isU_mk, isB_mk, *]
          · simp at hio; subst hio; simp [bindD, rdB, Region.binds] at haf; simp [opYield_def, yieldUpon, yielded, relAct, dstAt, Act.put, Region.wanted, go_sem, hC, isU_mk, isB_mk, *]
          · simp at hio; subst hio; simp [bindD, rdB, Region.binds] at haf; simp [opYield_def, yieldUpon, yielded, relAct, dstAt, Act.put, Region.wanted, go_sem, hC, isU_mk, isB_mk, *]
          · simp at hio; subst hio; simp [bindD, rdB, Region.binds] at haf; simp [opYield_def, yieldUpon, yielded, relAct, dstAt, Act.put, Region.wanted, go_sem, hC, isU_mk, isB_mk, *]
          · simp at hio; subst hio; simp [bindD, rdB, Region.binds] at haf; simp [opYield_def, yieldUpon, yielded, relAct, dstAt, Act.put, Region.wanted, go_sem, hC, isU_mk, isB_mk, *]
          · simp at hio; subst hio; simp [bindD, rdB, Region.binds] at haf; simp [opYield_def, yieldUpon, yielded, relAct, dstAt, Act.put, Region.wanted, go_sem, hC, isU_mk, isB_mk, *]
          · simp at hio; subst hio; simp [bindD, rdB, Region.binds] at haf; simp [opYield_def, yieldUpon, yielded, relAct, dstAt, Act.put, Region.wanted, go_sem, hC, isU_mk, isB_mk, *]
          · simp at hio; subst hio; simp [bindD, rdB, Region.binds] at haf; simp [opYield_def, yieldUpon, yielded, relAct, dstAt, Act.put, Region.wanted, go_sem, hC, isU_mk, isB_mk, *]
          · simp at hio; subst hio; simp [bindD, rdB, Region.binds] at haf; simp [opYield_def, yieldUpon, yielded, relAct, dstAt, Act.put, Region.wanted, go_sem, hC, isU_mk, isB_mk, *]
          · simp at hio; subst hio; simp [bindD, rdB, Region.binds] at haf; simp [opYield_def, yieldUpon, yielded, relAct, dstAt, Act.put, Region.wanted, go_sem, hC, isU_mk, isB_mk, *]
          · simp at hio; subst hio; simp [bindD, rdB, Region.binds] at haf; first | (simp [opYield_def, yieldUpon, yielded, relAct, dstAt, Act.put, Region.wanted, go_sem, hC, isU_mk, isB_mk, *]; done) | (obtain ⟨y, e1⟩ := haf; simp [opYield_def, yieldUpon, yielded, relAct, dstAt, Act.put, Region.wanted, go_sem, hC, isU_mk, isB_mk, *]; done) | (obtain ⟨⟨y, e1⟩, e2⟩ := haf; simp [opYield_def, yieldUpon, yielded, relAct, dstAt, Act.put, Region.wanted, go_sem, hC, isU_mk, isB_mk, *]; done) | (obtain ⟨e2, ⟨y, e1⟩⟩ := haf; simp [opYield_def, yieldUpon, yielded, relAct, dstAt, Act.put, Region.wanted, go_sem, hC, isU_mk, isB_mk, *]; done)
          · exfalso; simp at hio
        · intro vals W ac hC hF hac
          have ho : vals 19 = .bool false := hF 19 (by show 19 < 20; omega)
          simp [relAct, dstAt, Act.put] at hac
          rw [ho] at hac
          subst hac
          clear hF
          have hwD := hC.drew
          go_upto_region 5 with fail
          refine wp_region_c mixed0 (by kernel_rfl) (CW w g n) hwD [(· = .slice (some ⟨g, 0, none⟩) n c), (· = .int .i64 (fi)), (· = .int .i64 (r)), (· = .int .i64 (fi + r : Nat)), (· = .pointer (some ⟨g, fi + r, none⟩)), isU, (· = .slice (some ⟨g, 0, none⟩) n c), (· = .int .i64 (fi)), (· = .int .i64 (ch)), (· = .int .i64 (fi + (ch) : Nat)), (· = .pointer (some ⟨g, fi + (ch), none⟩)), isU, isB, isB] ?_ ?_
          · intro i q hio vals W hC haf
            obtain ⟨x0, q0, hx0⟩ := hC.2.cell (fi + r) (by omega)
            have f0 := hC.2.frozen (fi + r)
            have t0 : isU (.int .u16 x0) := isU_mk _ hx0
            obtain ⟨x1, q1, hx1⟩ := hC.2.cell (fi + (ch)) (by omega)
            have f1 := hC.2.frozen (fi + (ch))
            have t1 : isU (.int .u16 x1) := isU_mk _ hx1
            have r0 : IntKind.i64.wrap ((fi : Int) + (r : Int)) = (fi : Int) + (r : Int) := by first | omega | exact IntWalk.i64_in _ (by omega) | go_num
            have r1 : ((fi : Int) + (r : Int)).toNat = (fi) + (r) := by first | omega | exact IntWalk.i64_in _ (by omega) | go_num
            have r2 : 0 ≤ (fi : Int) + (r : Int) ∧ (fi : Int) + (r : Int) < (n : Int) := by first | omega | exact IntWalk.i64_in _ (by omega) | go_num
            have r3 : IntKind.i64.wrap ((fi : Int) + (ch : Int)) = (fi : Int) + (ch : Int) := by first | omega | exact IntWalk.i64_in _ (by omega) | go_num
            have r4 : ((fi : Int) + (ch : Int)).toNat = (fi) + (ch) := by first | omega | exact IntWalk.i64_in _ (by omega) | go_num
            have r5 : 0 ≤ (fi : Int) + (ch : Int) ∧ (fi : Int) + (ch : Int) < (n : Int) := by first | omega | exact IntWalk.i64_in _ (by omega) | go_num
            rcases i with _ | _ | _ | _ | _ | _ | _ | _ | _ | _ | _ | _ | _ | _ | i
            · simp at hio; subst hio; simp [bindD, rdB, Region.binds] at haf; simp [opYield_def, yieldUpon, yielded, relAct, dstAt, Act.put, Region.wanted, go_sem, hC, isU_mk, isB_mk, *]
            · simp at hio; subst hio; simp [bindD, rdB, Region.binds] at haf; simp [opYield_def, yieldUpon, yielded, relAct, dstAt, Act.put, Region.wanted, go_sem, hC, isU_mk, isB_mk, *]
            · simp at hio; subst hio; simp [bindD, rdB, Region.binds] at haf; simp [opYield_def, yieldUpon, yielded, relAct, dstAt, Act.put, Region.wanted, go_sem, hC, isU_mk, isB_mk, *]
            · simp at hio; subst hio; simp [bindD, rdB, Region.binds] at haf; simp [opYield_def, yieldUpon, yielded, relAct, dstAt, Act.put, Region.wanted, go_sem, hC, isU_mk, isB_mk, *]
            · simp at hio; subst hio; simp [bindD, rdB, Region.binds] at haf; simp [opYield_def, yieldUpon, yielded, relAct, dstAt, Act.put, Region.wanted, go_sem, hC, isU_mk, isB_mk, *]
            · simp at hio; subst hio; simp [bindD, rdB, Region.binds] at haf; simp [opYield_def, yieldUpon, yielded, relAct, dstAt, Act.put, Region.wanted, go_sem, hC, isU_mk, isB_mk, *]
            · simp at hio; subst hio; simp [bindD, rdB, Region.binds] at haf; simp [opYield_def, yieldUpon, yielded, relAct, dstAt, Act.put, Region.wanted, go_sem, hC, isU_mk, isB_mk, *]
            · simp at hio; subst hio; simp [bindD, rdB, Region.binds] at haf; simp [opYield_def, yieldUpon, yielded, relAct, dstAt, Act.put, Region.wanted, go_sem, hC, isU_mk, isB_mk, *]
            · simp at hio; subst hio; simp [bindD, rdB, Region.binds] at haf; simp [opYield_def, yieldUpon, yielded, relAct, dstAt, Act.put, Region.wanted, go_sem, hC, isU_mk, isB_mk, *]
            · simp at hio; subst hio; simp [bindD, rdB, Region.binds] at haf; simp [opYield_def, yieldUpon, yielded, relAct, dstAt, Act.put, Region.wanted, go_sem, hC, isU_mk, isB_mk, *]
            · simp at hio; subst hio; simp [bindD, rdB, Region.binds] at haf; simp [opYield_def, yieldUpon, yielded, relAct, dstAt, Act.put, Region.wanted, go_sem, hC, isU_mk, isB_mk, *]
            · simp at hio; subst hio; simp [bindD, rdB, Region.binds] at haf; simp [opYield_def, yieldUpon, yielded, relAct, dstAt, Act.put, Region.wanted, go_sem, hC, isU_mk, isB_mk, *]
            · simp at hio; subst hio; simp [bindD, rdB, Region.binds] at haf; first | (obtain ⟨⟨y1, e1, l1⟩, ⟨y2, e2, l2⟩, e3⟩ := haf; simp [opYield_def, yieldUpon, yielded, relAct, dstAt, Act.put, Region.wanted, go_sem, hC, isU_mk, isB_mk, *]; exact (less16 y1 y2 W).mono fun e w' ⟨h1, h2⟩ => ⟨_, h1, by rw [h2]; exact hC, _, rfl⟩) | (obtain ⟨⟨y1, e1, l1⟩, ⟨y2, e2, l2⟩⟩ := haf; simp [opYield_def, yieldUpon, yielded, relAct, dstAt, Act.put, Region.wanted, go_sem, hC, isU_mk, isB_mk, *]; exact (less16 y1 y2 W).mono fun e w' ⟨h1, h2⟩ => ⟨_, h1, by rw [h2]; exact hC, _, rfl⟩)
            · simp at hio; subst hio; simp [bindD, rdB, Region.binds] at haf; first | (simp [opYield_def, yieldUpon, yielded, relAct, dstAt, Act.put, Region.wanted, go_sem, hC, isU_mk, isB_mk, *]; done) | (obtain ⟨y, e1⟩ := haf; simp [opYield_def, yieldUpon, yielded, relAct, dstAt, Act.put, Region.wanted, go_sem, hC, isU_mk, isB_mk, *]; done) | (obtain ⟨⟨y, e1⟩, e2⟩ := haf; simp [opYield_def, yieldUpon, yielded, relAct, dstAt, Act.put, Region.wanted, go_sem, hC, isU_mk, isB_mk, *]; done) | (obtain ⟨e2, ⟨y, e1⟩⟩ := haf; simp [opYield_def, yieldUpon, yielded, relAct, dstAt, Act.put, Region.wanted, go_sem, hC, isU_mk, isB_mk, *]; done)
            · exfalso; simp at hio
          · intro vals W ac hC hF hac
            obtain ⟨o, ho⟩ : isB (vals 13) := hF 13 (by show 13 < 14; omega)
            simp [relAct, dstAt, Act.put] at hac
            rw [ho] at hac
            subst hac
            clear hF
            have hwD := hC.drew
            cases o
            · go_upto_region 6 with fail
              refine wp_region_c mixed0 (by kernel_rfl) (CW w g n) hwD [(· = .slice (some ⟨g, 0, none⟩) n c), (· = .int .i64 (fi)), (· = .int .i64 (r)), (· = .int .i64 (fi + r : Nat)), (· = .slice (some ⟨g, 0, none⟩) n c), (· = .int .i64 (fi)), (· = .int .i64 (ch)), (· = .int .i64 (fi + (ch) : Nat)), (· = .slice (some ⟨g, 0, none⟩) n c), (· = .int .i64 (fi)), (· = .int .i64 (ch)), (· = .int .i64 (fi + (ch) : Nat)), (· = .pointer (some ⟨g, fi + (ch), none⟩)), isU, (· = .slice (some ⟨g, 0, none⟩) n c), (· = .int .i64 (fi)), (· = .int .i64 (r)), (· = .int .i64 (fi + r : Nat)), (· = .pointer (some ⟨g, fi + r, none⟩)), isU, (· = .pointer (some ⟨g, fi + r, none⟩)), fun _ => True, (· = .pointer (some ⟨g, fi + (ch), none⟩)), fun _ => True] ?_ ?_
              · intro i q hio vals W hC haf
                obtain ⟨x0, q0, hx0⟩ := hC.2.cell (fi + r) (by omega)
                have f0 := hC.2.frozen (fi + r)
                have t0 : isU (.int .u16 x0) := isU_mk _ hx0
                obtain ⟨x1, q1, hx1⟩ := hC.2.cell (fi + (ch)) (by omega)
                have f1 := hC.2.frozen (fi + (ch))
                have t1 : isU (.int .u16 x1) := isU_mk _ hx1
                have r0 : IntKind.i64.wrap ((fi : Int) + (r : Int)) = (fi : Int) + (r : Int) := by first | omega | exact IntWalk.i64_in _ (by omega) | go_num
                have r1 : ((fi : Int) + (r : Int)).toNat = (fi) + (r) := by first | omega | exact IntWalk.i64_in _ (by omega) | go_num
                have r2 : 0 ≤ (fi : Int) + (r : Int) ∧ (fi : Int) + (r : Int) < (n : Int) := by first | omega | exact IntWalk.i64_in _ (by omega) | go_num
                have r3 : IntKind.i64.wrap ((fi : Int) + (ch : Int)) = (fi : Int) + (ch : Int) := by first | omega | exact IntWalk.i64_in _ (by omega) | go_num
                have r4 : ((fi : Int) + (ch : Int)).toNat = (fi) + (ch) := by first | omega | exact IntWalk.i64_in _ (by omega) | go_num
                have r5 : 0 ≤ (fi : Int) + (ch : Int) ∧ (fi : Int) + (ch : Int) < (n : Int) := by first | omega | exact IntWalk.i64_in _ (by omega) | go_num
                rcases i with _ | _ | _ | _ | _ | _ | _ | _ | _ | _ | _ | _ | _ | _ | _ | _ | _ | _ | _ | _ | _ | _ | _ | _ | i
                · simp at hio; subst hio; simp [bindD, rdB, Region.binds] at haf; simp [opYield_def, yieldUpon, yielded, relAct, dstAt, Act.put, Region.wanted, go_sem, hC, isU_mk, isB_mk, *]
                · simp at hio; subst hio; simp [bindD, rdB, Region.binds] at haf; simp [opYield_def, yieldUpon, yielded, relAct, dstAt, Act.put, Region.wanted, go_sem, hC, isU_mk, isB_mk, *]
                · simp at hio; subst hio; simp [bindD, rdB, Region.binds] at haf; simp [opYield_def, yieldUpon, yielded, relAct, dstAt, Act.put, Region.wanted, go_sem, hC, isU_mk, isB_mk, *]
                · simp at hio; subst hio; simp [bindD, rdB, Region.binds] at haf; simp [opYield_def, yieldUpon, yielded, relAct, dstAt, Act.put, Region.wanted, go_sem, hC, isU_mk, isB_mk, *]
                · simp at hio; subst hio; simp [bindD, rdB, Region.binds] at haf; simp [opYield_def, yieldUpon, yielded, relAct, dstAt, Act.put, Region.wanted, go_sem, hC, isU_mk, isB_mk, *]
                · simp at hio; subst hio; simp [bindD, rdB, Region.binds] at haf; simp [opYield_def, yieldUpon, yielded, relAct, dstAt, Act.put, Region.wanted, go_sem, hC, isU_mk, isB_mk, *]
                · simp at hio; subst hio; simp [bindD, rdB, Region.binds] at haf; simp [opYield_def, yieldUpon, yielded, relAct, dstAt, Act.put, Region.wanted, go_sem, hC, isU_mk, isB_mk, *]
                · simp at hio; subst hio; simp [bindD, rdB, Region.binds] at haf; simp [opYield_def, yieldUpon, yielded, relAct, dstAt, Act.put, Region.wanted, go_sem, hC, isU_mk, isB_mk, *]
                · simp at hio; subst hio; simp [bindD, rdB, Region.binds] at haf; simp [opYield_def, yieldUpon, yielded, relAct, dstAt, Act.put, Region.wanted, go_sem, hC, isU_mk, isB_mk, *]
                · simp at hio; subst hio; simp [bindD, rdB, Region.binds] at haf; simp [opYield_def, yieldUpon, yielded, relAct, dstAt, Act.put, Region.wanted, go_sem, hC, isU_mk, isB_mk, *]
                · simp at hio; subst hio; simp [bindD, rdB, Region.binds] at haf; simp [opYield_def, yieldUpon, yielded, relAct, dstAt, Act.put, Region.wanted, go_sem, hC, isU_mk, isB_mk, *]
                · simp at hio; subst hio; simp [bindD, rdB, Region.binds] at haf; simp [opYield_def, yieldUpon, yielded, relAct, dstAt, Act.put, Region.wanted, go_sem, hC, isU_mk, isB_mk, *]
                · simp at hio; subst hio; simp [bindD, rdB, Region.binds] at haf; simp [opYield_def, yieldUpon, yielded, relAct, dstAt, Act.put, Region.wanted, go_sem, hC, isU_mk, isB_mk, *]
                · simp at hio; subst hio; simp [bindD, rdB, Region.binds] at haf; simp [opYield_def, yieldUpon, yielded, relAct, dstAt, Act.put, Region.wanted, go_sem, hC, isU_mk, isB_mk, *]
                · simp at hio; subst hio; simp [bindD, rdB, Region.binds] at haf; simp [opYield_def, yieldUpon, yielded, relAct, dstAt, Act.put, Region.wanted, go_sem, hC, isU_mk, isB_mk, *]
                · simp at hio; subst hio; simp [bindD, rdB, Region.binds] at haf; simp [opYield_def, yieldUpon, yielded, relAct, dstAt, Act.put, Region.wanted, go_sem, hC, isU_mk, isB_mk, *]
                · simp at hio; subst hio; simp [bindD, rdB, Region.binds] at haf; simp [opYield_def, yieldUpon, yielded, relAct, dstAt, Act.put, Region.wanted, go_sem, hC, isU_mk, isB_mk, *]
                · simp at hio; subst hio; simp [bindD, rdB, Region.binds] at haf; simp [opYield_def, yieldUpon, yielded, relAct, dstAt, Act.put, Region.wanted, go_sem, hC, isU_mk, isB_mk, *]
                · simp at hio; subst hio; simp [bindD, rdB, Region.binds] at haf; simp [opYield_def, yieldUpon, yielded, relAct, dstAt, Act.put, Region.wanted, go_sem, hC, isU_mk, isB_mk, *]
                · simp at hio; subst hio; simp [bindD, rdB, Region.binds] at haf; simp [opYield_def, yieldUpon, yielded, relAct, dstAt, Act.put, Region.wanted, go_sem, hC, isU_mk, isB_mk, *]
                · simp at hio; subst hio; simp [bindD, rdB, Region.binds] at haf; simp [opYield_def, yieldUpon, yielded, relAct, dstAt, Act.put, Region.wanted, go_sem, hC, isU_mk, isB_mk, *]
                · simp at hio; subst hio; simp [bindD, rdB, Region.binds] at haf; first | (obtain ⟨e1, y2, e2, l2⟩ := haf; simp [opYield_def, yieldUpon, yielded, relAct, dstAt, Act.put, Region.wanted, go_sem, hC, isU_mk, isB_mk, *]; exact hC.set _ _ l2) | (obtain ⟨⟨y2, e2, l2⟩, e1⟩ := haf; simp [opYield_def, yieldUpon, yielded, relAct, dstAt, Act.put, Region.wanted, go_sem, hC, isU_mk, isB_mk, *]; exact hC.set _ _ l2)
                · simp at hio; subst hio; simp [bindD, rdB, Region.binds] at haf; simp [opYield_def, yieldUpon, yielded, relAct, dstAt, Act.put, Region.wanted, go_sem, hC, isU_mk, isB_mk, *]
                · simp at hio; subst hio; simp [bindD, rdB, Region.binds] at haf; first | (obtain ⟨e1, y2, e2, l2⟩ := haf; simp [opYield_def, yieldUpon, yielded, relAct, dstAt, Act.put, Region.wanted, go_sem, hC, isU_mk, isB_mk, *]; exact hC.set _ _ l2) | (obtain ⟨⟨y2, e2, l2⟩, e1⟩ := haf; simp [opYield_def, yieldUpon, yielded, relAct, dstAt, Act.put, Region.wanted, go_sem, hC, isU_mk, isB_mk, *]; exact hC.set _ _ l2)
                · exfalso; simp at hio
              · intro vals W ac hC hF hac
                simp [relAct, dstAt, Act.put] at hac
                subst hac
                clear hF
                have hwD := hC.drew
                go_wp2_with fail
                exact ⟨⟨ch, by go_num, by omega, hC⟩, by simp [intOf]; omega⟩
            · go_wp2_with fail
              first | refine bodyPost_end (results_none rfl _ _ _) rfl ?_ | refine bodyPost_ret (results_none rfl _ _ _) rfl ?_
              exact ⟨rfl, hC⟩
    · go_wp2_with fail
      first | refine bodyPost_end (results_none rfl _ _ _) rfl ?_ | refine bodyPost_ret (results_none rfl _ _ _) rfl ?_
      exact ⟨rfl, hw⟩
end Nm
end Go.Proofs.YtkeimgamjnpcbaaGreat

/- partitionEqualOrdered at uint16, whatever the row holds. (Printed by a program: wip/gen_pdq5.py.) -/
namespace Go.Proofs.YtkeimgamjnpcbaaGreat
open Go.RowKit
set_option linter.unusedVariables false
set_option linter.unusedSimpArgs false
namespace Nm
def IdxR (lo hi : Nat) (w : World) (g n : Nat) (v : Value) (W : World) : Prop := ∃ k : Nat, v = .int .i64 k ∧ lo ≤ k ∧ k ≤ hi ∧ CW w g n W
def Idx2 (lo1 hi1 lo2 hi2 : Nat) (w : World) (g n : Nat) (v u : Value) (W : World) : Prop := ∃ k l : Nat, v = .int .i64 k ∧ u = .int .i64 l ∧ lo1 ≤ k ∧ k ≤ hi1 ∧ lo2 ≤ l ∧ l ≤ hi2 ∧ CW w g n W
set_option maxRecDepth 100000 in
set_option maxHeartbeats 20000000 in
theorem parteq16 (g n c a b p : Nat) (w : World) (h : Row16 w g n) (hc : n ≤ c) (hb : b ≤ n) (hap : a ≤ p) (hpb : p < b) (hn : n ≤ 1000000000) :
    Calls Tryz.prog 207 #[.slice (some ⟨g, 0, none⟩) n c, .int .i64 a, .int .i64 b, .int .i64 p] w fun e w' => (∃ m : Nat, e = .returned (.int .i64 m) ∧ a < m ∧ m ≤ b) ∧ CW w g n w' := by
  go_enter Tryz.func207, Tryz.ntmps207
  have hwD := (CW.refl h).drew
  go_upto_region 1 with fail
  refine wp_region_c mixed0 (by kernel_rfl) (CW w g n) hwD [(· = .slice (some ⟨g, 0, none⟩) n c), (· = .int .i64 (a)), (· = .slice (some ⟨g, 0, none⟩) n c), (· = .int .i64 (p)), (· = .slice (some ⟨g, 0, none⟩) n c), (· = .int .i64 (p)), (· = .pointer (some ⟨g, p, none⟩)), isU, (· = .slice (some ⟨g, 0, none⟩) n c), (· = .int .i64 (a)), (· = .pointer (some ⟨g, a, none⟩)), isU, (· = .pointer (some ⟨g, a, none⟩)), fun _ => True, (· = .pointer (some ⟨g, p, none⟩)), fun _ => True] ?_ ?_
  · intro ix q hio vals W hC haf
    obtain ⟨x0, q0, hx0⟩ := hC.2.cell (a) (by omega)
    have f0 := hC.2.frozen (a)
    have t0 : isU (.int .u16 x0) := isU_mk _ hx0
    obtain ⟨x1, q1, hx1⟩ := hC.2.cell (p) (by omega)
    have f1 := hC.2.frozen (p)
    have t1 : isU (.int .u16 x1) := isU_mk _ hx1
    have r0 : a < n := by first | omega | exact IntWalk.i64_in _ (by omega) | go_num
    have r1 : p < n := by first | omega | exact IntWalk.i64_in _ (by omega) | go_num
    rcases ix with _ | _ | _ | _ | _ | _ | _ | _ | _ | _ | _ | _ | _ | _ | _ | _ | ix
    · simp at hio; subst hio; simp [bindD, rdB, Region.binds] at haf; simp [opYield_def, yieldUpon, yielded, relAct, dstAt, Act.put, Region.wanted, go_sem, hC, isU_mk, isB_mk, *]
    · simp at hio; subst hio; simp [bindD, rdB, Region.binds] at haf; simp [opYield_def, yieldUpon, yielded, relAct, dstAt, Act.put, Region.wanted, go_sem, hC, isU_mk, isB_mk, *]
    · simp at hio; subst hio; simp [bindD, rdB, Region.binds] at haf; simp [opYield_def, yieldUpon, yielded, relAct, dstAt, Act.put, Region.wanted, go_sem, hC, isU_mk, isB_mk, *]
    · simp at hio; subst hio; simp [bindD, rdB, Region.binds] at haf; simp [opYield_def, yieldUpon, yielded, relAct, dstAt, Act.put, Region.wanted, go_sem, hC, isU_mk, isB_mk, *]
    · simp at hio; subst hio; simp [bindD, rdB, Region.binds] at haf; simp [opYield_def, yieldUpon, yielded, relAct, dstAt, Act.put, Region.wanted, go_sem, hC, isU_mk, isB_mk, *]
    · simp at hio; subst hio; simp [bindD, rdB, Region.binds] at haf; simp [opYield_def, yieldUpon, yielded, relAct, dstAt, Act.put, Region.wanted, go_sem, hC, isU_mk, isB_mk, *]
    · simp at hio; subst hio; simp [bindD, rdB, Region.binds] at haf; simp [opYield_def, yieldUpon, yielded, relAct, dstAt, Act.put, Region.wanted, go_sem, hC, isU_mk, isB_mk, *]
    · simp at hio; subst hio; simp [bindD, rdB, Region.binds] at haf; simp [opYield_def, yieldUpon, yielded, relAct, dstAt, Act.put, Region.wanted, go_sem, hC, isU_mk, isB_mk, *]
    · simp at hio; subst hio; simp [bindD, rdB, Region.binds] at haf; simp [opYield_def, yieldUpon, yielded, relAct, dstAt, Act.put, Region.wanted, go_sem, hC, isU_mk, isB_mk, *]
    · simp at hio; subst hio; simp [bindD, rdB, Region.binds] at haf; simp [opYield_def, yieldUpon, yielded, relAct, dstAt, Act.put, Region.wanted, go_sem, hC, isU_mk, isB_mk, *]
    · simp at hio; subst hio; simp [bindD, rdB, Region.binds] at haf; simp [opYield_def, yieldUpon, yielded, relAct, dstAt, Act.put, Region.wanted, go_sem, hC, isU_mk, isB_mk, *]
    · simp at hio; subst hio; simp [bindD, rdB, Region.binds] at haf; simp [opYield_def, yieldUpon, yielded, relAct, dstAt, Act.put, Region.wanted, go_sem, hC, isU_mk, isB_mk, *]
    · simp at hio; subst hio; simp [bindD, rdB, Region.binds] at haf; simp [opYield_def, yieldUpon, yielded, relAct, dstAt, Act.put, Region.wanted, go_sem, hC, isU_mk, isB_mk, *]
    · simp at hio; subst hio; simp [bindD, rdB, Region.binds] at haf; first | (obtain ⟨e1, y2, e2, l2⟩ := haf; simp [opYield_def, yieldUpon, yielded, relAct, dstAt, Act.put, Region.wanted, go_sem, hC, isU_mk, isB_mk, *]; exact hC.set _ _ l2) | (obtain ⟨⟨y2, e2, l2⟩, e1⟩ := haf; simp [opYield_def, yieldUpon, yielded, relAct, dstAt, Act.put, Region.wanted, go_sem, hC, isU_mk, isB_mk, *]; exact hC.set _ _ l2)
    · simp at hio; subst hio; simp [bindD, rdB, Region.binds] at haf; simp [opYield_def, yieldUpon, yielded, relAct, dstAt, Act.put, Region.wanted, go_sem, hC, isU_mk, isB_mk, *]
    · simp at hio; subst hio; simp [bindD, rdB, Region.binds] at haf; first | (obtain ⟨e1, y2, e2, l2⟩ := haf; simp [opYield_def, yieldUpon, yielded, relAct, dstAt, Act.put, Region.wanted, go_sem, hC, isU_mk, isB_mk, *]; exact hC.set _ _ l2) | (obtain ⟨⟨y2, e2, l2⟩, e1⟩ := haf; simp [opYield_def, yieldUpon, yielded, relAct, dstAt, Act.put, Region.wanted, go_sem, hC, isU_mk, isB_mk, *]; exact hC.set _ _ l2)
    · exfalso; simp at hio
  · intro vals W ac hC hF hac
    simp [relAct, dstAt, Act.put] at hac
    subst hac
    clear hF
    have hwD := hC.drew
    clear hwD
    have hw1 := hC
    clear hC
    go_wp2_with fail
    have hjb : ((b : Int) - 1) = ((b - 1 : Nat) : Int) := by omega
    rw [hjb]
    clear hjb
    go_loopw [9, 10] (Idx2 (a + 1) b a (b - 1) w g n) (fun i j _ => (intOf j).toNat + (b - (intOf i).toNat))
    case atStart => exact ⟨a + 1, b - 1, by go_num, by go_num, by omega, by omega, by omega, by omega, hw1⟩
    case round =>
      obtain ⟨i0, j, rfl, rfl, hi1, hi2, hj1, hj2, hw⟩ := hrel
      go_wp2_with fail
      go_loopw [9] (IdxR i0 b w g n) (fun i _ => b - (intOf i).toNat)
      case atStart => exact ⟨i0, rfl, by omega, by omega, hw⟩
      case round =>
        obtain ⟨i, rfl, hi3, hi4, hw2⟩ := hrel
        have hwD := hw2.drew
        go_upto_region 3 with fail
        refine wp_region_c mixed0 (by kernel_rfl) (CW w g n) hwD [(· = .int .i64 (i)), (· = .int .i64 (j)), (· = .bool (decide (i ≤ j))), (· = .bool (decide (i ≤ j))), (fun v => i ≤ j → v = .slice (some ⟨g, 0, none⟩) n c), (fun v => i ≤ j → v = .int .i64 (a)), (fun v => i ≤ j → v = .pointer (some ⟨g, a, none⟩)), (fun v => i ≤ j → isU v), (fun v => i ≤ j → v = .slice (some ⟨g, 0, none⟩) n c), (fun v => i ≤ j → v = .int .i64 (i)), (fun v => i ≤ j → v = .pointer (some ⟨g, i, none⟩)), (fun v => i ≤ j → isU v), (fun v => i ≤ j → isB v), (fun v => i ≤ j → isB v), (fun v => ∃ o : Bool, v = .bool o ∧ (o = true → i ≤ j))] ?_ ?_
        · intro ix q hio vals W hC haf
          by_cases hg : i ≤ j
          · obtain ⟨x0, q0, hx0⟩ := hC.2.cell (a) (by omega)
            have f0 := hC.2.frozen (a)
            have t0 : isU (.int .u16 x0) := isU_mk _ hx0
            obtain ⟨x1, q1, hx1⟩ := hC.2.cell (i) (by omega)
            have f1 := hC.2.frozen (i)
            have t1 : isU (.int .u16 x1) := isU_mk _ hx1
            have r0 : a < n := by first | omega | exact IntWalk.i64_in _ (by omega) | go_num
            have r1 : i < n := by first | omega | exact IntWalk.i64_in _ (by omega) | go_num
            rcases ix with _ | _ | _ | _ | _ | _ | _ | _ | _ | _ | _ | _ | _ | _ | _ | ix
            · simp at hio; subst hio; simp [bindD, rdB, Region.binds, hg] at haf; simp [opYield_def, yieldUpon, yielded, relAct, dstAt, Act.put, Region.wanted, go_sem, hC, isU_mk, isB_mk, *]
            · simp at hio; subst hio; simp [bindD, rdB, Region.binds, hg] at haf; simp [opYield_def, yieldUpon, yielded, relAct, dstAt, Act.put, Region.wanted, go_sem, hC, isU_mk, isB_mk, *]
            · simp at hio; subst hio; simp [bindD, rdB, Region.binds, hg] at haf; simp [opYield_def, yieldUpon, yielded, relAct, dstAt, Act.put, Region.wanted, go_sem, hC, isU_mk, isB_mk, *]
            · simp at hio; subst hio; simp [bindD, rdB, Region.binds, hg] at haf; simp [opYield_def, yieldUpon, yielded, relAct, dstAt, Act.put, Region.wanted, go_sem, hC, isU_mk, isB_mk, *]
            · simp at hio; subst hio; simp [bindD, rdB, Region.binds, hg] at haf; simp [opYield_def, yieldUpon, yielded, relAct, dstAt, Act.put, Region.wanted, go_sem, hC, isU_mk, isB_mk, *]
            · simp at hio; subst hio; simp [bindD, rdB, Region.binds, hg] at haf; simp [opYield_def, yieldUpon, yielded, relAct, dstAt, Act.put, Region.wanted, go_sem, hC, isU_mk, isB_mk, *]
            · simp at hio; subst hio; simp [bindD, rdB, Region.binds, hg] at haf; simp [opYield_def, yieldUpon, yielded, relAct, dstAt, Act.put, Region.wanted, go_sem, hC, isU_mk, isB_mk, *]
            · simp at hio; subst hio; simp [bindD, rdB, Region.binds, hg] at haf; simp [opYield_def, yieldUpon, yielded, relAct, dstAt, Act.put, Region.wanted, go_sem, hC, isU_mk, isB_mk, *]
            · simp at hio; subst hio; simp [bindD, rdB, Region.binds, hg] at haf; simp [opYield_def, yieldUpon, yielded, relAct, dstAt, Act.put, Region.wanted, go_sem, hC, isU_mk, isB_mk, *]
            · simp at hio; subst hio; simp [bindD, rdB, Region.binds, hg] at haf; simp [opYield_def, yieldUpon, yielded, relAct, dstAt, Act.put, Region.wanted, go_sem, hC, isU_mk, isB_mk, *]
            · simp at hio; subst hio; simp [bindD, rdB, Region.binds, hg] at haf; simp [opYield_def, yieldUpon, yielded, relAct, dstAt, Act.put, Region.wanted, go_sem, hC, isU_mk, isB_mk, *]
            · simp at hio; subst hio; simp [bindD, rdB, Region.binds, hg] at haf; simp [opYield_def, yieldUpon, yielded, relAct, dstAt, Act.put, Region.wanted, go_sem, hC, isU_mk, isB_mk, *]
            · simp at hio; subst hio; simp [bindD, rdB, Region.binds, hg] at haf; first | (obtain ⟨⟨y1, e1, l1⟩, ⟨y2, e2, l2⟩, e3⟩ := haf; simp [opYield_def, yieldUpon, yielded, relAct, dstAt, Act.put, Region.wanted, go_sem, hC, isU_mk, isB_mk, *]; exact (less16 y1 y2 W).mono fun e w' ⟨h1, h2⟩ => ⟨_, h1, by rw [h2]; exact hC, _, rfl⟩) | (obtain ⟨⟨y1, e1, l1⟩, ⟨y2, e2, l2⟩⟩ := haf; simp [opYield_def, yieldUpon, yielded, relAct, dstAt, Act.put, Region.wanted, go_sem, hC, isU_mk, isB_mk, *]; exact (less16 y1 y2 W).mono fun e w' ⟨h1, h2⟩ => ⟨_, h1, by rw [h2]; exact hC, _, rfl⟩)
            · simp at hio; subst hio; simp [bindD, rdB, Region.binds, hg] at haf; first | (simp [opYield_def, yieldUpon, yielded, relAct, dstAt, Act.put, Region.wanted, go_sem, hC, isU_mk, isB_mk, *]; done) | (obtain ⟨y, e1⟩ := haf; simp [opYield_def, yieldUpon, yielded, relAct, dstAt, Act.put, Region.wanted, go_sem, hC, isU_mk, isB_mk, *]; done) | (obtain ⟨⟨y, e1⟩, e2⟩ := haf; simp [opYield_def, yieldUpon, yielded, relAct, dstAt, Act.put, Region.wanted, go_sem, hC, isU_mk, isB_mk, *]; done) | (obtain ⟨e2, ⟨y, e1⟩⟩ := haf; simp [opYield_def, yieldUpon, yielded, relAct, dstAt, Act.put, Region.wanted, go_sem, hC, isU_mk, isB_mk, *]; done)
            · simp at hio; subst hio; simp [bindD, rdB, Region.binds, hg] at haf; first | (simp [opYield_def, yieldUpon, yielded, relAct, dstAt, Act.put, Region.wanted, go_sem, hC, isU_mk, isB_mk, *]; done) | (obtain ⟨y, e1⟩ := haf; simp [opYield_def, yieldUpon, yielded, relAct, dstAt, Act.put, Region.wanted, go_sem, hC, isU_mk, isB_mk, *]; done) | (obtain ⟨⟨y, e1⟩, e2⟩ := haf; simp [opYield_def, yieldUpon, yielded, relAct, dstAt, Act.put, Region.wanted, go_sem, hC, isU_mk, isB_mk, *]; done) | (obtain ⟨e2, ⟨y, e1⟩⟩ := haf; simp [opYield_def, yieldUpon, yielded, relAct, dstAt, Act.put, Region.wanted, go_sem, hC, isU_mk, isB_mk, *]; done)
            · exfalso; simp at hio
          · rcases ix with _ | _ | _ | _ | _ | _ | _ | _ | _ | _ | _ | _ | _ | _ | _ | ix
            · simp at hio; subst hio; simp [bindD, rdB, Region.binds, hg] at haf; simp [opYield_def, yieldUpon, yielded, relAct, dstAt, Act.put, Region.wanted, go_sem, hC, isU_mk, isB_mk, *]
            · simp at hio; subst hio; simp [bindD, rdB, Region.binds, hg] at haf; simp [opYield_def, yieldUpon, yielded, relAct, dstAt, Act.put, Region.wanted, go_sem, hC, isU_mk, isB_mk, *]
            · simp at hio; subst hio; simp [bindD, rdB, Region.binds, hg] at haf; simp [opYield_def, yieldUpon, yielded, relAct, dstAt, Act.put, Region.wanted, go_sem, hC, isU_mk, isB_mk, *]
            · simp at hio; subst hio; simp [bindD, rdB, Region.binds, hg] at haf; simp [opYield_def, yieldUpon, yielded, relAct, dstAt, Act.put, Region.wanted, go_sem, hC, isU_mk, isB_mk, *]
            · simp at hio; subst hio; simp [bindD, rdB, Region.binds, hg] at haf; simp [opYield_def, yieldUpon, yielded, relAct, dstAt, Act.put, Region.wanted, go_sem, hC, isU_mk, isB_mk, *]
            · simp at hio; subst hio; simp [bindD, rdB, Region.binds, hg] at haf; simp [opYield_def, yieldUpon, yielded, relAct, dstAt, Act.put, Region.wanted, go_sem, hC, isU_mk, isB_mk, *]
            · simp at hio; subst hio; simp [bindD, rdB, Region.binds, hg] at haf; simp [opYield_def, yieldUpon, yielded, relAct, dstAt, Act.put, Region.wanted, go_sem, hC, isU_mk, isB_mk, *]
            · simp at hio; subst hio; simp [bindD, rdB, Region.binds, hg] at haf; simp [opYield_def, yieldUpon, yielded, relAct, dstAt, Act.put, Region.wanted, go_sem, hC, isU_mk, isB_mk, *]
            · simp at hio; subst hio; simp [bindD, rdB, Region.binds, hg] at haf; simp [opYield_def, yieldUpon, yielded, relAct, dstAt, Act.put, Region.wanted, go_sem, hC, isU_mk, isB_mk, *]
            · simp at hio; subst hio; simp [bindD, rdB, Region.binds, hg] at haf; simp [opYield_def, yieldUpon, yielded, relAct, dstAt, Act.put, Region.wanted, go_sem, hC, isU_mk, isB_mk, *]
            · simp at hio; subst hio; simp [bindD, rdB, Region.binds, hg] at haf; simp [opYield_def, yieldUpon, yielded, relAct, dstAt, Act.put, Region.wanted, go_sem, hC, isU_mk, isB_mk, *]
            · simp at hio; subst hio; simp [bindD, rdB, Region.binds, hg] at haf; simp [opYield_def, yieldUpon, yielded, relAct, dstAt, Act.put, Region.wanted, go_sem, hC, isU_mk, isB_mk, *]
            · simp at hio; subst hio; simp [bindD, rdB, Region.binds, hg] at haf; simp [opYield_def, yieldUpon, yielded, relAct, dstAt, Act.put, Region.wanted, go_sem, hC, isU_mk, isB_mk, *]
            · simp at hio; subst hio; simp [bindD, rdB, Region.binds, hg] at haf; simp [opYield_def, yieldUpon, yielded, relAct, dstAt, Act.put, Region.wanted, go_sem, hC, isU_mk, isB_mk, *]
            · simp at hio; subst hio; simp [bindD, rdB, Region.binds, hg] at haf; simp [opYield_def, yieldUpon, yielded, relAct, dstAt, Act.put, Region.wanted, go_sem, hC, isU_mk, isB_mk, *]
            · exfalso; simp at hio
        · intro vals W ac hC hF hac
          obtain ⟨o, ho, hoG⟩ : ∃ o : Bool, vals 14 = .bool o ∧ (o = true → i ≤ j) := hF 14 (by show 14 < 15; omega)
          simp [relAct, dstAt, Act.put] at hac
          rw [ho] at hac
          subst hac
          clear hF
          have hwD := hC.drew
          cases o
          · go_wp2_with fail
            go_loopw [10] (IdxR a j w g n) (fun j _ => (intOf j).toNat)
            case atStart => exact ⟨j, rfl, by omega, by omega, hC⟩
            case round =>
              obtain ⟨k, rfl, hk1, hk2, hw3⟩ := hrel
              have hwD := hw3.drew
              go_upto_region 5 with fail
              refine wp_region_c mixed0 (by kernel_rfl) (CW w g n) hwD [(· = .int .i64 (i)), (· = .int .i64 (k)), (· = .bool (decide (i ≤ k))), (· = .bool (decide (i ≤ k))), (fun v => i ≤ k → v = .slice (some ⟨g, 0, none⟩) n c), (fun v => i ≤ k → v = .int .i64 (a)), (fun v => i ≤ k → v = .pointer (some ⟨g, a, none⟩)), (fun v => i ≤ k → isU v), (fun v => i ≤ k → v = .slice (some ⟨g, 0, none⟩) n c), (fun v => i ≤ k → v = .int .i64 (k)), (fun v => i ≤ k → v = .pointer (some ⟨g, k, none⟩)), (fun v => i ≤ k → isU v), (fun v => i ≤ k → isB v), (fun v => ∃ o : Bool, v = .bool o ∧ (o = true → i ≤ k))] ?_ ?_
              · intro ix q hio vals W hC haf
                by_cases hg : i ≤ k
                · obtain ⟨x0, q0, hx0⟩ := hC.2.cell (a) (by omega)
                  have f0 := hC.2.frozen (a)
                  have t0 : isU (.int .u16 x0) := isU_mk _ hx0
                  obtain ⟨x1, q1, hx1⟩ := hC.2.cell (k) (by omega)
                  have f1 := hC.2.frozen (k)
                  have t1 : isU (.int .u16 x1) := isU_mk _ hx1
                  have r0 : a < n := by first | omega | exact IntWalk.i64_in _ (by omega) | go_num
                  have r1 : k < n := by first | omega | exact IntWalk.i64_in _ (by omega) | go_num
                  rcases ix with _ | _ | _ | _ | _ | _ | _ | _ | _ | _ | _ | _ | _ | _ | ix
                  · simp at hio; subst hio; simp [bindD, rdB, Region.binds, hg] at haf; simp [opYield_def, yieldUpon, yielded, relAct, dstAt, Act.put, Region.wanted, go_sem, hC, isU_mk, isB_mk, *]
                  · simp at hio; subst hio; simp [bindD, rdB, Region.binds, hg] at haf; simp [opYield_def, yieldUpon, yielded, relAct, dstAt, Act.put, Region.wanted, go_sem, hC, isU_mk, isB_mk, *]
                  · simp at hio; subst hio; simp [bindD, rdB, Region.binds, hg] at haf; simp [opYield_def, yieldUpon, yielded, relAct, dstAt, Act.put, Region.wanted, go_sem, hC, isU_mk, isB_mk, *]
                  · simp at hio; subst hio; simp [bindD, rdB, Region.binds, hg] at haf; simp [opYield_def, yieldUpon, yielded, relAct, dstAt, Act.put, Region.wanted, go_sem, hC, isU_mk, isB_mk, *]
                  · simp at hio; subst hio; simp [bindD, rdB, Region.binds, hg] at haf; simp [opYield_def, yieldUpon, yielded, relAct, dstAt, Act.put, Region.wanted, go_sem, hC, isU_mk, isB_mk, *]
                  · simp at hio; subst hio; simp [bindD, rdB, Region.binds, hg] at haf; simp [opYield_def, yieldUpon, yielded, relAct, dstAt, Act.put, Region.wanted, go_sem, hC, isU_mk, isB_mk, *]
                  · simp at hio; subst hio; simp [bindD, rdB, Region.binds, hg] at haf; simp [opYield_def, yieldUpon, yielded, relAct, dstAt, Act.put, Region.wanted, go_sem, hC, isU_mk, isB_mk, *]
                  · simp at hio; subst hio; simp [bindD, rdB, Region.binds, hg] at haf; simp [opYield_def, yieldUpon, yielded, relAct, dstAt, Act.put, Region.wanted, go_sem, hC, isU_mk, isB_mk, *]
                  · simp at hio; subst hio; simp [bindD, rdB, Region.binds, hg] at haf; simp [opYield_def, yieldUpon, yielded, relAct, dstAt, Act.put, Region.wanted, go_sem, hC, isU_mk, isB_mk, *]
                  · simp at hio; subst hio; simp [bindD, rdB, Region.binds, hg] at haf; simp [opYield_def, yieldUpon, yielded, relAct, dstAt, Act.put, Region.wanted, go_sem, hC, isU_mk, isB_mk, *]
                  · simp at hio; subst hio; simp [bindD, rdB, Region.binds, hg] at haf; simp [opYield_def, yieldUpon, yielded, relAct, dstAt, Act.put, Region.wanted, go_sem, hC, isU_mk, isB_mk, *]
                  · simp at hio; subst hio; simp [bindD, rdB, Region.binds, hg] at haf; simp [opYield_def, yieldUpon, yielded, relAct, dstAt, Act.put, Region.wanted, go_sem, hC, isU_mk, isB_mk, *]
                  · simp at hio; subst hio; simp [bindD, rdB, Region.binds, hg] at haf; first | (obtain ⟨⟨y1, e1, l1⟩, ⟨y2, e2, l2⟩, e3⟩ := haf; simp [opYield_def, yieldUpon, yielded, relAct, dstAt, Act.put, Region.wanted, go_sem, hC, isU_mk, isB_mk, *]; exact (less16 y1 y2 W).mono fun e w' ⟨h1, h2⟩ => ⟨_, h1, by rw [h2]; exact hC, _, rfl⟩) | (obtain ⟨⟨y1, e1, l1⟩, ⟨y2, e2, l2⟩⟩ := haf; simp [opYield_def, yieldUpon, yielded, relAct, dstAt, Act.put, Region.wanted, go_sem, hC, isU_mk, isB_mk, *]; exact (less16 y1 y2 W).mono fun e w' ⟨h1, h2⟩ => ⟨_, h1, by rw [h2]; exact hC, _, rfl⟩)
                  · simp at hio; subst hio; simp [bindD, rdB, Region.binds, hg] at haf; first | (simp [opYield_def, yieldUpon, yielded, relAct, dstAt, Act.put, Region.wanted, go_sem, hC, isU_mk, isB_mk, *]; done) | (obtain ⟨y, e1⟩ := haf; simp [opYield_def, yieldUpon, yielded, relAct, dstAt, Act.put, Region.wanted, go_sem, hC, isU_mk, isB_mk, *]; done) | (obtain ⟨⟨y, e1⟩, e2⟩ := haf; simp [opYield_def, yieldUpon, yielded, relAct, dstAt, Act.put, Region.wanted, go_sem, hC, isU_mk, isB_mk, *]; done) | (obtain ⟨e2, ⟨y, e1⟩⟩ := haf; simp [opYield_def, yieldUpon, yielded, relAct, dstAt, Act.put, Region.wanted, go_sem, hC, isU_mk, isB_mk, *]; done)
                  · exfalso; simp at hio
                · rcases ix with _ | _ | _ | _ | _ | _ | _ | _ | _ | _ | _ | _ | _ | _ | ix
                  · simp at hio; subst hio; simp [bindD, rdB, Region.binds, hg] at haf; simp [opYield_def, yieldUpon, yielded, relAct, dstAt, Act.put, Region.wanted, go_sem, hC, isU_mk, isB_mk, *]
                  · simp at hio; subst hio; simp [bindD, rdB, Region.binds, hg] at haf; simp [opYield_def, yieldUpon, yielded, relAct, dstAt, Act.put, Region.wanted, go_sem, hC, isU_mk, isB_mk, *]
                  · simp at hio; subst hio; simp [bindD, rdB, Region.binds, hg] at haf; simp [opYield_def, yieldUpon, yielded, relAct, dstAt, Act.put, Region.wanted, go_sem, hC, isU_mk, isB_mk, *]
                  · simp at hio; subst hio; simp [bindD, rdB, Region.binds, hg] at haf; simp [opYield_def, yieldUpon, yielded, relAct, dstAt, Act.put, Region.wanted, go_sem, hC, isU_mk, isB_mk, *]
                  · simp at hio; subst hio; simp [bindD, rdB, Region.binds, hg] at haf; simp [opYield_def, yieldUpon, yielded, relAct, dstAt, Act.put, Region.wanted, go_sem, hC, isU_mk, isB_mk, *]
                  · simp at hio; subst hio; simp [bindD, rdB, Region.binds, hg] at haf; simp [opYield_def, yieldUpon, yielded, relAct, dstAt, Act.put, Region.wanted, go_sem, hC, isU_mk, isB_mk, *]
                  · simp at hio; subst hio; simp [bindD, rdB, Region.binds, hg] at haf; simp [opYield_def, yieldUpon, yielded, relAct, dstAt, Act.put, Region.wanted, go_sem, hC, isU_mk, isB_mk, *]
                  · simp at hio; subst hio; simp [bindD, rdB, Region.binds, hg] at haf; simp [opYield_def, yieldUpon, yielded, relAct, dstAt, Act.put, Region.wanted, go_sem, hC, isU_mk, isB_mk, *]
                  · simp at hio; subst hio; simp [bindD, rdB, Region.binds, hg] at haf; simp [opYield_def, yieldUpon, yielded, relAct, dstAt, Act.put, Region.wanted, go_sem, hC, isU_mk, isB_mk, *]
                  · simp at hio; subst hio; simp [bindD, rdB, Region.binds, hg] at haf; simp [opYield_def, yieldUpon, yielded, relAct, dstAt, Act.put, Region.wanted, go_sem, hC, isU_mk, isB_mk, *]
                  · simp at hio; subst hio; simp [bindD, rdB, Region.binds, hg] at haf; simp [opYield_def, yieldUpon, yielded, relAct, dstAt, Act.put, Region.wanted, go_sem, hC, isU_mk, isB_mk, *]
                  · simp at hio; subst hio; simp [bindD, rdB, Region.binds, hg] at haf; simp [opYield_def, yieldUpon, yielded, relAct, dstAt, Act.put, Region.wanted, go_sem, hC, isU_mk, isB_mk, *]
                  · simp at hio; subst hio; simp [bindD, rdB, Region.binds, hg] at haf; simp [opYield_def, yieldUpon, yielded, relAct, dstAt, Act.put, Region.wanted, go_sem, hC, isU_mk, isB_mk, *]
                  · simp at hio; subst hio; simp [bindD, rdB, Region.binds, hg] at haf; simp [opYield_def, yieldUpon, yielded, relAct, dstAt, Act.put, Region.wanted, go_sem, hC, isU_mk, isB_mk, *]
                  · exfalso; simp at hio
              · intro vals W ac hC hF hac
                obtain ⟨o, ho, hoG⟩ : ∃ o : Bool, vals 13 = .bool o ∧ (o = true → i ≤ k) := hF 13 (by show 13 < 14; omega)
                simp [relAct, dstAt, Act.put] at hac
                rw [ho] at hac
                subst hac
                clear hF
                have hwD := hC.drew
                cases o
                · by_cases hgt : k < i
                  · go_wp2_with fail
                    go_ret
                    exact ⟨⟨i, rfl, by omega, by omega⟩, hC⟩
                  · go_upto_region 8 with fail
                    refine wp_region_c mixed0 (by kernel_rfl) (CW w g n) hwD [(· = .slice (some ⟨g, 0, none⟩) n c), (· = .int .i64 (i)), (· = .slice (some ⟨g, 0, none⟩) n c), (· = .int .i64 (k)), (· = .slice (some ⟨g, 0, none⟩) n c), (· = .int .i64 (k)), (· = .pointer (some ⟨g, k, none⟩)), isU, (· = .slice (some ⟨g, 0, none⟩) n c), (· = .int .i64 (i)), (· = .pointer (some ⟨g, i, none⟩)), isU, (· = .pointer (some ⟨g, i, none⟩)), fun _ => True, (· = .pointer (some ⟨g, k, none⟩)), fun _ => True] ?_ ?_
                    · intro ix q hio vals W hC haf
                      obtain ⟨x0, q0, hx0⟩ := hC.2.cell (i) (by omega)
                      have f0 := hC.2.frozen (i)
                      have t0 : isU (.int .u16 x0) := isU_mk _ hx0
                      obtain ⟨x1, q1, hx1⟩ := hC.2.cell (k) (by omega)
                      have f1 := hC.2.frozen (k)
                      have t1 : isU (.int .u16 x1) := isU_mk _ hx1
                      have r0 : i < n := by first | omega | exact IntWalk.i64_in _ (by omega) | go_num
                      have r1 : k < n := by first | omega | exact IntWalk.i64_in _ (by omega) | go_num
                      rcases ix with _ | _ | _ | _ | _ | _ | _ | _ | _ | _ | _ | _ | _ | _ | _ | _ | ix
                      · simp at hio; subst hio; simp [bindD, rdB, Region.binds] at haf; simp [opYield_def, yieldUpon, yielded, relAct, dstAt, Act.put, Region.wanted, go_sem, hC, isU_mk, isB_mk, *]
                      · simp at hio; subst hio; simp [bindD, rdB, Region.binds] at haf; simp [opYield_def, yieldUpon, yielded, relAct, dstAt, Act.put, Region.wanted, go_sem, hC, isU_mk, isB_mk, *]
                      · simp at hio; subst hio; simp [bindD, rdB, Region.binds] at haf; simp [opYield_def, yieldUpon, yielded, relAct, dstAt, Act.put, Region.wanted, go_sem, hC, isU_mk, isB_mk, *]
                      · simp at hio; subst hio; simp [bindD, rdB, Region.binds] at haf; simp [opYield_def, yieldUpon, yielded, relAct, dstAt, Act.put, Region.wanted, go_sem, hC, isU_mk, isB_mk, *]
                      · simp at hio; subst hio; simp [bindD, rdB, Region.binds] at haf; simp [opYield_def, yieldUpon, yielded, relAct, dstAt, Act.put, Region.wanted, go_sem, hC, isU_mk, isB_mk, *]
                      · simp at hio; subst hio; simp [bindD, rdB, Region.binds] at haf; simp [opYield_def, yieldUpon, yielded, relAct, dstAt, Act.put, Region.wanted, go_sem, hC, isU_mk, isB_mk, *]
                      · simp at hio; subst hio; simp [bindD, rdB, Region.binds] at haf; simp [opYield_def, yieldUpon, yielded, relAct, dstAt, Act.put, Region.wanted, go_sem, hC, isU_mk, isB_mk, *]
                      · simp at hio; subst hio; simp [bindD, rdB, Region.binds] at haf; simp [opYield_def, yieldUpon, yielded, relAct, dstAt, Act.put, Region.wanted, go_sem, hC, isU_mk, isB_mk, *]
                      · simp at hio; subst hio; simp [bindD, rdB, Region.binds] at haf; simp [opYield_def, yieldUpon, yielded, relAct, dstAt, Act.put, Region.wanted, go_sem, hC, isU_mk, isB_mk, *]
                      · simp at hio; subst hio; simp [bindD, rdB, Region.binds] at haf; simp [opYield_def, yieldUpon, yielded, relAct, dstAt, Act.put, Region.wanted, go_sem, hC, isU_mk, isB_mk, *]
                      · simp at hio; subst hio; simp [bindD, rdB, Region.binds] at haf; simp [opYield_def, yieldUpon, yielded, relAct, dstAt, Act.put, Region.wanted, go_sem, hC, isU_mk, isB_mk, *]
                      · simp at hio; subst hio; simp [bindD, rdB, Region.binds] at haf; simp [opYield_def, yieldUpon, yielded, relAct, dstAt, Act.put, Region.wanted, go_sem, hC, isU_mk, isB_mk, *]
                      · simp at hio; subst hio; simp [bindD, rdB, Region.binds] at haf; simp [opYield_def, yieldUpon, yielded, relAct, dstAt, Act.put, Region.wanted, go_sem, hC, isU_mk, isB_mk, *]
                      · simp at hio; subst hio; simp [bindD, rdB, Region.binds] at haf; first | (obtain ⟨e1, y2, e2, l2⟩ := haf; simp [opYield_def, yieldUpon, yielded, relAct, dstAt, Act.put, Region.wanted, go_sem, hC, isU_mk, isB_mk, *]; exact hC.set _ _ l2) | (obtain ⟨⟨y2, e2, l2⟩, e1⟩ := haf; simp [opYield_def, yieldUpon, yielded, relAct, dstAt, Act.put, Region.wanted, go_sem, hC, isU_mk, isB_mk, *]; exact hC.set _ _ l2)
                      · simp at hio; subst hio; simp [bindD, rdB, Region.binds] at haf; simp [opYield_def, yieldUpon, yielded, relAct, dstAt, Act.put, Region.wanted, go_sem, hC, isU_mk, isB_mk, *]
                      · simp at hio; subst hio; simp [bindD, rdB, Region.binds] at haf; first | (obtain ⟨e1, y2, e2, l2⟩ := haf; simp [opYield_def, yieldUpon, yielded, relAct, dstAt, Act.put, Region.wanted, go_sem, hC, isU_mk, isB_mk, *]; exact hC.set _ _ l2) | (obtain ⟨⟨y2, e2, l2⟩, e1⟩ := haf; simp [opYield_def, yieldUpon, yielded, relAct, dstAt, Act.put, Region.wanted, go_sem, hC, isU_mk, isB_mk, *]; exact hC.set _ _ l2)
                      · exfalso; simp at hio
                    · intro vals W ac hC hF hac
                      simp [relAct, dstAt, Act.put] at hac
                      subst hac
                      clear hF
                      have hwD := hC.drew
                      go_wp2_with fail
                      exact ⟨⟨i + 1, k - 1, by go_num, by go_num, by omega, by omega, by omega, by omega, hC⟩, by simp [intOf]; omega⟩
                · have hij := hoG rfl
                  go_wp2_with fail
                  exact ⟨⟨k - 1, by go_num, by omega, by omega, hC⟩, by simp [intOf]; omega⟩
          · have hij := hoG rfl
            go_wp2_with fail
            exact ⟨⟨i + 1, by go_num, by omega, by omega, hC⟩, by simp [intOf]; omega⟩
end Nm
end Go.Proofs.YtkeimgamjnpcbaaGreat
