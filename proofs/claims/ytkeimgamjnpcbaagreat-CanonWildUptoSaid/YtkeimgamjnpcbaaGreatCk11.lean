/-
  Texts merged by a program (Pdq6).
-/
import Derived.Test.YtkeimgamjnpcbaaGreatShelf
import Derived.Shelf.SlSortCmp.Xorshift
import Derived.Test.YtkeimgamjnpcbaaGreatCk8
set_option linter.unusedSimpArgs false
set_option linter.unusedVariables false
/- breakPatternsOrdered at uint16, whatever the row holds. (Printed by a program: wip/gen_pdq6.py.) -/
namespace Go.Proofs.YtkeimgamjnpcbaaGreat
open Go.RowKit
set_option linter.unusedVariables false
set_option linter.unusedSimpArgs false
namespace Nm
def RCell (r : Nat) (W : World) : Prop := ∃ x : Nat, x < 18446744073709551616 ∧ W.heap[r]? = some (.cells #[.int .u64 x] 236 (0, 0))
/-- what breakPatterns keeps: the row and its own box are written -/
def RW (w : World) (g n r : Nat) (W : World) : Prop := (Kept (fun b => b = g ∨ b = r) w W ∧ RCell r W ∧ g ≠ r) ∧ Row16 W g n
theorem RW.drew {w W : World} {g n s : Nat} (h : RW w g n s W) : RW w g n s { W with drawn := W.drawn + 1 } := ⟨⟨h.1.1.drew, h.1.2⟩, h.2⟩
theorem RW.drewN {w W : World} {g n s : Nat} (h : RW w g n s W) (k : Nat) : RW w g n s (W.drewN k) := ⟨⟨h.1.1.drewN k, h.1.2⟩, h.2⟩
theorem RW.set {w W : World} {g n r : Nat} (h : RW w g n r W) (i x : Nat) (hx : x < 65536) : RW w g n r (W.setCell ⟨g, i, none⟩ (.int .u16 x)) := by
  obtain ⟨⟨h1, ⟨y, hy, h2⟩, h3⟩, h4⟩ := h
  exact ⟨⟨h1.setCell (p := ⟨g, i, none⟩) (fun _ => .inl rfl) _, ⟨y, hy, (Below.heap_setCell _ _ _ _ (show r ≠ g from fun e => h3 e.symm)).trans h2⟩, h3⟩, h4.set i x hx⟩
theorem RW.setR {w W : World} {g n r : Nat} (h : RW w g n r W) (x : Nat) (hx : x < 18446744073709551616) : RW w g n r (W.setCell ⟨r, 0, none⟩ (.int .u64 x)) := by
  obtain ⟨⟨h1, ⟨y, hy, h2⟩, h3⟩, cs, h4, h5⟩ := h
  refine ⟨⟨h1.setCell (p := ⟨r, 0, none⟩) (fun _ => .inr rfl) _, ⟨x, hx, ?_⟩, h3⟩, cs, (Below.heap_setCell _ _ _ _ (show g ≠ r from h3)).trans h4, h5⟩
  simp [World.setCell, Array.getElem?_modify, h2]
def BrkR (lo hi : Nat) (w : World) (g n : Nat) (v : Value) (W : World) : Prop := ∃ k : Nat, v = .int .i64 k ∧ lo ≤ k ∧ k ≤ hi ∧ RW w g n w.heap.size W
set_option maxRecDepth 100000 in
set_option maxHeartbeats 20000000 in
theorem break16 (g n c a b : Nat) (w : World) (h : Row16 w g n) (hg : g < w.heap.size) (hc : n ≤ c) (hb : b ≤ n) (hab : a + 12 < b) (hn : n ≤ 1000000000) :
    Calls Tryz.prog 202 #[.slice (some ⟨g, 0, none⟩) n c, .int .i64 a, .int .i64 b] w fun e w' => e = .returned (.tuple #[]) ∧ CW w g n w' := by
  obtain ⟨l, hl⟩ : ∃ l : Nat, l = b - a := ⟨_, rfl⟩
  obtain ⟨m, hm⟩ : ∃ m : Nat, m = a + l / 4 * 2 - 1 := ⟨_, rfl⟩
  have hm1 : m + 2 < b ∧ a ≤ m := by omega
  have hm2 : m + 1 ≤ a + l / 4 * 2 ∧ a + l / 4 * 2 ≤ m + 1 := by omega
  obtain ⟨M, hM⟩ : ∃ M : Nat, M = 1 <<< Go.Sort.bitsLen l := ⟨_, rfl⟩
  have hM1 : 1 ≤ M := by rw [hM, Nat.one_shiftLeft]; exact Nat.two_pow_pos _
  have hM2 : M ≤ 2 * l := by rw [hM, Nat.one_shiftLeft]; exact Go.Sort.two_pow_bitsLen_le (by omega)
  have hNP : ∀ w, Calls Tryz.prog 191 #[.int .i64 (l : Int)] w fun e w' => e = .returned (.int .u64 (M : Int)) ∧ w' = w := by
    rw [hM]
    exact fun w => Go.Proofs.AnyF.nextPowerOfTwo (P := Tryz.prog) (ρ := Tryz.sortB_ren) { Tryz.sortB with } l (by omega) w
  clear hM
  have hl8 : 8 ≤ l := by omega
  have hl9 : l ≤ 1000000000 := by omega
  have hl2 : a + l ≤ b ∧ b ≤ a + l := by omega
  have HH := Lib.hid h
  clear hl hm
  go_enter Tryz.func202, Tryz.ntmps202
  have e4 : (b : Int) - (a : Int) = (l : Int) := by omega
  go_wp2_with fail
  refine (hNP _).mono ?_
  rintro e w2 ⟨rfl, rfl⟩
  clear hNP
  generalize hw1 : w.alloc (.cells #[.int .u64 (l : Int)] 236) = w1
  have hb1 : Below w.heap.size w w1 := by rw [← hw1]; exact (Below.refl _ _).alloc (Nat.le_refl _) _
  have hs1 : RCell w.heap.size w1 := ⟨l, by omega, by rw [← hw1]; exact heap_alloc_new w _⟩
  have hr1 : Row16 w1 g n := by
    obtain ⟨cs, h1, h2⟩ := HH.out
    exact ⟨cs, (hb1.block g hg).trans h1, h2⟩
  have hR1 : RW w g n w.heap.size w1 := ⟨⟨(Kept.of_ext hb1).mono (fun _ _ h => h.elim), hs1, by omega⟩, hr1⟩
  clear hw1 hs1 hr1 hb1
  go_wp2_with fail
  have em : (a : Int) + (l : Int) / 4 * 2 - 1 = (m : Int) := by omega
  rw [em]
  clear em
  go_loopw [9] (BrkR m (m + 3) w g n) (fun i _ => m + 3 - (intOf i).toNat)
  case atStart => exact ⟨m, rfl, by omega, by omega, hR1⟩
  case round =>
    clear hR1
    obtain ⟨k, rfl, hk1, hk2, hw⟩ := hrel
    by_cases hk : k ≤ m + 2
    · have hle : (k : Int) ≤ (a : Int) + (l : Int) / 4 * 2 + 1 := by omega
      obtain ⟨R0, lR, hR0⟩ := hw.1.2.1
      have cR : wr.cell? ⟨w.heap.size, 0, none⟩ = some (.int .u64 R0) := cell_of_row _ _ 0 _ _ _ hR0
      have fR : wr.frozen? ⟨w.heap.size, 0, none⟩ = false := by simp [World.frozen?, hR0]
      obtain ⟨R', hR'⟩ : ∃ R' : Nat, R' = Go.Sort.xorNextN R0 := ⟨_, rfl⟩
      have lR' : R' < 18446744073709551616 := by rw [hR']; exact Go.Sort.xorNextN_lt R0 lR
      obtain ⟨O, hO⟩ : ∃ O : Nat, O = R' &&& (M - 1) := ⟨_, rfl⟩
      have lO : O ≤ M - 1 := by rw [hO]; exact Nat.and_le_right
      have eAnd : bits .and .u64 (R' : Int) ((M : Int) - 1) = (O : Int) := by
        rw [show ((M : Int) - 1) = ((M - 1 : Nat) : Int) by omega, bits_and_u64_nat _ _ lR' (by omega), hO]
      have hNext : Calls Tryz.prog 192 #[.pointer (some ⟨w.heap.size, 0, none⟩)] wr fun e w' => e = .returned (.int .u64 (R' : Int)) ∧ w' = (wr.setCell ⟨w.heap.size, 0, none⟩ (.int .u64 (R' : Int))).drewN 3 := by
        rw [hR']
        exact Go.Proofs.AnyF.xorshift_Next (P := Tryz.prog) (ρ := Tryz.sortB_ren) { Tryz.sortB with } _ _ R0 lR wr cR fR
      clear hR' hO
      have hw3 := (hw.setR R' lR').drewN 3
      generalize (wr.setCell ⟨w.heap.size, 0, none⟩ (.int .u64 (R' : Int))).drewN 3 = w3 at hNext hw3
      clear cR fR hR0
      have hwD := hw3.drew
      go_wp2_with fail
      refine hNext.mono ?_
      rintro e w4 ⟨rfl, rfl⟩
      clear hNext
      by_cases hLO : l ≤ O
      · have hLz : (l : Int) ≤ (O : Int) := by omega
        go_upto_region 10 with fail
        obtain ⟨u, hu⟩ : ∃ u : Nat, u + l = O := ⟨O - l, by omega⟩
        have eu : (O : Int) - (l : Int) = (u : Int) := by omega
        rw [eu]
        have hu2 : a + u < n := by omega
        clear eu hu
        refine wp_region_c mixed0 (by kernel_rfl) (RW w g n w.heap.size) hwD [(· = .slice (some ⟨g, 0, none⟩) n c), (· = .int .i64 (k)), (· = .slice (some ⟨g, 0, none⟩) n c), (· = .int .i64 (a)), (· = .int .i64 (u)), (· = .int .i64 (a + u : Nat)), (· = .slice (some ⟨g, 0, none⟩) n c), (· = .int .i64 (a)), (· = .int .i64 (u)), (· = .int .i64 (a + u : Nat)), (· = .pointer (some ⟨g, a + u, none⟩)), isU, (· = .slice (some ⟨g, 0, none⟩) n c), (· = .int .i64 (k)), (· = .pointer (some ⟨g, k, none⟩)), isU, (· = .pointer (some ⟨g, k, none⟩)), fun _ => True, (· = .pointer (some ⟨g, a + u, none⟩)), fun _ => True] ?_ ?_
        · intro ix q hio vals W hC haf
          obtain ⟨x0, q0, hx0⟩ := hC.2.cell (k) (by omega)
          have f0 := hC.2.frozen (k)
          have t0 : isU (.int .u16 x0) := isU_mk _ hx0
          obtain ⟨x1, q1, hx1⟩ := hC.2.cell (a + u) (by omega)
          have f1 := hC.2.frozen (a + u)
          have t1 : isU (.int .u16 x1) := isU_mk _ hx1
          have r0 : IntKind.i64.wrap ((a : Int) + (u : Int)) = (a : Int) + (u : Int) := by first | omega | exact IntWalk.i64_in _ (by omega) | go_num
          have r1 : ((a : Int) + (u : Int)).toNat = (a) + (u) := by first | omega | exact IntWalk.i64_in _ (by omega) | go_num
          have r2 : 0 ≤ (a : Int) + (u : Int) ∧ (a : Int) + (u : Int) < (n : Int) := by first | omega | exact IntWalk.i64_in _ (by omega) | go_num
          have r3 : k < n := by first | omega | exact IntWalk.i64_in _ (by omega) | go_num
          have r4 : a + u < n := by first | omega | exact IntWalk.i64_in _ (by omega) | go_num
          rcases ix with _ | _ | _ | _ | _ | _ | _ | _ | _ | _ | _ | _ | _ | _ | _ | _ | _ | _ | _ | _ | ix
          · simp at hio; subst hio; simp [bindD, rdB, Region.binds] at haf; simp [opYield_def, yieldUpon, yielded, relAct, dstAt, Act.put, Region.wanted, go_sem, hC, isU_mk, isB_mk, *]
          · simp at hio; subst hio; simp [bindD, rdB, Region.binds] at haf; simp [opYield_def, yieldUpon, yielded, relAct, dstAt, Act.put, Region.wanted, go_sem, hC, isU_mk, isB_mk, *]
          · simp at hio; subst hio; simp [bindD, rdB, Region.binds] at haf; simp [opYield_def, yieldUpon, yielded, relAct, dstAt, Act.put, Region.wanted, go_sem, hC, isU_mk, isB_mk, *]
          · simp at hio; subst hio; simp [bindD, rdB, Region.binds] at haf; simp [opYield_def, yieldUpon, yielded, relAct, dstAt, Act.put, Region.wanted, go_sem, hC, isU_mk, isB_mk, *]
          · simp at hio; subst hio; simp [bindD, rdB, Region.binds] at haf; simp [opYield_def, yieldUpon, yielded, relAct, dstAt, Act.put, Region.wanted, go_sem, hC, isU_mk, isB_mk, *]
          · simp at hio; subst hio; simp [bindD, rdB, Region.binds] at haf; simp [opYield_def, yieldUpon, yielded, relAct, dstAt, Act.put, Region.wanted, go_sem, hC, isU_mk, isB_mk, *]
          · simp at hio; subst hio; simp [bindD, rdB, Region.binds] at haf; simp [opYield_def, yieldUpon, yielded, relAct, dstAt, Act.put, Region.wanted, go_sem, hC, isU_mk, isB_mk, *]
          · simp at hio; subst hio; simp [bindD, rdB, Region.binds] at haf; simp [opYield_def, yieldUpon, yielded, relAct, dstAt, Act.put, Region.wanted, go_sem, hC, isU_mk, isB_mk, *]
          · simp at hio; subst hio; simp [bindD, rdB, Region.binds] at haf; simp [opYield_def, yieldUpon, yielded, relAct, dstAt, Act.put, Region.wanted, go_sem, hC, isU_mk, isB_mk, *]
          · simp at hio; subst hio; simp [bindD, rdB, Region.binds] at haf; simp [opYield_def, yieldUpon, yielded, relAct, dstAt, Act.put, Region.wanted, go_sem, hC, isU_mk, isB_mk, *]
          · simp at hio; subst hio; simp [bindD, rdB, Region.binds] at haf; simp [opYield_def, yieldUpon, yielded, relAct, dstAt, Act.put, Region.wanted, go_sem, hC, isU_mk, isB_mk, *]
          · simp at hio; subst hio; simp [bindD, rdB, Region.binds] at haf; simp [opYield_def, yieldUpon, yielded, relAct, dstAt, Act.put, Region.wanted, go_sem, hC, isU_mk, isB_mk, *]
          · simp at hio; subst hio; simp [bindD, rdB, Region.binds] at haf; simp [opYield_def, yieldUpon, yielded, relAct, dstAt, Act.put, Region.wanted, go_sem, hC, isU_mk, isB_mk, *]
          · simp at hio; subst hio; simp [bindD, rdB, Region.binds] at haf; simp [opYield_def, yieldUpon, yielded, relAct, dstAt, Act.put, Region.wanted, go_sem, hC, isU_mk, isB_mk, *]
          · simp at hio; subst hio; simp [bindD, rdB, Region.binds] at haf; simp [opYield_def, yieldUpon, yielded, relAct, dstAt, Act.put, Region.wanted, go_sem, hC, isU_mk, isB_mk, *]
          · simp at hio; subst hio; simp [bindD, rdB, Region.binds] at haf; simp [opYield_def, yieldUpon, yielded, relAct, dstAt, Act.put, Region.wanted, go_sem, hC, isU_mk, isB_mk, *]
          · simp at hio; subst hio; simp [bindD, rdB, Region.binds] at haf; simp [opYield_def, yieldUpon, yielded, relAct, dstAt, Act.put, Region.wanted, go_sem, hC, isU_mk, isB_mk, *]
          · simp at hio; subst hio; simp [bindD, rdB, Region.binds] at haf; first | (obtain ⟨e1, y2, e2, l2⟩ := haf; simp [opYield_def, yieldUpon, yielded, relAct, dstAt, Act.put, Region.wanted, go_sem, hC, isU_mk, isB_mk, *]; exact hC.set _ _ l2) | (obtain ⟨⟨y2, e2, l2⟩, e1⟩ := haf; simp [opYield_def, yieldUpon, yielded, relAct, dstAt, Act.put, Region.wanted, go_sem, hC, isU_mk, isB_mk, *]; exact hC.set _ _ l2)
          · simp at hio; subst hio; simp [bindD, rdB, Region.binds] at haf; simp [opYield_def, yieldUpon, yielded, relAct, dstAt, Act.put, Region.wanted, go_sem, hC, isU_mk, isB_mk, *]
          · simp at hio; subst hio; simp [bindD, rdB, Region.binds] at haf; first | (obtain ⟨e1, y2, e2, l2⟩ := haf; simp [opYield_def, yieldUpon, yielded, relAct, dstAt, Act.put, Region.wanted, go_sem, hC, isU_mk, isB_mk, *]; exact hC.set _ _ l2) | (obtain ⟨⟨y2, e2, l2⟩, e1⟩ := haf; simp [opYield_def, yieldUpon, yielded, relAct, dstAt, Act.put, Region.wanted, go_sem, hC, isU_mk, isB_mk, *]; exact hC.set _ _ l2)
          · exfalso; simp at hio
        · intro vals W ac hC hF hac
          simp [relAct, dstAt, Act.put] at hac
          subst hac
          clear hF
          have hwD := hC.drew
          go_wp2_with fail
          exact ⟨⟨k + 1, by go_num, by omega, by omega, hC⟩, by simp [intOf]; omega⟩
      · have hLz : ¬ (l : Int) ≤ (O : Int) := by omega
        go_upto_region 10 with fail
        obtain ⟨u, hu⟩ : ∃ u : Nat, u = O := ⟨_, rfl⟩
        rw [← hu]
        have hu2 : a + u < n := by omega
        clear hu
        refine wp_region_c mixed0 (by kernel_rfl) (RW w g n w.heap.size) hwD [(· = .slice (some ⟨g, 0, none⟩) n c), (· = .int .i64 (k)), (· = .slice (some ⟨g, 0, none⟩) n c), (· = .int .i64 (a)), (· = .int .i64 (u)), (· = .int .i64 (a + u : Nat)), (· = .slice (some ⟨g, 0, none⟩) n c), (· = .int .i64 (a)), (· = .int .i64 (u)), (· = .int .i64 (a + u : Nat)), (· = .pointer (some ⟨g, a + u, none⟩)), isU, (· = .slice (some ⟨g, 0, none⟩) n c), (· = .int .i64 (k)), (· = .pointer (some ⟨g, k, none⟩)), isU, (· = .pointer (some ⟨g, k, none⟩)), fun _ => True, (· = .pointer (some ⟨g, a + u, none⟩)), fun _ => True] ?_ ?_
        · intro ix q hio vals W hC haf
          obtain ⟨x0, q0, hx0⟩ := hC.2.cell (k) (by omega)
          have f0 := hC.2.frozen (k)
          have t0 : isU (.int .u16 x0) := isU_mk _ hx0
          obtain ⟨x1, q1, hx1⟩ := hC.2.cell (a + u) (by omega)
          have f1 := hC.2.frozen (a + u)
          have t1 : isU (.int .u16 x1) := isU_mk _ hx1
          have r0 : IntKind.i64.wrap ((a : Int) + (u : Int)) = (a : Int) + (u : Int) := by first | omega | exact IntWalk.i64_in _ (by omega) | go_num
          have r1 : ((a : Int) + (u : Int)).toNat = (a) + (u) := by first | omega | exact IntWalk.i64_in _ (by omega) | go_num
          have r2 : 0 ≤ (a : Int) + (u : Int) ∧ (a : Int) + (u : Int) < (n : Int) := by first | omega | exact IntWalk.i64_in _ (by omega) | go_num
          have r3 : k < n := by first | omega | exact IntWalk.i64_in _ (by omega) | go_num
          have r4 : a + u < n := by first | omega | exact IntWalk.i64_in _ (by omega) | go_num
          rcases ix with _ | _ | _ | _ | _ | _ | _ | _ | _ | _ | _ | _ | _ | _ | _ | _ | _ | _ | _ | _ | ix
          · simp at hio; subst hio; simp [bindD, rdB, Region.binds] at haf; simp [opYield_def, yieldUpon, yielded, relAct, dstAt, Act.put, Region.wanted, go_sem, hC, isU_mk, isB_mk, *]
          · simp at hio; subst hio; simp [bindD, rdB, Region.binds] at haf; simp [opYield_def, yieldUpon, yielded, relAct, dstAt, Act.put, Region.wanted, go_sem, hC, isU_mk, isB_mk, *]
          · simp at hio; subst hio; simp [bindD, rdB, Region.binds] at haf; simp [opYield_def, yieldUpon, yielded, relAct, dstAt, Act.put, Region.wanted, go_sem, hC, isU_mk, isB_mk, *]
          · simp at hio; subst hio; simp [bindD, rdB, Region.binds] at haf; simp [opYield_def, yieldUpon, yielded, relAct, dstAt, Act.put, Region.wanted, go_sem, hC, isU_mk, isB_mk, *]
          · simp at hio; subst hio; simp [bindD, rdB, Region.binds] at haf; simp [opYield_def, yieldUpon, yielded, relAct, dstAt, Act.put, Region.wanted, go_sem, hC, isU_mk, isB_mk, *]
          · simp at hio; subst hio; simp [bindD, rdB, Region.binds] at haf; simp [opYield_def, yieldUpon, yielded, relAct, dstAt, Act.put, Region.wanted, go_sem, hC, isU_mk, isB_mk, *]
          · simp at hio; subst hio; simp [bindD, rdB, Region.binds] at haf; simp [opYield_def, yieldUpon, yielded, relAct, dstAt, Act.put, Region.wanted, go_sem, hC, isU_mk, isB_mk, *]
          · simp at hio; subst hio; simp [bindD, rdB, Region.binds] at haf; simp [opYield_def, yieldUpon, yielded, relAct, dstAt, Act.put, Region.wanted, go_sem, hC, isU_mk, isB_mk, *]
          · simp at hio; subst hio; simp [bindD, rdB, Region.binds] at haf; simp [opYield_def, yieldUpon, yielded, relAct, dstAt, Act.put, Region.wanted, go_sem, hC, isU_mk, isB_mk, *]
          · simp at hio; subst hio; simp [bindD, rdB, Region.binds] at haf; simp [opYield_def, yieldUpon, yielded, relAct, dstAt, Act.put, Region.wanted, go_sem, hC, isU_mk, isB_mk, *]
          · simp at hio; subst hio; simp [bindD, rdB, Region.binds] at haf; simp [opYield_def, yieldUpon, yielded, relAct, dstAt, Act.put, Region.wanted, go_sem, hC, isU_mk, isB_mk, *]
          · simp at hio; subst hio; simp [bindD, rdB, Region.binds] at haf; simp [opYield_def, yieldUpon, yielded, relAct, dstAt, Act.put, Region.wanted, go_sem, hC, isU_mk, isB_mk, *]
          · simp at hio; subst hio; simp [bindD, rdB, Region.binds] at haf; simp [opYield_def, yieldUpon, yielded, relAct, dstAt, Act.put, Region.wanted, go_sem, hC, isU_mk, isB_mk, *]
          · simp at hio; subst hio; simp [bindD, rdB, Region.binds] at haf; simp [opYield_def, yieldUpon, yielded, relAct, dstAt, Act.put, Region.wanted, go_sem, hC, isU_mk, isB_mk, *]
          · simp at hio; subst hio; simp [bindD, rdB, Region.binds] at haf; simp [opYield_def, yieldUpon, yielded, relAct, dstAt, Act.put, Region.wanted, go_sem, hC, isU_mk, isB_mk, *]
          · simp at hio; subst hio; simp [bindD, rdB, Region.binds] at haf; simp [opYield_def, yieldUpon, yielded, relAct, dstAt, Act.put, Region.wanted, go_sem, hC, isU_mk, isB_mk, *]
          · simp at hio; subst hio; simp [bindD, rdB, Region.binds] at haf; simp [opYield_def, yieldUpon, yielded, relAct, dstAt, Act.put, Region.wanted, go_sem, hC, isU_mk, isB_mk, *]
          · simp at hio; subst hio; simp [bindD, rdB, Region.binds] at haf; first | (obtain ⟨e1, y2, e2, l2⟩ := haf; simp [opYield_def, yieldUpon, yielded, relAct, dstAt, Act.put, Region.wanted, go_sem, hC, isU_mk, isB_mk, *]; exact hC.set _ _ l2) | (obtain ⟨⟨y2, e2, l2⟩, e1⟩ := haf; simp [opYield_def, yieldUpon, yielded, relAct, dstAt, Act.put, Region.wanted, go_sem, hC, isU_mk, isB_mk, *]; exact hC.set _ _ l2)
          · simp at hio; subst hio; simp [bindD, rdB, Region.binds] at haf; simp [opYield_def, yieldUpon, yielded, relAct, dstAt, Act.put, Region.wanted, go_sem, hC, isU_mk, isB_mk, *]
          · simp at hio; subst hio; simp [bindD, rdB, Region.binds] at haf; first | (obtain ⟨e1, y2, e2, l2⟩ := haf; simp [opYield_def, yieldUpon, yielded, relAct, dstAt, Act.put, Region.wanted, go_sem, hC, isU_mk, isB_mk, *]; exact hC.set _ _ l2) | (obtain ⟨⟨y2, e2, l2⟩, e1⟩ := haf; simp [opYield_def, yieldUpon, yielded, relAct, dstAt, Act.put, Region.wanted, go_sem, hC, isU_mk, isB_mk, *]; exact hC.set _ _ l2)
          · exfalso; simp at hio
        · intro vals W ac hC hF hac
          simp [relAct, dstAt, Act.put] at hac
          subst hac
          clear hF
          have hwD := hC.drew
          go_wp2_with fail
          exact ⟨⟨k + 1, by go_num, by omega, by omega, hC⟩, by simp [intOf]; omega⟩
    · have hle : ¬ (k : Int) ≤ (a : Int) + (l : Int) / 4 * 2 + 1 := by omega
      go_wp2_with fail
      refine bodyPost_end (results_none rfl _ _ _) rfl ?_
      exact ⟨rfl, ⟨⟨hw.1.1.os, hw.1.1.tape, hw.1.1.output, hw.1.1.size, fun k hk hn => hw.1.1.block k hk (fun h => by rcases h with h | h; exact hn h; omega)⟩, hw.2⟩⟩
end Nm
end Go.Proofs.YtkeimgamjnpcbaaGreat
