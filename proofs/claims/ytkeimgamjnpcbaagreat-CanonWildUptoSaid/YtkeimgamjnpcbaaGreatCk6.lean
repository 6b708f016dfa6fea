/-
  Texts merged by a program (RdC, Soa, Canon6, Zone1, Zone2, Find, Find2, Zone3, Ptr).
-/
import Derived.Maps.OwnSet
import Derived.Carry
import Derived.Deep.Cut
import Derived.Test.YtkeimgamjnpcbaaGreatCk2
import Derived.Test.YtkeimgamjnpcbaaGreatCk5
set_option linter.unusedSimpArgs false
set_option linter.unusedVariables false
/- Contracts of package rdata: read[api.Chain], whatever is read. (Printed by a program.) -/
namespace Go.Proofs.YtkeimgamjnpcbaaGreat
open Go.RowKit
set_option linter.unusedVariables false
set_option linter.unusedSimpArgs false
namespace Nm
theorem cellsC {w : World} {g : Nat} {T : TypeId} {c0 c1 c2 c3 c4 c5 : Value} (h : w.heap[g]? = some (.cells #[c0, c1, c2, c3, c4, c5] T (0, 0))) :
    w.cell? ⟨g, 0, none⟩ = some c0 ∧ w.cell? ⟨g, 1, none⟩ = some c1 ∧ w.cell? ⟨g, 2, none⟩ = some c2 ∧ w.cell? ⟨g, 3, none⟩ = some c3 ∧ w.cell? ⟨g, 4, none⟩ = some c4 ∧ w.cell? ⟨g, 5, none⟩ = some c5 ∧ ∀ i, w.frozen? ⟨g, i, none⟩ = false := by
  refine ⟨?_, ?_, ?_, ?_, ?_, ?_, fun i => by simp [World.frozen?, h]⟩ <;> (rw [cell_of_row w g _ _ _ _ h]; rfl)
set_option maxHeartbeats 4000000 in
theorem setC {w : World} {a : Nat} {y0 y1 y2 y3 y4 y5 : Value} {T : TypeId} (h : w.heap[a]? = some (.cells #[y0, y1, y2, y3, y4, y5] T (0, 0))) (v0 v1 v2 v3 v4 v5 : Value) {w' : World} (hw : w' = ((((((w).setCell ⟨a, 0, none⟩ v0).setCell ⟨a, 1, none⟩ v1).setCell ⟨a, 2, none⟩ v2).setCell ⟨a, 3, none⟩ v3).setCell ⟨a, 4, none⟩ v4).setCell ⟨a, 5, none⟩ v5) :
    w'.heap[a]? = some (.cells #[v0, v1, v2, v3, v4, v5] T (0, 0)) ∧ Kept (fun k => k = a) w w' := by
  subst hw
  have e0 : ((w).setCell ⟨a, 0, none⟩ v0).heap[a]? = some (.cells #[v0, y1, y2, y3, y4, y5] T (0, 0)) := heap_set h
  have e1 : (((w).setCell ⟨a, 0, none⟩ v0).setCell ⟨a, 1, none⟩ v1).heap[a]? = some (.cells #[v0, v1, y2, y3, y4, y5] T (0, 0)) := heap_set e0
  have e2 : ((((w).setCell ⟨a, 0, none⟩ v0).setCell ⟨a, 1, none⟩ v1).setCell ⟨a, 2, none⟩ v2).heap[a]? = some (.cells #[v0, v1, v2, y3, y4, y5] T (0, 0)) := heap_set e1
  have e3 : (((((w).setCell ⟨a, 0, none⟩ v0).setCell ⟨a, 1, none⟩ v1).setCell ⟨a, 2, none⟩ v2).setCell ⟨a, 3, none⟩ v3).heap[a]? = some (.cells #[v0, v1, v2, v3, y4, y5] T (0, 0)) := heap_set e2
  have e4 : ((((((w).setCell ⟨a, 0, none⟩ v0).setCell ⟨a, 1, none⟩ v1).setCell ⟨a, 2, none⟩ v2).setCell ⟨a, 3, none⟩ v3).setCell ⟨a, 4, none⟩ v4).heap[a]? = some (.cells #[v0, v1, v2, v3, v4, y5] T (0, 0)) := heap_set e3
  have e5 : (((((((w).setCell ⟨a, 0, none⟩ v0).setCell ⟨a, 1, none⟩ v1).setCell ⟨a, 2, none⟩ v2).setCell ⟨a, 3, none⟩ v3).setCell ⟨a, 4, none⟩ v4).setCell ⟨a, 5, none⟩ v5).heap[a]? = some (.cells #[v0, v1, v2, v3, v4, v5] T (0, 0)) := heap_set e4
  exact ⟨e5, ((((((Kept.refl (fun k => k = a) w).setCell (p := ⟨a, 0, none⟩) (fun _ => rfl) v0).setCell (p := ⟨a, 1, none⟩) (fun _ => rfl) v1).setCell (p := ⟨a, 2, none⟩) (fun _ => rfl) v2).setCell (p := ⟨a, 3, none⟩) (fun _ => rfl) v3).setCell (p := ⟨a, 4, none⟩) (fun _ => rfl) v4).setCell (p := ⟨a, 5, none⟩) (fun _ => rfl) v5⟩
set_option maxRecDepth 100000 in
set_option maxHeartbeats 8000000 in
theorem readC_panic (a b : Nat) (y0 y1 y2 y3 y4 y5 x1 : Value) (w : World) (h0 : w.heap[a]? = some (.cells #[y0, y1, y2, y3, y4, y5] 153 (0, 0))) (h1 : w.cell? ⟨b, 0, none⟩ = some x1)
    (f1 : w.frozen? ⟨b, 0, none⟩ = false) (l0 : a < w.heap.size) (l1 : b < w.heap.size) (hab : a < b) :
    CallsD Tryz.prog 186 #[.pointer (some ⟨a, 0, none⟩), .pointer (some ⟨b, 0, none⟩)] (.panicking mustP) w fun e u' w' =>
      e = .returned (.tuple #[]) ∧ u' = mustR ∧ w'.heap[a]? = some (.cells #[.int .u8 0, .int .u8 0, .int .u16 0, .slice none 0 0, .slice none 0 0, .slice none 0 0] 153 (0, 0)) ∧ w'.cell? ⟨b, 0, none⟩ = some (.int .i64 50) ∧ Below a w w' := by
  have hta := asserted_must
  obtain ⟨g0, g1, g2, g3, g4, g5, gf⟩ := cellsC h0
  have gf0 := gf 0
  have gf1 := gf 1
  have gf2 := gf 2
  have gf3 := gf 3
  have gf4 := gf 4
  have gf5 := gf 5
  refine callsD_of_wpS Tryz.func186 rfl fun c₀ cs hu => ?_
  apply wpS_seq
  apply wpS_region
  simp [wpOpsS, go_sem, recoverD, mustP, hu, Tryz.ntmps186, Exit.thenS]
  refine wpS_of_wp ?_
  simp only [Array.replicate_succ, Array.replicate_zero, List.push_toArray, List.append_toArray, List.nil_append, List.cons_append, List.setIfInBounds_toArray, List.set_cons_succ, List.set_cons_zero]
  have n0 : ¬ a = w.heap.size := by omega
  have n1 : ¬ b = w.heap.size := by omega
  have m0 : ¬ w.heap.size = a := by omega
  have m1 : ¬ w.heap.size = b := by omega
  have n2 : ¬ a = w.heap.size + 1 := by omega
  have n3 : ¬ b = w.heap.size + 1 := by omega
  have m2 : ¬ w.heap.size + 1 = a := by omega
  have m3 : ¬ w.heap.size + 1 = b := by omega
  have d0 : ¬ a = b := by omega
  have d1 : ¬ b = a := by omega
  go_wp2_with fail
  obtain ⟨z0, hk⟩ := setC h0 (.int .u8 0) (.int .u8 0) (.int .u16 0) (.slice none 0 0) (.slice none 0 0) (.slice none 0 0) rfl
  have z1 := setc_same (v := .int .i64 50) ((hk.cell (o := 0) l1 (by omega)).trans h1)
  have hs := hk.size
  have z2 : (World.setCell (((((((w).setCell ⟨a, 0, none⟩ (.int .u8 0)).setCell ⟨a, 1, none⟩ (.int .u8 0)).setCell ⟨a, 2, none⟩ (.int .u16 0)).setCell ⟨a, 3, none⟩ (.slice none 0 0)).setCell ⟨a, 4, none⟩ (.slice none 0 0)).setCell ⟨a, 5, none⟩ (.slice none 0 0)) ⟨b, 0, none⟩ (.int .i64 50)).heap[a]? = some (.cells #[.int .u8 0, .int .u8 0, .int .u16 0, .slice none 0 0, .slice none 0 0, .slice none 0 0] 153 (0, 0)) :=
    (Below.heap_setCell _ _ _ _ (show a ≠ b by omega)).trans z0
  have hB := ((hk.below (B := a) (by omega) (fun k hk => by omega)).setCell (p := ⟨b, 0, none⟩) (show a ≤ b by omega) (.int .i64 50))
  have hBs := hB.size
  clear z0 hk
  generalize World.setCell (((((((w).setCell ⟨a, 0, none⟩ (.int .u8 0)).setCell ⟨a, 1, none⟩ (.int .u8 0)).setCell ⟨a, 2, none⟩ (.int .u16 0)).setCell ⟨a, 3, none⟩ (.slice none 0 0)).setCell ⟨a, 4, none⟩ (.slice none 0 0)).setCell ⟨a, 5, none⟩ (.slice none 0 0)) ⟨b, 0, none⟩ (.int .i64 50) = W at *
  have la : a < W.heap.size := by omega
  exact ⟨rfl, _, rfl, _, results_none rfl _ _ _, rfl, rfl, (Below.heap_alloc _ _ _ (by simp; omega)).trans ((Below.heap_alloc _ _ _ la).trans z2), alloc_cell _ (alloc_cell _ z1), (hB.alloc (by omega) _).alloc (by simp; omega) _⟩
theorem readC_idle (a b : Addr) (w : World) : CallsD Tryz.prog 186 #[.pointer (some a), .pointer (some b)] .returning w fun e u' w' => e = .returned (.tuple #[]) ∧ u' = .returning ∧ w' = w := by
  refine callsD_of_wpS Tryz.func186 rfl fun c₀ cs hu => ?_
  apply wpS_seq
  apply wpS_region
  simp [wpOpsS, go_sem, recoverD, hu, Tryz.ntmps186, Exit.thenS]
  refine wpS_of_wp ?_
  simp only [Array.replicate_succ, Array.replicate_zero, List.push_toArray, List.append_toArray, List.nil_append, List.cons_append, List.setIfInBounds_toArray, List.set_cons_succ, List.set_cons_zero]
  go_wp2_with fail
  exact ⟨rfl, .returning, by cases c₀; simp_all, _, results_none rfl _ _ _, rfl, rfl, rfl⟩
/-- what is said of the cells that are read: rows of their own from block B on -/
structure SaysC (P : Value → Value → Value → Value → Value → Value → Nat → World → Prop) : Prop where
  keep : ∀ v0 v1 v2 v3 v4 v5 B (S : Nat → Prop) W W', P v0 v1 v2 v3 v4 v5 B W → Kept S W W' → (∀ b, B ≤ b → ¬ S b) → P v0 v1 v2 v3 v4 v5 B W'
  base : ∀ v0 v1 v2 v3 v4 v5 B B' W, B' ≤ B → P v0 v1 v2 v3 v4 v5 B W → P v0 v1 v2 v3 v4 v5 B' W
set_option maxRecDepth 100000 in
set_option maxHeartbeats 8000000 in
theorem readC (G : Bool → Prop) (P : Value → Value → Value → Value → Value → Value → Nat → World → Prop) (hP : SaysC P) (A : Option Addr) (l : Lab) (cap : Nat) (w : World) (hc : Cs w A (l.map byteV)) (hl : l.length ≤ 100000) (hcap : l.length ≤ cap) (hcap2 : cap ≤ maxLen)
    (HC : ∀ W r, Rdr W r A l cap 0 → r < W.heap.size → Calls Tryz.prog 142 #[.pointer (some ⟨r, 0, none⟩)] W fun e w' => Kept (fun b => b = r) W w' ∧ ∃ ok, G ok ∧ ((∃ j i0 i1 i2 A3 n3 c3 A4 n4 c4 A5 n5 c5, e = .returned (.agg #[.int .u8 i0, .int .u8 i1, .int .u16 i2, .slice A3 n3 c3, .slice A4 n4 c4, .slice A5 n5 c5]) ∧ Rdr w' r A l cap j ∧ ok = decide (j = l.length) ∧ P (.int .u8 i0) (.int .u8 i1) (.int .u16 i2) (.slice A3 n3 c3) (.slice A4 n4 c4) (.slice A5 n5 c5) W.heap.size w') ∨ (ok = false ∧ e = .panicked mustP))) :
    Calls Tryz.prog 141 #[.slice A l.length cap, .func (.func 142) #[] #[]] w fun e w' =>
      Below w.heap.size w w' ∧ ∃ ok, G ok ∧ ((ok = true ∧ ∃ i0 i1 i2 A3 n3 c3 A4 n4 c4 A5 n5 c5, e = .returned (.tuple #[.agg #[.int .u8 i0, .int .u8 i1, .int .u16 i2, .slice A3 n3 c3, .slice A4 n4 c4, .slice A5 n5 c5], .int .i64 0]) ∧ P (.int .u8 i0) (.int .u8 i1) (.int .u16 i2) (.slice A3 n3 c3) (.slice A4 n4 c4) (.slice A5 n5 c5) w.heap.size w') ∨ (ok = false ∧ e = .returned (.tuple #[.agg #[.int .u8 0, .int .u8 0, .int .u16 0, .slice none 0 0, .slice none 0 0, .slice none 0 0], .int .i64 50]))) := by
  have hmf : ∀ (fn : Fn) (first cap : Array Value) (w : World), (Instr.makeFunc fn first cap).run Tryz.prog w = .ok (.func fn first cap) w := fun _ _ _ _ => rfl
  have HCl := Lib.hid HC
  clear HC
  go_enter_defers Tryz.func141, Tryz.ntmps141
  go_wp2_with fail
  generalize hw3 : ((w.alloc (.cells #[.int .u8 0, .int .u8 0, .int .u16 0, .slice none 0 0, .slice none 0 0, .slice none 0 0] 153)).alloc (.cells #[.int .i64 0] 52)).alloc (.cells #[.slice A l.length cap, .int .i64 0] 201) = w3
  have hb3 : Below w.heap.size w w3 := by rw [← hw3]; exact (((Below.refl _ _).alloc (Nat.le_refl _) _).alloc (by simp) _).alloc (by simp; omega) _
  have hsz3 : w3.heap.size = w.heap.size + 3 := by rw [← hw3]; simp
  have q3 : w3.heap[w.heap.size]? = some (.cells #[.int .u8 0, .int .u8 0, .int .u16 0, .slice none 0 0, .slice none 0 0, .slice none 0 0] 153 (0, 0)) := by
    rw [← hw3]
    rw [Below.heap_alloc _ _ _ (by simp; omega), Below.heap_alloc _ _ _ (by simp)]
    exact heap_alloc_new w _
  have c1 : w3.cell? ⟨w.heap.size + 1, 0, none⟩ = some (.int .i64 0) := by rw [← hw3]; simp [go_sem]
  have f1 : w3.frozen? ⟨w.heap.size + 1, 0, none⟩ = false := by rw [← hw3]; simp [go_sem]
  have hR : Rdr w3 (w.heap.size + 1 + 1) A l cap 0 := by
    refine ⟨by rw [← hw3]; simp [go_sem], by rw [← hw3]; simp [go_sem], by rw [← hw3]; simp [go_sem], by omega, hc.below hb3, ?_, hl, hcap, hcap2, Nat.zero_le _⟩
    intro a ha hx
    have := hc.where ha hx
    omega
  clear hw3
  refine (HCl.out w3 (w.heap.size + 1 + 1) hR (by omega)).mono ?_
  rintro e w4 ⟨hk4, ok, hG, hcase⟩
  have q4 := (hk4.block _ (show w.heap.size < w3.heap.size by omega) (by omega)).trans q3
  have d1 := (hk4.cell (b := w.heap.size + 1) (o := 0) (by omega) (by omega)).trans c1
  have g1 := (hk4.frozen (b := w.heap.size + 1) (o := 0) (by omega) (by omega)).trans f1
  have hsz4 := hk4.size
  have hb4 : Below w.heap.size w w4 := hb3.trans (hk4.below (by omega) (fun k hk => by omega))
  clear c1 f1 hR q3 hk4
  have door : ∀ (y0 y1 y2 y3 y4 y5 : Value) (W : World), Below w.heap.size w W → W.heap[w.heap.size]? = some (.cells #[y0, y1, y2, y3, y4, y5] 153 (0, 0)) → W.cell? ⟨w.heap.size + 1, 0, none⟩ = some (.int .i64 0) → W.frozen? ⟨w.heap.size + 1, 0, none⟩ = false → w.heap.size + 3 ≤ W.heap.size →
      CallsD Tryz.prog 186 #[.pointer (some ⟨w.heap.size, 0, none⟩), .pointer (some ⟨w.heap.size + 1, 0, none⟩)] (.panicking mustP) W fun e u' w' =>
      e = .returned (.tuple #[]) ∧ u' = mustR ∧ w'.heap[w.heap.size]? = some (.cells #[.int .u8 0, .int .u8 0, .int .u16 0, .slice none 0 0, .slice none 0 0, .slice none 0 0] 153 (0, 0)) ∧ w'.cell? ⟨w.heap.size + 1, 0, none⟩ = some (.int .i64 50) ∧ Below w.heap.size w w' := fun y0 y1 y2 y3 y4 y5 W hb k0 k1 j1 hs =>
    (readC_panic w.heap.size (w.heap.size + 1) _ _ _ _ _ _ _ W k0 k1 j1 (by omega) (by omega) (by omega)).mono fun e u' w' ⟨h1, h2, h3, h4, h5⟩ => ⟨h1, h2, h3, h4, hb.trans h5⟩
  have HD := Lib.hid door
  have HG := Lib.hid hG
  clear door hG
  have n0 : ¬ w.heap.size = w.heap.size + 1 := by omega
  have nn1 : ¬ w.heap.size = w.heap.size + 1 + 1 := by omega
  have nn2 : ¬ w.heap.size + 1 = w.heap.size := by omega
  have nn3 : ¬ w.heap.size + 1 + 1 = w.heap.size := by omega
  rcases hcase with ⟨j, i0, i1, i2, A3, n3, c3, A4, n4, c4, A5, n5, c5, rfl, hr, hs, hPv⟩ | ⟨hs, rfl⟩
  · have HS := Lib.hid hs
    have HPv := Lib.hid hPv
    have e1 := hr.c1
    have hlj := hr.le
    obtain ⟨u0, u1, u2, u3, u4, u5, uf⟩ := cellsC q4
    have uf0 := uf 0
    have uf1 := uf 1
    have uf2 := uf 2
    have uf3 := uf 3
    have uf4 := uf 4
    have uf5 := uf 5
    clear hs hr hPv
    by_cases hj : j = l.length
    · have hjb : ((j : Int) == (l.length : Int)) = true := by simp [hj]
      have HT : Hid (ok = true) := Lib.hid (by rw [HS.out]; simpa using hj)
      clear hj HS
      go_wp2_with fail
      obtain ⟨qA, hkA⟩ := setC q4 (.int .u8 i0) (.int .u8 i1) (.int .u16 i2) (.slice A3 n3 c3) (.slice A4 n4 c4) (.slice A5 n5 c5) rfl
      generalize ((((((w4).setCell ⟨w.heap.size, 0, none⟩ (.int .u8 i0)).setCell ⟨w.heap.size, 1, none⟩ (.int .u8 i1)).setCell ⟨w.heap.size, 2, none⟩ (.int .u16 i2)).setCell ⟨w.heap.size, 3, none⟩ (.slice A3 n3 c3)).setCell ⟨w.heap.size, 4, none⟩ (.slice A4 n4 c4)).setCell ⟨w.heap.size, 5, none⟩ (.slice A5 n5 c5) = w5 at *
      have hbA : Below w.heap.size w w5 := hb4.trans (hkA.below (B := w.heap.size) (by omega) (fun k hk => by omega))
      have hsA := hkA.size
      have dA := (hkA.cell (b := w.heap.size + 1) (o := 0) (by omega) (by omega)).trans d1
      have gA := (hkA.frozen (b := w.heap.size + 1) (o := 0) (by omega) (by omega)).trans g1
      obtain ⟨t0, t1, t2, t3, t4, t5, tf⟩ := cellsC qA
      have tf0 := tf 0
      have tf1 := tf 1
      have tf2 := tf 2
      have tf3 := tf 3
      have tf4 := tf 4
      have tf5 := tf 5
      have HP1 := Lib.hid (hP.keep _ _ _ _ _ _ _ _ _ _ HPv.out hkA (fun b hb e => by omega))
      clear u0 u1 u2 u3 u4 u5 uf uf0 uf1 uf2 uf3 uf4 uf5 q4 d1 g1 e1 hkA
      refine (must_yes _).mono ?_
      rintro e w' ⟨rfl, rfl⟩
      go_wp2_with fail
      obtain ⟨qB, hkB⟩ := setC qA (.int .u8 i0) (.int .u8 i1) (.int .u16 i2) (.slice A3 n3 c3) (.slice A4 n4 c4) (.slice A5 n5 c5) rfl
      have hsB := hkB.size
      have dB := (hkB.cell (b := w.heap.size + 1) (o := 0) (by omega) (by omega)).trans dA
      have hbB := hbA.trans (hkB.below (B := w.heap.size) (by omega) (fun k hk => by omega))
      have HP2 := Lib.hid (hP.keep _ _ _ _ _ _ _ _ _ _ HP1.out hkB (fun b hb e => by omega))
      generalize ((((((w5).setCell ⟨w.heap.size, 0, none⟩ (.int .u8 i0)).setCell ⟨w.heap.size, 1, none⟩ (.int .u8 i1)).setCell ⟨w.heap.size, 2, none⟩ (.int .u16 i2)).setCell ⟨w.heap.size, 3, none⟩ (.slice A3 n3 c3)).setCell ⟨w.heap.size, 4, none⟩ (.slice A4 n4 c4)).setCell ⟨w.heap.size, 5, none⟩ (.slice A5 n5 c5) = w6 at *
      have hkC : Kept (fun k => k = w.heap.size + 1) w6 (w6.setCell ⟨w.heap.size + 1, 0, none⟩ (.int .i64 0)) := (Kept.refl _ _).setCell (S := fun k => k = w.heap.size + 1) (p := ⟨w.heap.size + 1, 0, none⟩) (fun _ => rfl) _
      have qC := (hkC.block _ (show w.heap.size < w6.heap.size by omega) (by omega)).trans qB
      have dC := setc_same (v := .int .i64 0) dB
      have hbC := hbB.trans (hkC.below (B := w.heap.size) (by omega) (fun k hk => by omega))
      have HP3 := Lib.hid (hP.base _ _ _ _ _ _ _ w.heap.size _ (by omega) (hP.keep _ _ _ _ _ _ _ _ _ _ HP2.out hkC (fun b hb e => by omega)))
      generalize w6.setCell ⟨w.heap.size + 1, 0, none⟩ (.int .i64 0) = w7 at *
      refine leaves_cons (f := 186) (args := #[.pointer (some ⟨w.heap.size, 0, none⟩), .pointer (some ⟨w.heap.size + 1, 0, none⟩)]) (by simp) (by simp [go_sem]) ?_
      refine (readC_idle _ _ _).mono ?_
      rintro e u' w9 ⟨rfl, rfl, rfl⟩
      obtain ⟨y0, y1, y2, y3, y4, y5, _⟩ := cellsC qC
      simp [Leaves, settle, results, Tryz.results141, go_sem, y0, y1, y2, y3, y4, y5, dC]
      exact ⟨hbC, (by rw [← HT.out]; exact HG.out), i0, i1, i2, A3, n3, c3, A4, n4, c4, A5, n5, c5, (by simp), HP3.out⟩
    · have hjb : ((j : Int) == (l.length : Int)) = false := by simp; omega
      have HT : Hid (ok = false) := Lib.hid (by rw [HS.out]; simpa using hj)
      clear hj HS
      go_wp2_with fail
      obtain ⟨qA, hkA⟩ := setC q4 (.int .u8 i0) (.int .u8 i1) (.int .u16 i2) (.slice A3 n3 c3) (.slice A4 n4 c4) (.slice A5 n5 c5) rfl
      generalize ((((((w4).setCell ⟨w.heap.size, 0, none⟩ (.int .u8 i0)).setCell ⟨w.heap.size, 1, none⟩ (.int .u8 i1)).setCell ⟨w.heap.size, 2, none⟩ (.int .u16 i2)).setCell ⟨w.heap.size, 3, none⟩ (.slice A3 n3 c3)).setCell ⟨w.heap.size, 4, none⟩ (.slice A4 n4 c4)).setCell ⟨w.heap.size, 5, none⟩ (.slice A5 n5 c5) = w5 at *
      have hbA : Below w.heap.size w w5 := hb4.trans (hkA.below (B := w.heap.size) (by omega) (fun k hk => by omega))
      have hsA := hkA.size
      have dA := (hkA.cell (b := w.heap.size + 1) (o := 0) (by omega) (by omega)).trans d1
      have gA := (hkA.frozen (b := w.heap.size + 1) (o := 0) (by omega) (by omega)).trans g1
      clear u0 u1 u2 u3 u4 u5 uf uf0 uf1 uf2 uf3 uf4 uf5 q4 d1 g1 e1 hkA
      refine (must_no _).mono ?_
      rintro e w' ⟨rfl, rfl⟩
      go_wp2_with fail
      refine leaves_cons (f := 186) (args := #[.pointer (some ⟨w.heap.size, 0, none⟩), .pointer (some ⟨w.heap.size + 1, 0, none⟩)]) (by simp) (by simp [go_sem]) ?_
      refine (HD.out _ _ _ _ _ _ w5 hbA qA dA gA (by omega)).mono ?_
      rintro e u' w9 ⟨rfl, rfl, zq, z1, hb5⟩
      obtain ⟨y0, y1, y2, y3, y4, y5, _⟩ := cellsC zq
      simp [Leaves, settle, mustR, results, Tryz.results141, go_sem, y0, y1, y2, y3, y4, y5, z1]
      exact ⟨hb5, by rw [← HT.out]; exact HG.out⟩
  · have HS := Lib.hid hs
    clear hs
    go_wp2_with fail
    refine leaves_cons (f := 186) (args := #[.pointer (some ⟨w.heap.size, 0, none⟩), .pointer (some ⟨w.heap.size + 1, 0, none⟩)]) (by simp) (by simp [go_sem]) ?_
    refine (HD.out _ _ _ _ _ _ w4 hb4 q4 d1 g1 (by omega)).mono ?_
    rintro e u' w5 ⟨rfl, rfl, zq, z1, hb5⟩
    obtain ⟨y0, y1, y2, y3, y4, y5, _⟩ := cellsC zq
    simp [Leaves, settle, mustR, results, Tryz.results141, go_sem, y0, y1, y2, y3, y4, y5, z1]
    exact ⟨hb5, by rw [← HS.out]; exact HG.out⟩
end Nm
end Go.Proofs.YtkeimgamjnpcbaaGreat

/- Contracts of package rdata: Soa; Check and Canon of a SOA. -/
namespace Go.Proofs.YtkeimgamjnpcbaaGreat
open Go.RowKit
set_option linter.unusedVariables false
namespace Nm
set_option maxRecDepth 100000 in
set_option maxHeartbeats 4000000 in
theorem Soa (A : Option Addr) (l : Lab) (cap : Nat) (w : World) (hc : Cs w A (l.map byteV)) (hl : l.length ≤ 100000) (hcap : l.length ≤ cap) (hcap2 : cap ≤ maxLen) :
    Calls Tryz.prog 104 #[.slice A l.length cap] w fun e w' => Below w.heap.size w w' ∧ ∃ v, e = .returned (.tuple #[v, .int .i64 (code50 (soaB l))]) ∧ SoaPost w w' l v := by
  go_enter Tryz.func104, Tryz.ntmps104
  go_wp2_with fail
  generalize hw2 : w.alloc (.cells #[.slice none 0 0, .slice none 0 0, .int .u32 0, .int .u32 0, .int .u32 0, .int .u32 0, .int .u32 0] 147) = w2
  have hb2 : Below w.heap.size w w2 := by rw [← hw2]; exact (Below.refl _ _).alloc (Nat.le_refl _) _
  have hz2 : w2.heap.size = w.heap.size + 1 := by rw [← hw2]; simp
  have q2 : w2.heap[w.heap.size]? = some (.cells #[.slice none 0 0, .slice none 0 0, .int .u32 0, .int .u32 0, .int .u32 0, .int .u32 0, .int .u32 0] 147 (0, 0)) := by rw [← hw2]; exact heap_alloc_new w _
  clear hw2
  refine (readS A l cap w2 (hc.below hb2) hl hcap hcap2).mono ?_
  rintro e w3 ⟨hb3, v, rfl, hp⟩
  have q3 := (hb3.block _ (show w.heap.size < w2.heap.size by omega)).trans q2
  have hz3 := hb3.size
  have hb13 := hb2.trans (hb3.mono (by omega))
  obtain ⟨u0, u1, u2, u3, u4, u5, u6, uf⟩ := cells7 q3
  have uf0 := uf 0
  have uf1 := uf 1
  have uf2 := uf 2
  have uf3 := uf 3
  have uf4 := uf 4
  have uf5 := uf 5
  have uf6 := uf 6
  cases hso : soaB l with
  | false =>
    have hv := hp.1 hso
    subst hv
    go_wp2_with fail
    obtain ⟨qA, hkA⟩ := set7 q3 (.slice none 0 0) (.slice none 0 0) (.int .u32 0) (.int .u32 0) (.int .u32 0) (.int .u32 0) (.int .u32 0) rfl
    have hbF := hb13.trans (hkA.below (B := w.heap.size) (by omega) (fun k hk => by omega))
    generalize (((((((w3.setCell ⟨w.heap.size, 0, none⟩ (.slice none 0 0)).setCell ⟨w.heap.size, 1, none⟩ (.slice none 0 0)).setCell ⟨w.heap.size, 2, none⟩ (.int .u32 0)).setCell ⟨w.heap.size, 3, none⟩ (.int .u32 0)).setCell ⟨w.heap.size, 4, none⟩ (.int .u32 0)).setCell ⟨w.heap.size, 5, none⟩ (.int .u32 0)).setCell ⟨w.heap.size, 6, none⟩ (.int .u32 0)) = w5 at *
    obtain ⟨z0, z1, z2, z3, z4, z5, z6, _⟩ := cells7 qA
    refine bodyPost_ret (v := .tuple #[.agg #[.slice none 0 0, .slice none 0 0, .int .u32 0, .int .u32 0, .int .u32 0, .int .u32 0, .int .u32 0], .int .i64 (code50 (soaB l))]) ?_ rfl ⟨hbF, _, rfl, fun _ => rfl, (fun h => by rw [hso] at h; cases h)⟩
    simp [results, Tryz.results104, go_sem, z0, z1, z2, z3, z4, z5, z6, hso]
  | true =>
    obtain ⟨Am, ca, Bx, cb, hv, hownM, hownX⟩ := hp.2 hso
    obtain ⟨M, X, n1, n2, n3, n4, n5, hsm⟩ : ∃ M X n1 n2 n3 n4 n5, soaM l = ⟨M, X, n1, n2, n3, n4, n5⟩ := ⟨_, _, _, _, _, _, _, rfl⟩
    rw [hsm] at hv hownM hownX
    unfold SoaM.v at hv
    simp only at hv hownM hownX
    have HSM := Lib.hid hsm
    clear hsm hp
    subst hv
    go_wp2_with fail
    obtain ⟨qA, hkA⟩ := set7 q3 (.slice Am M.length ca) (.slice Bx X.length cb) (.int .u32 n1) (.int .u32 n2) (.int .u32 n3) (.int .u32 n4) (.int .u32 n5) rfl
    have hbF := hb13.trans (hkA.below (B := w.heap.size) (by omega) (fun k hk => by omega))
    have hownM2 := Kept.row hownM hkA (fun k hk => by have := (hownM.lt k hk).1; omega)
    have hownX2 := Kept.row hownX hkA (fun k hk => by have := (hownX.lt k hk).1; omega)
    generalize (((((((w3.setCell ⟨w.heap.size, 0, none⟩ (.slice Am M.length ca)).setCell ⟨w.heap.size, 1, none⟩ (.slice Bx X.length cb)).setCell ⟨w.heap.size, 2, none⟩ (.int .u32 n1)).setCell ⟨w.heap.size, 3, none⟩ (.int .u32 n2)).setCell ⟨w.heap.size, 4, none⟩ (.int .u32 n3)).setCell ⟨w.heap.size, 5, none⟩ (.int .u32 n4)).setCell ⟨w.heap.size, 6, none⟩ (.int .u32 n5)) = w5 at *
    obtain ⟨z0, z1, z2, z3, z4, z5, z6, _⟩ := cells7 qA
    refine bodyPost_ret (v := .tuple #[.agg #[.slice Am M.length ca, .slice Bx X.length cb, .int .u32 n1, .int .u32 n2, .int .u32 n3, .int .u32 n4, .int .u32 n5], .int .i64 (code50 (soaB l))]) ?_ rfl ⟨hbF, _, rfl, (fun h => by rw [hso] at h; cases h), fun _ => ⟨Am, ca, Bx, cb, ?_, ?_, ?_⟩⟩
    · simp [results, Tryz.results104, go_sem, z0, z1, z2, z3, z4, z5, z6, hso]
    · rw [HSM.out]; rfl
    · rw [HSM.out]; exact own_base hownM2 (by omega)
    · rw [HSM.out]; exact own_base hownX2 (by omega)
theorem chk6 (l : Lab) : chk 6 l = (decide (l.length ≤ 8192) && soaB l) := rfl
set_option maxRecDepth 100000 in
set_option maxHeartbeats 4000000 in
theorem Check6 (A : Option Addr) (l : Lab) (cap : Nat) (w : World) (hc : Cs w A (l.map byteV)) (hl : l.length ≤ 100000) (hcap : l.length ≤ cap) (hcap2 : cap ≤ maxLen) :
    Calls Tryz.prog 67 #[.int .u16 6, .slice A l.length cap] w fun e w' => Below w.heap.size w w' ∧ e = .returned (.int .i64 (code50 (chk 6 l))) := by
  have HC := Lib.hid (chk6 l)
  have hb1 : Below w.heap.size w (w.alloc (.cells #[.int .u16 6] 24)) := (Below.refl _ _).alloc (Nat.le_refl _) _
  by_cases h8 : 8192 < l.length
  · have HE : Hid (chk 6 l = false) := Lib.hid (by rw [HC.out]; simp; omega)
    go_enter Tryz.func67, Tryz.ntmps67
    go_wp2_with fail
    go_ret
    exact ⟨hb1, by rw [HE.out]; rfl⟩
  · have HE : Hid (chk 6 l = soaB l) := Lib.hid (by rw [HC.out]; simp; omega)
    have hr := Soa A l cap (w.alloc (.cells #[.int .u16 6] 24)) (hc.below hb1) hl hcap hcap2
    have HR := Lib.hid hr
    clear hr hc
    go_enter Tryz.func67, Tryz.ntmps67
    go_wp2_with fail
    refine HR.out.mono ?_
    rintro e w2 ⟨hb2, v, rfl, hp⟩
    go_wp2_with fail
    go_ret
    exact ⟨hb1.trans (hb2.mono (by simp)), by rw [HE.out]; rfl⟩
end Nm
end Go.Proofs.YtkeimgamjnpcbaaGreat

/- Contracts of package rdata: Canon of a SOA. -/
namespace Go.Proofs.YtkeimgamjnpcbaaGreat
open Go.RowKit
set_option linter.unusedVariables false
namespace Nm
theorem be4_num (p : Lab) (h : p.length = 4) : be4 (numOf p 0) = p := by
  match p, h with
  | [a, b, c, d], _ =>
    have ha := UInt8.toNat_lt a
    have hb := UInt8.toNat_lt b
    have hc := UInt8.toNat_lt c
    have hd := UInt8.toNat_lt d
    have hn : numOf [a, b, c, d] 0 = a.toNat * 16777216 + b.toNat * 65536 + c.toNat * 256 + d.toNat := by
      simp only [numOf]
      omega
    have q : ∀ (x : UInt8) (n : Nat), n % 256 = x.toNat → UInt8.ofNat n = x := by
      intro x n hx
      apply UInt8.toNat_inj.1
      rw [UInt8.toNat_ofNat']
      exact hx
    unfold be4
    rw [hn, q a _ (by omega), q b _ (by omega), q c _ (by omega), q d _ (by omega)]
def SoaM.low (g : SoaM) : SoaM := { g with m := lower g.m, x := lower g.x }
theorem soa_fits (l : Lab) : (soaM l).low.fits :=
  ⟨(openN_small _).lower, (openN_small _).lower, numOf_lt _ _ (by omega), numOf_lt _ _ (by omega), numOf_lt _ _ (by omega), numOf_lt _ _ (by omega), numOf_lt _ _ (by omega)⟩
theorem canonO_soa {l : Lab} (h : soaB l = true) : canonO 6 l = (soaM l).low.bytes := by
  unfold soaB at h
  have hE : canonO 6 l = match soaO l with | none => [] | some (m, x, k) => wire (lower m) ++ wire (lower x) ++ l.drop k := rfl
  rw [hE]
  cases h1 : openO l with
  | none => exfalso; unfold soaO at h; rw [h1] at h; cases h
  | some p =>
    obtain ⟨m, i⟩ := p
    cases h2 : openO (l.drop i) with
    | none => exfalso; unfold soaO at h; rw [h1] at h; simp only [] at h; rw [h2] at h; cases h
    | some q =>
      obtain ⟨x, k⟩ := q
      obtain ⟨e1, e2, e3, e4, e5⟩ := soa_some h1 h2
      rw [e5] at h
      have hl : l.length = i + k + 20 := by simpa using h
      have hS : soaO l = some (m, x, i + k) := by
        unfold soaO
        rw [h1]
        simp only []
        rw [h2]
        simp only []
        rw [if_pos hl]
      rw [hS]
      unfold SoaM.bytes SoaM.low soaM
      simp only
      rw [e2, e1, e3, e4]
      have hd : ∀ j, j + 4 ≤ 20 → be4 (numOf ((l.drop (i + k + j)).take 4) 0) = (l.drop (i + k + j)).take 4 := fun j hj => be4_num _ (by rw [List.length_take, List.length_drop]; omega)
      have h0 := hd 0 (by omega)
      rw [Nat.add_zero] at h0
      rw [h0, hd 4 (by omega), hd 8 (by omega), hd 12 (by omega), hd 16 (by omega)]
      generalize hr : l.drop (i + k) = r
      have hrl : r.length = 20 := by rw [← hr, List.length_drop]; omega
      have hj : ∀ j, l.drop (i + k + j) = r.drop j := fun j => by rw [← hr, List.drop_drop]
      rw [hj 4, hj 8, hj 12, hj 16]
      simp only [List.append_assoc]
      congr 2
      have c1 := (List.take_append_drop 4 r).symm
      have c2 := (List.take_append_drop 4 (r.drop 4)).symm
      have c3 := (List.take_append_drop 4 (r.drop 8)).symm
      have c4 := (List.take_append_drop 4 (r.drop 12)).symm
      have c5 : (r.drop 16).take 4 = r.drop 16 := List.take_of_length_le (by rw [List.length_drop]; omega)
      rw [List.drop_drop] at c2 c3 c4
      rw [c5, ← c4, ← c3, ← c2, ← c1]
theorem setc_side {w : World} {b o k : Nat} {v : Value} (h : o ≠ k) : (w.setCell ⟨b, o, none⟩ v).cell? ⟨b, k, none⟩ = w.cell? ⟨b, k, none⟩ := World.cell?_setCell_other (w := w) (a := ⟨b, o, none⟩) (b := ⟨b, k, none⟩) (v := v) (by intro e; cases e; exact h rfl)
set_option maxRecDepth 100000 in
set_option maxHeartbeats 20000000 in
theorem Canon6 (A : Option Addr) (l : Lab) (cap : Nat) (w : World) (hc : Cs w A (l.map byteV)) (hl : l.length ≤ 100000) (hcap : l.length ≤ cap) (hcap2 : cap ≤ maxLen) :
    Calls Tryz.prog 97 #[.int .u16 6, .slice A l.length cap] w fun e w' =>
      Below w.heap.size w w' ∧ ∃ v, e = .returned (.tuple #[v, .int .i64 (code50 (chk 6 l))]) ∧ w'.ownsRow w.heap.size 5 1 v (canonR 6 l).length ((canonR 6 l).map byteV) := by
  have HC := Lib.hid (Check6 A l cap w hc hl hcap hcap2)
  cases hk : chk 6 l with
  | false =>
    have HE := Lib.hid (canonR_no hk)
    have HK := Lib.hid hk
    clear hk hc
    rw [HK.out] at HC
    go_enter Tryz.func97, Tryz.ntmps97
    go_wp2_with fail
    refine HC.out.mono ?_
    rintro e w1 ⟨hb1, rfl⟩
    unfold code50
    go_wp2_with fail
    go_ret2
    exact ⟨hb1, _, rfl, by rw [HE.out]; exact World.ownsRow_nil _ _ _ _⟩
  | true =>
    have hsb : soaB l = true := by rw [chk6] at hk; simp at hk; exact hk.2
    have HE := Lib.hid ((canonR_yes hk).trans (canonO_soa hsb))
    have HK := Lib.hid hk
    have HSB := Lib.hid hsb
    have HF := Lib.hid (soa_fits l)
    have HSo : Hid (∀ W, Below w.heap.size w W → Calls Tryz.prog 104 #[.slice A l.length cap] W fun e w' => Below W.heap.size W w' ∧ ∃ v, e = .returned (.tuple #[v, .int .i64 (code50 (soaB l))]) ∧ SoaPost W w' l v) := Lib.hid fun W hW => Soa A l cap W (hc.below hW) hl hcap hcap2
    rw [HSB.out] at HSo
    rw [HK.out] at HC
    clear hk hsb hc
    unfold code50 at *
    go_enter Tryz.func97, Tryz.ntmps97
    go_wp2_with fail
    refine HC.out.mono ?_
    rintro e w1 ⟨hb1, rfl⟩
    go_wp2_with fail
    refine (HSo.out w1 hb1).mono ?_
    rintro e w2 ⟨hb2, v, rfl, hp⟩
    obtain ⟨Am, ca, Bx, cb, hv, hownM, hownX⟩ := hp.2 HSB.out
    obtain ⟨_, _, hcM⟩ : ∃ (_ : True) (_ : True), Cs w2 Am ((soaM l).m.map strV) := by
      obtain ⟨A6, c6, e6, _, h6⟩ := Cs.of_own hownM
      cases e6
      exact ⟨trivial, trivial, h6⟩
    obtain ⟨_, _, hcX⟩ : ∃ (_ : True) (_ : True), Cs w2 Bx ((soaM l).x.map strV) := by
      obtain ⟨A6, c6, e6, _, h6⟩ := Cs.of_own hownX
      cases e6
      exact ⟨trivial, trivial, h6⟩
    have hsM : Small (soaM l).m := openN_small _
    have hsX : Small (soaM l).x := openN_small _
    obtain ⟨M, X, n1, n2, n3, n4, n5, hsm⟩ : ∃ M X n1 n2 n3 n4 n5, soaM l = ⟨M, X, n1, n2, n3, n4, n5⟩ := ⟨_, _, _, _, _, _, _, rfl⟩
    rw [hsm] at hv hcM hcX hsM hsX HE HF
    unfold SoaM.v at hv
    unfold SoaM.low at HE HF
    simp only at hv hcM hcX hsM hsX HE HF
    subst hv
    have hb12 := hb1.trans (hb2.mono hb1.size)
    clear hownM hownX hp hsm
    go_wp2_with fail
    generalize hw3 : w2.alloc (.cells #[.slice Am M.length ca, .slice Bx X.length cb, .int .u32 n1, .int .u32 n2, .int .u32 n3, .int .u32 n4, .int .u32 n5] 147) = w3
    have hb3 : Below w2.heap.size w2 w3 := by rw [← hw3]; exact (Below.refl _ _).alloc (Nat.le_refl _) _
    have hz3 : w3.heap.size = w2.heap.size + 1 := by rw [← hw3]; simp
    have hg3 : w3.heap[w2.heap.size]? = some (.cells #[.slice Am M.length ca, .slice Bx X.length cb, .int .u32 n1, .int .u32 n2, .int .u32 n3, .int .u32 n4, .int .u32 n5] 147 (0, 0)) := by rw [← hw3]; exact heap_alloc_new w2 _
    have HLM : Hid (∀ W, Below w2.heap.size w3 W → Calls Tryz.prog 59 #[.slice Am M.length ca] W fun e w' => ∃ v, e = .returned v ∧ w'.ownsRow W.heap.size 9 1 v M.length ((lower M).map strV) ∧ Below W.heap.size W w') := Lib.hid fun W hW => Lower Am M ca W (hcM.below (hb3.trans hW)) hsM.few
    have HLX : Hid (∀ W, Below w2.heap.size w3 W → Calls Tryz.prog 59 #[.slice Bx X.length cb] W fun e w' => ∃ v, e = .returned v ∧ w'.ownsRow W.heap.size 9 1 v X.length ((lower X).map strV) ∧ Below W.heap.size W w') := Lib.hid fun W hW => Lower Bx X cb W (hcX.below (hb3.trans hW)) hsX.few
    have hb13 := hb12.trans (hb3.mono (by have := hb12.size; omega))
    have hzw := hb12.size
    clear hw3 hcM hcX
    generalize hgg : w2.heap.size = g at *
    refine wp_region_rel0 (by kernel_rfl) (by kernel_rfl) (fun _ _ => false) (by kernel_rfl)
      (fun i W W' => if i = 7 then ∃ v, W' = W.setCell ⟨g, 0, none⟩ v else if i = 9 then ∃ v, W' = W.setCell ⟨g, 1, none⟩ v else Ext W W')
      (fun W => Below g w3 W ∧ ∃ c0 c1, W.heap[g]? = some (.cells #[c0, c1, .int .u32 n1, .int .u32 n2, .int .u32 n3, .int .u32 n4, .int .u32 n5] 147 (0, 0)))
      (fun i v W => match i with
        | 0 => v = .pointer (some ⟨g, 0, none⟩)
        | 1 => v = .slice Am M.length ca
        | 2 => W.ownsRow w3.heap.size 9 1 v M.length ((lower M).map strV)
        | 3 => v = .pointer (some ⟨g, 1, none⟩)
        | 4 => v = .slice Bx X.length cb
        | 5 => W.ownsRow w3.heap.size 9 1 v X.length ((lower X).map strV)
        | 6 => v = .pointer (some ⟨g, 0, none⟩)
        | 7 => ∃ A5 c5, W.cell? ⟨g, 0, none⟩ = some (.slice A5 M.length c5) ∧ W.ownsRow w3.heap.size 9 1 (.slice A5 M.length c5) M.length ((lower M).map strV)
        | 8 => v = .pointer (some ⟨g, 1, none⟩)
        | 9 => ∃ A5 c5, W.cell? ⟨g, 1, none⟩ = some (.slice A5 X.length c5) ∧ W.ownsRow w3.heap.size 9 1 (.slice A5 X.length c5) X.length ((lower X).map strV)
        | _ => True)
      (fun W => W.cell? ⟨g, 0, none⟩ = some (.slice Am M.length ca) ∧ W.cell? ⟨g, 1, none⟩ = some (.slice Bx X.length cb)) (fun i => i == 7 || i == 9) ?_ ?_ ?_ ?_ ?_ ?_ ?_
    · exact ⟨(by show w3.cell? _ = _; rw [cell_of_row _ _ 0 _ _ _ hg3]; rfl), (by show w3.cell? _ = _; rw [cell_of_row _ _ 1 _ _ _ hg3]; rfl)⟩
    · intro i W W' hk hC hI hT
      have h7 : i ≠ 7 := fun h => by subst h; cases hk
      have h9 : i ≠ 9 := fun h => by subst h; cases hk
      simp only [h7, h9, if_false] at hT
      obtain ⟨_, c0, c1, hq⟩ := hC
      exact ⟨(bcl hT (lt_block hq)).trans hI.1, (bcl hT (lt_block hq)).trans hI.2⟩
    · exact ⟨⟨rfl, rfl, rfl, Nat.le_refl _, fun _ _ => rfl⟩, _, _, hg3⟩
    · intro i W W' hC hT
      obtain ⟨hb, c0, c1, hq⟩ := hC
      have hz := hb.size
      by_cases h7 : i = 7
      · simp only [h7, if_true] at hT
        obtain ⟨v, rfl⟩ := hT
        exact ⟨hb.setCell (p := ⟨g, 0, none⟩) (Nat.le_refl _) _, v, c1, heap_set hq⟩
      · by_cases h9 : i = 9
        · simp only [h9, if_true, show ¬ (9 : Nat) = 7 by omega, if_false] at hT
          obtain ⟨v, rfl⟩ := hT
          exact ⟨hb.setCell (p := ⟨g, 1, none⟩) (Nat.le_refl _) _, c0, v, heap_set hq⟩
        · simp only [h7, h9, if_false] at hT
          exact ⟨hb.trans (hT.mono (by omega)), c0, c1, (hT.block _ (lt_block hq)).trans hq⟩
    · intro i j v W W' hij _ hw hC hR hT
      obtain ⟨hb, c0, c1, hq⟩ := hC
      by_cases h79 : i = 7 ∨ i = 9
      · have hk : Kept (fun b => b = g) W W' := by
          rcases h79 with rfl | rfl
          · simp only [if_true] at hT
            obtain ⟨u, rfl⟩ := hT
            exact (Kept.refl (fun b => b = g) W).setCell (p := ⟨g, 0, none⟩) (fun _ => rfl) u
          · simp only [if_true, show ¬ (9 : Nat) = 7 by omega, if_false] at hT
            obtain ⟨u, rfl⟩ := hT
            exact (Kept.refl (fun b => b = g) W).setCell (p := ⟨g, 1, none⟩) (fun _ => rfl) u
        have hrow : ∀ {u : Value} {n : Nat} {xs : List Value}, W.ownsRow w3.heap.size 9 1 u n xs → W'.ownsRow w3.heap.size 9 1 u n xs := fun h => Kept.row h hk (fun k hk2 => by have := (h.lt k hk2).1; omega)
        rcases j with _ | _ | _ | _ | _ | _ | _ | _ | _ | _ | j
        · exact hR
        · exact hR
        · exact hrow hR
        · exact hR
        · exact hR
        · exact hrow hR
        · exact hR
        · obtain ⟨A5, c5, h1, h2⟩ := hR
          refine ⟨A5, c5, ?_, hrow h2⟩
          rcases h79 with rfl | rfl
          · exact absurd rfl hij
          · simp only [if_true, show ¬ (9 : Nat) = 7 by omega, if_false] at hT
            obtain ⟨u, rfl⟩ := hT
            rw [setc_side (by decide)]
            exact h1
        · exact hR
        · obtain ⟨A5, c5, h1, h2⟩ := hR
          refine ⟨A5, c5, ?_, hrow h2⟩
          rcases h79 with rfl | rfl
          · simp only [if_true] at hT
            obtain ⟨u, rfl⟩ := hT
            rw [setc_side (by decide)]
            exact h1
          · exact absurd rfl hij
        · trivial
      · have h7 : ¬ i = 7 := fun h => h79 (.inl h)
        have h9 : ¬ i = 9 := fun h => h79 (.inr h)
        simp only [h7, h9, if_false] at hT
        rcases j with _ | _ | _ | _ | _ | _ | _ | _ | _ | _ | j
        · exact hR
        · exact hR
        · exact own_below hR hT
        · exact hR
        · exact hR
        · exact own_below hR hT
        · exact hR
        · obtain ⟨A5, c5, h1, h2⟩ := hR
          exact ⟨A5, c5, (bcl hT (lt_block hq)).trans h1, own_below h2 hT⟩
        · exact hR
        · obtain ⟨A5, c5, h1, h2⟩ := hR
          exact ⟨A5, c5, (bcl hT (lt_block hq)).trans h1, own_below h2 hT⟩
        · trivial
    · intro i o hio vals W hC haf hI
      obtain ⟨hb, c0, c1, hq⟩ := hC
      have hz := hb.size
      have k0 : W.cell? ⟨g, 0, none⟩ = some c0 := by rw [cell_of_row _ _ 0 _ _ _ hq]; rfl
      have k1 : W.cell? ⟨g, 1, none⟩ = some c1 := by rw [cell_of_row _ _ 1 _ _ _ hq]; rfl
      have kf : ∀ i, W.frozen? ⟨g, i, none⟩ = false := (cells7 hq).2.2.2.2.2.2.2
      rcases i with _ | _ | _ | _ | _ | _ | _ | _ | _ | _ | i
      all_goals first
        | (exfalso; simp at hio; done)
        | skip
      all_goals
        simp at hio
        subst hio
        simp [bindD, rdB, Region.binds] at haf
      · simp [opYield_def, yieldUpon, relAct, dstAt, Act.put, Region.wanted, go_sem, Ext.refl]
      · have hII := hI (fun k hk h => by
          have : k = 7 ∨ k = 9 := by simpa using h
          rcases this with rfl | rfl
          · exact .inr (by kernel_rfl)
          · exact .inr (by kernel_rfl))
        simp [opYield_def, yieldUpon, relAct, dstAt, Act.put, Region.wanted, go_sem, haf, hII.1, Ext.refl]
      · simp [opYield_def, yieldUpon, relAct, dstAt, Act.put, Region.wanted, go_sem, haf]
        refine (HLM.out W hb).mono fun e W' h5 => ?_
        obtain ⟨v, he, ho, hbb⟩ := h5
        exact ⟨v, he, hbb, own_base ho hz⟩
      · simp [opYield_def, yieldUpon, relAct, dstAt, Act.put, Region.wanted, go_sem, Ext.refl]
      · have hII := hI (fun k hk h => by
          have : k = 7 ∨ k = 9 := by simpa using h
          rcases this with rfl | rfl
          · exact .inr (by kernel_rfl)
          · exact .inr (by kernel_rfl))
        simp [opYield_def, yieldUpon, relAct, dstAt, Act.put, Region.wanted, go_sem, haf, hII.2, Ext.refl]
      · simp [opYield_def, yieldUpon, relAct, dstAt, Act.put, Region.wanted, go_sem, haf]
        refine (HLX.out W hb).mono fun e W' h5 => ?_
        obtain ⟨v, he, ho, hbb⟩ := h5
        exact ⟨v, he, hbb, own_base ho hz⟩
      · simp [opYield_def, yieldUpon, relAct, dstAt, Act.put, Region.wanted, go_sem, Ext.refl]
      · obtain ⟨h1, h2⟩ := haf
        obtain ⟨A5, c5, e5, _, _⟩ := Cs.of_own h2
        have hrow := Kept.row h2 ((Kept.refl (fun b => b = g) W).setCell (p := ⟨g, 0, none⟩) (fun _ => rfl) (.slice A5 M.length c5)) (fun k hk2 => by have := (h2.lt k hk2).1; omega)
        rw [e5] at hrow
        simp [opYield_def, yieldUpon, relAct, dstAt, Act.put, Region.wanted, go_sem, h1, e5, k0, kf]
        exact ⟨⟨_, rfl⟩, A5, c5, ⟨rfl, rfl⟩, hrow⟩
      · simp [opYield_def, yieldUpon, relAct, dstAt, Act.put, Region.wanted, go_sem, Ext.refl]
      · obtain ⟨h1, h2⟩ := haf
        obtain ⟨A5, c5, e5, _, _⟩ := Cs.of_own h2
        have hrow := Kept.row h2 ((Kept.refl (fun b => b = g) W).setCell (p := ⟨g, 1, none⟩) (fun _ => rfl) (.slice A5 X.length c5)) (fun k hk2 => by have := (h2.lt k hk2).1; omega)
        rw [e5] at hrow
        simp [opYield_def, yieldUpon, relAct, dstAt, Act.put, Region.wanted, go_sem, h1, e5, k1, kf]
        exact ⟨⟨_, rfl⟩, A5, c5, ⟨rfl, rfl⟩, hrow⟩
    · intro vals W hC hR
      obtain ⟨hb, c0, c1, hq⟩ := hC
      obtain ⟨A5, c5, h7, o7⟩ := hR 7 (by show 7 < 10; omega) (fun _ _ => rfl)
      obtain ⟨A6, c6, h9, o9⟩ := hR 9 (by show 9 < 10; omega) (fun _ _ => rfl)
      obtain ⟨k0, k1, k2, k3, k4, k5, k6, _⟩ := cells7 hq
      have e0 := k0.symm.trans h7
      have e1 := k1.symm.trans h9
      cases e0
      cases e1
      simp [relAct, dstAt, Act.put]
      have hz := hb.size
      have hbW := hb13.trans (hb.mono (by omega))
      have hc7 : Cs W A5 ((lower M).map strV) := by
        obtain ⟨A8, c8, e8, _, h8⟩ := Cs.of_own o7
        cases e8
        exact h8
      have hc9 : Cs W A6 ((lower X).map strV) := by
        obtain ⟨A8, c8, e8, _, h8⟩ := Cs.of_own o9
        cases e8
        exact h8
      have hSB := SoaBytes ⟨lower M, lower X, n1, n2, n3, n4, n5⟩ HF.out A5 A6 c5 c6 W hc7 hc9
      unfold SoaM.v at hSB
      simp only [lower_len] at hSB
      have HSB2 := Lib.hid hSB
      clear hR hSB h7 h9 hq
      generalize vals 0 = v0 at *
      generalize vals 1 = v1 at *
      generalize vals 2 = v2 at *
      generalize vals 3 = v3 at *
      generalize vals 4 = v4 at *
      generalize vals 5 = v5 at *
      generalize vals 6 = v6 at *
      generalize vals 8 = v8 at *
      go_wp2_with fail
      refine HSB2.out.mono ?_
      rintro e w9 ⟨v, rfl, ho, hbb⟩
      have hb9 := hbW.trans (hbb.mono (by omega))
      have hoF := own_base ho (show w.heap.size ≤ W.heap.size by omega)
      go_wp2_with fail
      go_ret2
      refine ⟨hb9, _, rfl, ?_⟩
      rw [HE.out]
      exact hoF
end Nm
end Go.Proofs.YtkeimgamjnpcbaaGreat

/- Contracts of package zone: canon, key; rdata.Check and Canon at all types but RRSIG, DNSKEY, NSEC3. -/
namespace Go.Proofs.YtkeimgamjnpcbaaGreat
open Go.RowKit
set_option linter.unusedVariables false
namespace Nm
def easyT (t : Int) : Prop := t ≠ 46 ∧ t ≠ 48 ∧ t ≠ 50
theorem CheckE (t : Int) (ht : easyT t) (A : Option Addr) (l : Lab) (cap : Nat) (w : World) (hc : Cs w A (l.map byteV)) (hl : l.length ≤ 100000) (hcap : l.length ≤ cap) (hcap2 : cap ≤ maxLen) :
    Calls Tryz.prog 67 #[.int .u16 t, .slice A l.length cap] w fun e w' => Below w.heap.size w w' ∧ e = .returned (.int .i64 (code50 (chk t l))) := by
  by_cases h6 : t = 6
  · subst h6
    exact Check6 A l cap w hc hl hcap hcap2
  · exact CheckS t A l cap w h6 ht.1 ht.2.1 ht.2.2 hc hl hcap hcap2
theorem CanonE (t : Int) (ht : easyT t) (A : Option Addr) (l : Lab) (cap : Nat) (w : World) (hc : Cs w A (l.map byteV)) (hl : l.length ≤ 100000) (hcap : l.length ≤ cap) (hcap2 : cap ≤ maxLen) :
    Calls Tryz.prog 97 #[.int .u16 t, .slice A l.length cap] w fun e w' =>
      Below w.heap.size w w' ∧ ∃ v, e = .returned (.tuple #[v, .int .i64 (code50 (chk t l))]) ∧ w'.ownsRow w.heap.size 5 1 v (canonR t l).length ((canonR t l).map byteV) := by
  by_cases h6 : t = 6
  · subst h6
    exact Canon6 A l cap w hc hl hcap hcap2
  · by_cases hN : isN t
    · exact CanonN t hN A l cap w hc hl hcap hcap2
    · exact CanonP t (fun h => hN (.inl h)) (fun h => hN (.inr (.inl h))) (fun h => hN (.inr (.inr h))) h6 ht.1 ht.2.1 ht.2.2 A l cap w hc hl hcap hcap2
set_option maxHeartbeats 1000000 in
theorem ZCanon (t : Int) (ht : easyT t) (A : Option Addr) (l : Lab) (cap : Nat) (w : World) (hc : Cs w A (l.map byteV)) (hl : l.length ≤ 100000) (hcap : l.length ≤ cap) (hcap2 : cap ≤ maxLen) :
    Calls Tryz.prog 68 #[.int .u16 t, .slice A l.length cap] w fun e w' =>
      Below w.heap.size w w' ∧ ∃ v, e = .returned v ∧ w'.ownsRow w.heap.size 5 1 v (canonD t l).length ((canonD t l).map byteV) := by
  have HC := Lib.hid (CanonE t ht A l cap w hc hl hcap hcap2)
  have HCl : Hid (∀ W, Below w.heap.size w W → Calls Tryz.prog 74 #[.slice A l.length cap] W fun e w' => ∃ v, e = .returned v ∧ w'.ownsRow W.heap.size 5 1 v l.length (l.map byteV) ∧ Below W.heap.size W w') := Lib.hid fun W hW => CloneB A l cap W (hc.below hW) (by omega)
  cases hk : chk t l with
  | false =>
    have HE : Hid (canonD t l = l) := Lib.hid (by unfold canonD; rw [hk]; rfl)
    rw [hk] at HC
    unfold code50 at HC
    clear hk
    go_enter Tryz.func68, Tryz.ntmps68
    go_wp2_with fail
    refine HC.out.mono ?_
    rintro e w1 ⟨hb1, v, rfl, hown⟩
    go_wp2_with fail
    refine (HCl.out w1 hb1).mono ?_
    rintro e w2 ⟨v2, rfl, hown2, hb2⟩
    have hb12 := hb1.trans (hb2.mono hb1.size)
    have ho := own_base hown2 hb1.size
    clear hown
    go_wp2_with fail
    go_ret
    exact ⟨hb12, _, rfl, by rw [HE.out]; exact ho⟩
  | true =>
    have HE : Hid (canonD t l = canonR t l) := Lib.hid (by unfold canonD canonR; rw [hk]; rfl)
    rw [hk] at HC
    unfold code50 at HC
    clear hk
    go_enter Tryz.func68, Tryz.ntmps68
    go_wp2_with fail
    refine HC.out.mono ?_
    rintro e w1 ⟨hb1, v, rfl, hown⟩
    have HO := Lib.hid hown
    clear hown
    go_wp2_with fail
    go_ret
    exact ⟨hb1, _, rfl, by rw [HE.out]; exact HO.out⟩
/-- a name's key -/
def zkey (n : List Lab) : Lab := wire (lower n)
set_option maxHeartbeats 1000000 in
theorem ZKey (A : Option Addr) (n : List Lab) (cap : Nat) (w : World) (hA : Cs w A (n.map strV)) (hn : Small n) :
    Calls Tryz.prog 71 #[.slice A n.length cap] w fun e w' => e = .returned (strV (zkey n)) ∧ Below w.heap.size w w' := by
  go_enter Tryz.func71, Tryz.ntmps71
  go_wp2_with fail
  refine (Lower A n cap w hA hn.few).mono ?_
  rintro e w1 ⟨v1, rfl, hown1, hb1⟩
  obtain ⟨A1, c1, rfl, _, hcs1⟩ := Cs.of_own hown1
  have hll : (lower n).length = n.length := lower_len n
  have hwi := Wire A1 (lower n) c1 w1 hcs1 hn.lower
  rw [hll] at hwi
  clear hown1
  go_wp2_with fail
  refine hwi.mono ?_
  rintro e w2 ⟨v2, rfl, hown2, hb2⟩
  obtain ⟨A2, c2, rfl, _, hcs2⟩ := Cs.of_own hown2
  have hst := run_str (P := Tryz.prog) w2 Tryz.underlying31 Tryz.underlying5 Tryz.underlying9 c2 hcs2
  have hb12 := hb1.trans (hb2.mono hb1.size)
  clear hown2 hwi hcs2
  go_wp2_with fail
  go_ret
  exact ⟨rfl, hb12⟩
end Nm
end Go.Proofs.YtkeimgamjnpcbaaGreat

/- Contracts of package zone: New. -/
namespace Go.Proofs.YtkeimgamjnpcbaaGreat
open Go.RowKit
set_option linter.unusedVariables false
namespace Nm
/-- an empty zone, as it is made -/
structure Made (w : World) (B z bn bb : Nat) (ap : List Lab) : Prop where
  blk : ∃ A c, w.heap[z]? = some (.cells #[.slice A ap.length c, .map (some bn), .map (some bb), .int .i64 0] 100 (0, 0)) ∧ w.ownsRow B 9 1 (.slice A ap.length c) ap.length (ap.map strV)
  nodes : w.heap[bn]? = some (.map #[] 0)
  below : w.heap[bb]? = some (.map #[] 0)
  h1 : B ≤ bn
  h2 : bn < bb
  h3 : bb < z
set_option maxHeartbeats 1000000 in
theorem ZNew (A : Option Addr) (n : List Lab) (cap : Nat) (w : World) (hA : Cs w A (n.map strV)) (hn : Few n) :
    Calls Tryz.prog 24 #[.slice A n.length cap] w fun e w' => ∃ z bn bb, e = .returned (.pointer (some ⟨z, 0, none⟩)) ∧ Made w' w.heap.size z bn bb (lower n) ∧ Below w.heap.size w w' := by
  have hmm := @run_makeMap Tryz.prog
  have hll := lower_len n
  go_enter Tryz.func24, Tryz.ntmps24
  go_wp2_with fail
  refine (Lower A n cap w hA hn).mono ?_
  rintro e w1 ⟨v1, rfl, hown1, hb1⟩
  obtain ⟨A1, c1, rfl, _, hcs1⟩ := Cs.of_own hown1
  have hz1 := hb1.size
  go_wp2_with fail
  go_ret
  have b1 : Below w1.heap.size w1 (w1.alloc (.map #[] 0)) := (Below.refl _ _).alloc (Nat.le_refl _) _
  have b2 : Below (w1.heap.size + 1) (w1.alloc (.map #[] 0)) ((w1.alloc (.map #[] 0)).alloc (.map #[] 0)) := (Below.refl _ _).alloc (by simp) _
  have m1 : ((w1.alloc (.map #[] 0)).alloc (.map #[] 0)).heap[w1.heap.size]? = some (.map #[] 0) := by
    rw [Below.heap_alloc _ _ _ (by simp)]
    exact heap_alloc_new w1 _
  have m2 : ((w1.alloc (.map #[] 0)).alloc (.map #[] 0)).heap[w1.heap.size + 1]? = some (.map #[] 0) := by
    have := heap_alloc_new (w1.alloc (.map #[] 0)) (.map #[] 0)
    rw [World.size_alloc] at this
    exact this
  have b12 := b1.trans (b2.mono (by omega))
  have hs : ((w1.alloc (.map #[] 0)).alloc (.map #[] 0)).heap.size = w1.heap.size + 2 := by simp
  have o2 := own_below hown1 b12
  generalize (w1.alloc (.map #[] 0)).alloc (.map #[] 0) = w2 at *
  have b3 : Below w2.heap.size w2 (w2.alloc (.cells #[.slice A1 n.length c1, .map (some w1.heap.size), .map (some (w1.heap.size + 1)), .int .i64 0] 100)) := (Below.refl _ _).alloc (Nat.le_refl _) _
  have z3 := heap_alloc_new w2 (.cells #[.slice A1 n.length c1, .map (some w1.heap.size), .map (some (w1.heap.size + 1)), .int .i64 0] 100)
  have o3 := own_below o2 b3
  refine ⟨w2.heap.size, w1.heap.size, w1.heap.size + 1, by rw [hs]; rfl, ⟨⟨A1, c1, ?_, ?_⟩, (b3.block _ (by omega)).trans m1, (b3.block _ (by omega)).trans m2, hz1, by omega, by omega⟩, (hb1.trans (b12.mono hz1)).trans (b3.mono (by omega))⟩
  · rw [hll]; exact z3
  · rw [hll]; exact o3
end Nm
end Go.Proofs.YtkeimgamjnpcbaaGreat

/- Contracts of package zone: how a datum is sought. -/
namespace Go.Proofs.YtkeimgamjnpcbaaGreat
open Go.RowKit
set_option linter.unusedVariables false
namespace Nm
set_option maxHeartbeats 1000000 in
theorem find1 (x y : Blob) (B : Option Addr) (m : Lab) (d : Nat) (w : World) (hy : y.ok w) (hB : Cs w B (m.map byteV)) :
    Calls Tryz.prog 112 #[.agg #[x.v, y.v], .slice B m.length d] w fun e w' => e = .returned (.int .i64 (Lib.compareBytes y.l m)) ∧ Below w.heap.size w w' := by
  unfold Blob.v
  have hb1 : Below w.heap.size w (w.alloc (.cells #[.slice x.A x.l.length x.cap, .slice y.A y.l.length y.cap] 119)) := (Below.refl _ _).alloc (Nat.le_refl _) _
  have HC := Lib.hid (BCompare y.A B y.l m y.cap d (w.alloc (.cells #[.slice x.A x.l.length x.cap, .slice y.A y.l.length y.cap] 119)) (Cs.below hy hb1) (hB.below hb1))
  go_enter Tryz.func112, Tryz.ntmps112
  go_wp2_with fail
  refine HC.out.mono ?_
  rintro e w2 ⟨rfl, rfl⟩
  go_wp2_with fail
  go_ret
  exact ⟨rfl, hb1⟩
/-- data, cell by cell -/
def datC (ds : List (Blob × Blob)) : List Value := ds.flatMap fun d => [d.1.v, d.2.v]
theorem datC_get : ∀ (ds : List (Blob × Blob)) (i : Nat) (h : i < ds.length), (datC ds)[i * 2]? = some ds[i].1.v ∧ (datC ds)[i * 2 + 1]? = some ds[i].2.v
  | d :: ds, 0, _ => ⟨rfl, rfl⟩
  | d :: ds, i + 1, h => by
    have := datC_get ds i (by simpa using h)
    have e : datC (d :: ds) = d.1.v :: d.2.v :: datC ds := rfl
    rw [e, show (i + 1) * 2 = i * 2 + 2 by omega]
    simpa using this
def DatOk (w : World) (ds : List (Blob × Blob)) : Prop := ∀ d ∈ ds, d.1.ok w ∧ d.2.ok w
/-- where the first datum stands that is not ahead of it -/
def FindAt (ds : List (Blob × Blob)) (m : Lab) (p : Nat) : Prop := p ≤ ds.length ∧ (∀ j (h : j < ds.length), j < p → Lib.compareBytes ds[j].2.l m < 0) ∧ (∀ j (h : j < ds.length), p ≤ j → ¬ Lib.compareBytes ds[j].2.l m < 0)
def FindR (ds : List (Blob × Blob)) (p : Nat) (w : World) (lo hi x : Value) (wr : World) : Prop :=
  ∃ a b : Nat, a ≤ p ∧ p ≤ b ∧ b ≤ ds.length ∧ lo = .int .i64 a ∧ hi = .int .i64 b ∧ Below w.heap.size w wr
end Nm
end Go.Proofs.YtkeimgamjnpcbaaGreat

/- Contracts of package zone: the search (NOT DONE). -/
namespace Go.Proofs.YtkeimgamjnpcbaaGreat
open Go.RowKit
set_option linter.unusedVariables false
namespace Nm
set_option maxRecDepth 100000 in
set_option maxHeartbeats 4000000 in
theorem Search (A B : Option Addr) (ds : List (Blob × Blob)) (cap : Nat) (m : Lab) (d p : Nat) (w : World) (hA : Cs w A (datC ds)) (hd : DatOk w ds) (hB : Cs w B (m.map byteV)) (hn : ds.length ≤ 1000000) (hp : FindAt ds m p) :
    Calls Tryz.prog 111 #[.slice A ds.length cap, .slice B m.length d, .func (.func 112) #[] #[]] w fun e w' =>
      e = .returned (.tuple #[.int .i64 p, .bool (decide (p < ds.length) && decide (Lib.compareBytes (ds.getD p default).2.l m = 0))]) ∧ Below w.heap.size w w' := by
  go_enter Tryz.func111, Tryz.ntmps111
  go_wp2_with fail
  go_loopw [9, 10, 11] (FindR ds p w) (fun lo hi _ _ => (intOf hi).toNat - (intOf lo).toNat)
  case atStart => exact ⟨0, ds.length, by omega, hp.1, Nat.le_refl _, rfl, rfl, Below.refl _ _⟩
  case round =>
    obtain ⟨a, b, h1, h2, h3, rfl, rfl, hbel⟩ := hrel
    by_cases hlt : a < b
    · go_upto_region 5 with fail
      obtain ⟨h, hh⟩ : ∃ h : Nat, h = (a + b) / 2 := ⟨_, rfl⟩
      have hhi : ((a : Int) + b) / 2 = h := by omega
      have hhl : h < ds.length := by omega
      rw [hhi]
      obtain ⟨g1, g2⟩ := datC_get ds h hhl
      obtain ⟨bk, off, rfl, hbk, hc0⟩ := hA _ _ g1
      obtain ⟨_, _, e9, _, hc1⟩ := hA _ _ g2
      cases e9
      have q0 := (hbel.cell (p := ⟨bk, off + h * 2, none⟩) hbk).trans hc0
      have q1 := (hbel.cell (p := ⟨bk, off + (h * 2 + 1), none⟩) hbk).trans hc1
      rw [← Nat.add_assoc] at q1
      have hok := hd ds[h] (List.getElem_mem hhl)
      have HF := Lib.hid (find1 ds[h].1 ds[h].2 B m d wr (Cs.below hok.2 hbel) (hB.below hbel))
      have HP1 := Lib.hid (hp.2.1 h hhl)
      have HP2 := Lib.hid (hp.2.2 h hhl)
      generalize ds[h] = x at *
      obtain ⟨x1, x2⟩ := x
      unfold Blob.v at q0 q1 HF
      simp only at q0 q1 HF HP1 HP2
      have hah : a ≤ h := by omega
      have hhb : h < b := by omega
      clear g1 g2 hc0 hc1 hhi hok hh
      go_wp2_with fail
      refine HF.out.mono ?_
      rintro e w2 ⟨rfl, hb2⟩
      have hbw := hbel.trans (hb2.mono hbel.size)
      generalize Lib.compareBytes x2.l m = cmp at *
      by_cases hneg : cmp < 0
      · have hhp : h + 1 ≤ p := by
          rcases Nat.lt_or_ge h p with g | g
          · exact g
          · have := HP2.out g; omega
        have hdec : decide (cmp < 0) = true := decide_eq_true hneg
        go_wp2_with fail
        exact ⟨⟨h + 1, b, hhp, h2, h3, by go_num, rfl, hbw⟩, by simp [intOf]; omega⟩
      · have hhp : p ≤ h := by
          rcases Nat.lt_or_ge h p with g | g
          · have := HP1.out g; omega
          · exact g
        have hdec : decide (cmp < 0) = false := decide_eq_false hneg
        go_wp2_with fail
        exact ⟨⟨a, h, h1, hhp, by omega, rfl, rfl, hbw⟩, by simp [intOf]; omega⟩
    · have hap : a = p := by omega
      have hbp : b = p := by omega
      subst hap
      subst hbp
      by_cases hpl : b < ds.length
      · obtain ⟨g1, g2⟩ := datC_get ds b hpl
        obtain ⟨bk, off, rfl, hbk, hc0⟩ := hA _ _ g1
        obtain ⟨_, _, e9, _, hc1⟩ := hA _ _ g2
        cases e9
        have q0 := (hbel.cell (p := ⟨bk, off + b * 2, none⟩) hbk).trans hc0
        have q1 := (hbel.cell (p := ⟨bk, off + (b * 2 + 1), none⟩) hbk).trans hc1
        rw [← Nat.add_assoc] at q1
        have hok := hd ds[b] (List.getElem_mem hpl)
        have hgd : ds.getD b default = ds[b] := by simp [List.getD, hpl]
        have HG := Lib.hid (congrArg (fun x : Blob × Blob => Lib.compareBytes x.2.l m) hgd)
        clear hgd
        have HF := Lib.hid (find1 ds[b].1 ds[b].2 B m d wr (Cs.below hok.2 hbel) (hB.below hbel))
        generalize ds[b] = x at *
        obtain ⟨x1, x2⟩ := x
        unfold Blob.v at q0 q1 HF
        simp only at q0 q1 HF
        clear g1 g2 hc0 hc1 hok hp hd
        generalize Lib.compareBytes x2.l m = cmp at *
        have hdl : decide (b < ds.length) = true := decide_eq_true hpl
        go_wp2_with fail
        refine HF.out.mono ?_
        rintro e w2 ⟨rfl, hb2⟩
        have hbw := hbel.trans (hb2.mono hbel.size)
        go_wp2_with fail
        go_ret2
        have hg : Lib.compareBytes (ds.getD b default).2.l m = cmp := HG.out
        refine ⟨?_, hbw⟩
        rw [hg]
        simp [hpl]
        rw [Bool.eq_iff_iff]; simp
      · have hdl : decide (b < ds.length) = false := decide_eq_false hpl
        clear hp hd
        go_wp2_with fail
        go_ret2
        refine ⟨?_, hbel⟩
        rw [hdl]
        simp
end Nm
end Go.Proofs.YtkeimgamjnpcbaaGreat

/- Contracts of package zone: find. -/
namespace Go.Proofs.YtkeimgamjnpcbaaGreat
open Go.RowKit
set_option linter.unusedVariables false
namespace Nm
def hitB (ds : List (Blob × Blob)) (m : Lab) (p : Nat) : Bool := decide (p < ds.length) && decide (Lib.compareBytes (ds.getD p default).2.l m = 0)
set_option maxHeartbeats 1000000 in
theorem ZFind (s : Nat) (A B : Option Addr) (ds : List (Blob × Blob)) (cap : Nat) (m : Lab) (d p : Nat) (w : World) (hs : w.cell? ⟨s, 1, none⟩ = some (.slice A ds.length cap)) (hA : Cs w A (datC ds)) (hd : DatOk w ds) (hB : Cs w B (m.map byteV)) (hn : ds.length ≤ 1000000) (hp : FindAt ds m p) :
    Calls Tryz.prog 70 #[.pointer (some ⟨s, 0, none⟩), .slice B m.length d] w fun e w' => e = .returned (.tuple #[.int .i64 p, .bool (hitB ds m p)]) ∧ Below w.heap.size w w' := by
  have HS := Lib.hid (Search A B ds cap m d p w hA hd hB hn hp)
  unfold hitB
  clear hA hd hB hp
  go_enter Tryz.func70, Tryz.ntmps70
  go_wp2_with fail
  refine HS.out.mono ?_
  rintro e w2 ⟨rfl, hb⟩
  go_wp2_with fail
  go_ret2
  exact ⟨rfl, hb⟩
end Nm
end Go.Proofs.YtkeimgamjnpcbaaGreat

/- Maps whose elements are pointers, or whole numbers: what a lookup hands over. -/
namespace Go.Proofs.YtkeimgamjnpcbaaGreat
open Go.RowKit
set_option linter.unusedVariables false
namespace Nm
/-- a pointer to a block's begin, as a number -/
def ptrR (v : Value) : Option (DataW Unit × List MemPlace) := match v with
  | .pointer none => some (.nil, [])
  | .pointer (some ⟨b, 0, none⟩) => some (.lit (.int .i64 (b : Int)), [])
  | _ => none
theorem ptrR_nil : ptrR (.pointer none) = some (.nil, []) := rfl
theorem ptrR_at (b : Nat) : ptrR (.pointer (some ⟨b, 0, none⟩)) = some (.lit (.int .i64 (b : Int)), []) := rfl
theorem ptrR_inv {v : Value} {z : DataW Unit × List MemPlace} (h : ptrR v = some z) : (v = .pointer none ∧ z.1 = .nil) ∨ ∃ b : Nat, v = .pointer (some ⟨b, 0, none⟩) ∧ z.1 = .lit (.int .i64 (b : Int)) := by
  unfold ptrR at h
  split at h
  · cases h; exact .inl ⟨rfl, rfl⟩
  · cases h; exact .inr ⟨_, rfl, rfl⟩
  · cases h
def ptrD : Option Nat → DataW Unit
  | none => .nil
  | some b => .lit (.int .i64 (b : Int))
def ptrV : Option Nat → Value
  | none => .pointer none
  | some b => .pointer (some ⟨b, 0, none⟩)
theorem ptr_of {v : Value} {o : Option Nat} {ps : List MemPlace} (h : ptrR v = some (ptrD o, ps)) : v = ptrV o := by
  rcases ptrR_inv h with ⟨rfl, hz⟩ | ⟨b, rfl, hz⟩
  · cases o with
    | none => rfl
    | some b => cases hz
  · cases o with
    | none => cases hz
    | some c =>
      simp only [ptrD] at hz
      injection hz with hz
      injection hz with _ hz
      have : c = b := by omega
      rw [this]; rfl
theorem look_ptr {w : World} {P : Program} {k t e : TypeId} {b n : Nat} {D : DataW Unit} (h : w.ownsMap P k ptrR b n D) (K : Maps.Keyed P k) (ht : P.underlying t = some (.map k e)) (hz : (zeroValue e).run P w = .ok (.pointer none) w) {key : Value} {kl : Lit} (hkey : keyOf P k key = some kl)
    {o : Option Nat} (ho : D.atKey kl .nil = ptrD o) : (Instr.lookup t (.map (some b)) key false).run P w = .ok (ptrV o) w := by
  obtain ⟨v, ps, hrun, hv⟩ := h.lookup K ht hz ptrR_nil hkey
  rw [ho] at hv
  rw [hrun, ptr_of hv]
end Nm
end Go.Proofs.YtkeimgamjnpcbaaGreat
