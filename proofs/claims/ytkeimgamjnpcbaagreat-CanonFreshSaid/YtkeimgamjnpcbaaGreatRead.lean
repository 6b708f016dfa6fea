/-
  Contracts of package rdata: read[int], Check.
-/
import Derived.Test.YtkeimgamjnpcbaaGreatShape2
namespace Go.Proofs.YtkeimgamjnpcbaaGreat
open Go.RowKit
set_option linter.unusedVariables false
namespace Nm
/-- no error, or the data's -/
def code50 (b : Bool) : Int := if b then 0 else 50
theorem asserted_must (W : World) : (Instr.typeAssert (.iface 198 (.agg #[])) 20 198 true).run Tryz.prog W = .ok (.tuple #[.agg #[], .bool true]) W := by kernel_rfl
def mustR : FrameMode := .panicking [{ v := .iface 198 (.agg #[]), recovered := true }]
/-- two cells written, a block laid -/
theorem two {w : World} {a b : Nat} {x0 x1 : Value} (h0 : w.cell? ⟨a, 0, none⟩ = some x0) (h1 : w.cell? ⟨b, 0, none⟩ = some x1) (hab : a < b) (v0 v1 : Value) {w' : World}
    (hw : w' = (w.setCell ⟨a, 0, none⟩ v0).setCell ⟨b, 0, none⟩ v1) :
    w'.cell? ⟨a, 0, none⟩ = some v0 ∧ w'.cell? ⟨b, 0, none⟩ = some v1 ∧ Kept (fun k => a ≤ k ∧ k ≤ b) w w' := by
  have a1 := setc_same (v := v0) h0
  have b1 := (setc_far (o := 0) (v := v0) (show a ≠ b by omega)).trans h1
  have a2 := (setc_far (o := 0) (v := v1) (show b ≠ a by omega)).trans a1
  have b2 := setc_same (v := v1) b1
  subst hw
  exact ⟨a2, b2, ((Kept.refl _ _).setCell (p := ⟨a, 0, none⟩) (fun _ => (show a ≤ a ∧ a ≤ b by omega)) _).setCell (p := ⟨b, 0, none⟩) (fun _ => (show a ≤ b ∧ b ≤ b by omega)) _⟩
set_option maxRecDepth 100000 in
set_option maxHeartbeats 1000000 in
theorem readI1_panic (a b : Nat) (x0 x1 : Value) (w : World) (h0 : w.cell? ⟨a, 0, none⟩ = some x0) (h1 : w.cell? ⟨b, 0, none⟩ = some x1)
    (f0 : w.frozen? ⟨a, 0, none⟩ = false) (f1 : w.frozen? ⟨b, 0, none⟩ = false) (l0 : a < w.heap.size) (l1 : b < w.heap.size) (hab : a < b) :
    CallsD Tryz.prog 148 #[.pointer (some ⟨a, 0, none⟩), .pointer (some ⟨b, 0, none⟩)] (.panicking mustP) w fun e u' w' =>
      e = .returned (.tuple #[]) ∧ u' = mustR ∧ w'.cell? ⟨a, 0, none⟩ = some (.int .i64 0) ∧ w'.cell? ⟨b, 0, none⟩ = some (.int .i64 50) ∧ Below a w w' := by
  have hta := asserted_must
  refine callsD_of_wpS Tryz.func148 rfl fun c₀ cs hu => ?_
  apply wpS_seq
  apply wpS_region
  simp [wpOpsS, go_sem, recoverD, mustP, hu, Tryz.ntmps148, Exit.thenS]
  refine wpS_of_wp ?_
  simp only [Array.replicate_succ, Array.replicate_zero, List.push_toArray, List.append_toArray, List.nil_append, List.cons_append, List.setIfInBounds_toArray, List.set_cons_succ, List.set_cons_zero]
  have n0 : ¬ a = w.heap.size := by omega
  have n1 : ¬ b = w.heap.size := by omega
  have m0 : ¬ w.heap.size = a := by omega
  have m1 : ¬ w.heap.size = b := by omega
  have d0 : ¬ a = b := by omega
  have d1 : ¬ b = a := by omega
  go_wp2_with fail
  obtain ⟨z0, z1, hk⟩ := two h0 h1 hab (.int .i64 0) (.int .i64 50) rfl
  exact ⟨rfl, _, rfl, _, results_none rfl _ _ _, rfl, rfl, alloc_cell _ z0, alloc_cell _ z1, (hk.below (B := a) (by omega) (fun k hk => by omega)).alloc (by have := hk.size; omega) _⟩
theorem readI1_idle (a b : Addr) (w : World) : CallsD Tryz.prog 148 #[.pointer (some a), .pointer (some b)] .returning w fun e u' w' => e = .returned (.tuple #[]) ∧ u' = .returning ∧ w' = w := by
  refine callsD_of_wpS Tryz.func148 rfl fun c₀ cs hu => ?_
  apply wpS_seq
  apply wpS_region
  simp [wpOpsS, go_sem, recoverD, hu, Tryz.ntmps148, Exit.thenS]
  refine wpS_of_wp ?_
  simp only [Array.replicate_succ, Array.replicate_zero, List.push_toArray, List.append_toArray, List.nil_append, List.cons_append, List.setIfInBounds_toArray, List.set_cons_succ, List.set_cons_zero]
  go_wp2_with fail
  exact ⟨rfl, .returning, by cases c₀; simp_all, _, results_none rfl _ _ _, rfl, rfl, rfl⟩
theorem Check1 (p : Addr) (t : Int) (r : Nat) (A : Option Addr) (l : Lab) (cap : Nat) (w : World) (hp : w.cell? p = some (.int .u16 t)) (h : Rdr w r A l cap 0) :
    Calls Tryz.prog 109 #[.pointer (some ⟨r, 0, none⟩), .pointer (some p)] w fun e w' =>
      Kept (fun b => b = r) w w' ∧ ((∃ j, e = .returned (.int .i64 0) ∧ Rdr w' r A l cap j ∧ shp t l = decide (j = l.length)) ∨ (shp t l = false ∧ e = .panicked mustP)) := by
  go_enter Tryz.func109, Tryz.ntmps109
  go_wp2_with fail
  refine (shape r A l cap t w h).mono ?_
  rintro e w' ⟨hk, ⟨j, rfl, hr, hs⟩ | ⟨hs, rfl⟩⟩
  · have HS := Lib.hid hs
    clear hs
    go_wp2_with fail
    go_ret
    exact ⟨hk, .inl ⟨_, rfl, hr, HS.out⟩⟩
  · have HS := Lib.hid hs
    clear hs
    go_wp2_with fail
    exact ⟨rfl, hk, .inr ⟨HS.out, rfl⟩⟩
set_option maxRecDepth 100000 in
set_option maxHeartbeats 2000000 in
theorem readI (p : Addr) (t : Int) (A : Option Addr) (l : Lab) (cap : Nat) (w : World) (hp : w.cell? p = some (.int .u16 t)) (hpb : p.block < w.heap.size) (hc : Cs w A (l.map byteV)) (hl : l.length ≤ 100000) (hcap : l.length ≤ cap) (hcap2 : cap ≤ maxLen) :
    Calls Tryz.prog 108 #[.slice A l.length cap, .func (.func 109) #[] #[.pointer (some p)]] w fun e w' =>
      Below w.heap.size w w' ∧ e = .returned (.tuple #[.int .i64 0, .int .i64 (code50 (shp t l))]) := by
  have hmf : ∀ (fn : Fn) (first cap : Array Value) (w : World), (Instr.makeFunc fn first cap).run Tryz.prog w = .ok (.func fn first cap) w := fun _ _ _ _ => rfl
  go_enter_defers Tryz.func108, Tryz.ntmps108
  go_wp2_with fail
  generalize hw3 : (((w.alloc (Obj.cells #[Value.int IntKind.i64 0] 3)).alloc (Obj.cells #[Value.int IntKind.i64 0] 52)).alloc (Obj.cells #[Value.slice A l.length cap, Value.int IntKind.i64 0] 201)) = w3
  have hb3 : Below w.heap.size w w3 := by rw [← hw3]; exact (((Below.refl _ _).alloc (Nat.le_refl _) _).alloc (by simp) _).alloc (by simp; omega) _
  have hsz3 : w3.heap.size = w.heap.size + 3 := by rw [← hw3]; simp
  have c0 : w3.cell? ⟨w.heap.size, 0, none⟩ = some (.int .i64 0) := by rw [← hw3]; simp [go_sem]
  have c1 : w3.cell? ⟨w.heap.size + 1, 0, none⟩ = some (.int .i64 0) := by rw [← hw3]; simp [go_sem]
  have f0 : w3.frozen? ⟨w.heap.size, 0, none⟩ = false := by rw [← hw3]; simp [go_sem]
  have f1 : w3.frozen? ⟨w.heap.size + 1, 0, none⟩ = false := by rw [← hw3]; simp [go_sem]
  have hR : Rdr w3 (w.heap.size + 1 + 1) A l cap 0 := by
    refine ⟨by rw [← hw3]; simp [go_sem], by rw [← hw3]; simp [go_sem], by rw [← hw3]; simp [go_sem], by omega, hc.below hb3, ?_, hl, hcap, hcap2, Nat.zero_le _⟩
    intro a ha hx
    have := hc.where ha hx
    omega
  have hp3 := (hb3.cell hpb).trans hp
  clear hw3
  refine (Check1 p t (w.heap.size + 1 + 1) A l cap w3 hp3 hR).mono ?_
  rintro e w4 ⟨hk4, hcase⟩
  have d0 := (hk4.cell (b := w.heap.size) (o := 0) (by omega) (by omega)).trans c0
  have d1 := (hk4.cell (b := w.heap.size + 1) (o := 0) (by omega) (by omega)).trans c1
  have g0 := (hk4.frozen (b := w.heap.size) (o := 0) (by omega) (by omega)).trans f0
  have g1 := (hk4.frozen (b := w.heap.size + 1) (o := 0) (by omega) (by omega)).trans f1
  have hsz4 := hk4.size
  have hb4 : Below w.heap.size w w4 := hb3.trans (hk4.below (by omega) (fun k hk => by omega))
  clear c0 c1 f0 f1 hR hp3 hk4
  have door : ∀ W : World, Below w.heap.size w W → W.cell? ⟨w.heap.size, 0, none⟩ = some (.int .i64 0) → W.cell? ⟨w.heap.size + 1, 0, none⟩ = some (.int .i64 0) → W.frozen? ⟨w.heap.size, 0, none⟩ = false → W.frozen? ⟨w.heap.size + 1, 0, none⟩ = false → w.heap.size + 3 ≤ W.heap.size →
      CallsD Tryz.prog 148 #[.pointer (some ⟨w.heap.size, 0, none⟩), .pointer (some ⟨w.heap.size + 1, 0, none⟩)] (.panicking mustP) W fun e u' w' =>
      e = .returned (.tuple #[]) ∧ u' = mustR ∧ w'.cell? ⟨w.heap.size, 0, none⟩ = some (.int .i64 0) ∧ w'.cell? ⟨w.heap.size + 1, 0, none⟩ = some (.int .i64 50) ∧ Below w.heap.size w w' := fun W hb k0 k1 j0 j1 hs =>
    (readI1_panic w.heap.size (w.heap.size + 1) _ _ W k0 k1 j0 j1 (by omega) (by omega) (by omega)).mono fun e u' w' ⟨h1, h2, h3, h4, h5⟩ => ⟨h1, h2, h3, h4, hb.trans h5⟩
  have HD := Lib.hid door
  clear door
  rcases hcase with ⟨j, rfl, hr, hs⟩ | ⟨hs, rfl⟩
  · have HS := Lib.hid hs
    have e1 := hr.c1
    have hlj := hr.le
    clear hs hr
    have n0 : ¬ w.heap.size = w.heap.size + 1 := by omega
    have n1 : ¬ w.heap.size = w.heap.size + 1 + 1 := by omega
    have n2 : ¬ w.heap.size + 1 = w.heap.size := by omega
    have n3 : ¬ w.heap.size + 1 = w.heap.size + 1 + 1 := by omega
    by_cases hj : j = l.length
    · have hjb : ((j : Int) == (l.length : Int)) = true := by simp [hj]
      have HT : Hid (shp t l = true) := Lib.hid (by rw [HS.out]; simpa using hj)
      clear hj HS
      go_wp2_with fail
      refine (must_yes _).mono ?_
      rintro e w' ⟨rfl, rfl⟩
      go_wp2_with fail
      have hk5 : Kept (fun b => b = w.heap.size) w4 (w4.setCell ⟨w.heap.size, 0, none⟩ (.int .i64 0)) := Kept.setCell (S := fun b => b = w.heap.size) (Kept.refl _ _) (p := ⟨w.heap.size, 0, none⟩) (fun _ => rfl) _
      have k0 := setc_same (v := .int .i64 0) d0
      have k1 := (hk5.cell (b := w.heap.size + 1) (o := 0) (by omega) (by omega)).trans d1
      have hs5 := hk5.size
      obtain ⟨z0, z1, hk6⟩ := two k0 k1 (by omega) (.int .i64 0) (.int .i64 0) rfl
      have hb6 := (hb4.trans (hk5.below (B := w.heap.size) (by omega) (fun k hk => by omega))).trans (hk6.below (B := w.heap.size) (by omega) (fun k hk => by omega))
      clear hk6
      generalize ((w4.setCell { block := w.heap.size, off := 0 } (Value.int IntKind.i64 0)).setCell { block := w.heap.size, off := 0 } (Value.int IntKind.i64 0)).setCell { block := w.heap.size + 1, off := 0 } (Value.int IntKind.i64 0) = w6 at *
      refine leaves_cons (f := 148) (args := #[.pointer (some ⟨w.heap.size, 0, none⟩), .pointer (some ⟨w.heap.size + 1, 0, none⟩)]) (by simp) (by simp [go_sem]) ?_
      refine (readI1_idle _ _ _).mono ?_
      rintro e u' w9 ⟨rfl, rfl, rfl⟩
      simp [Leaves, settle, results, Tryz.results108, go_sem, z0, z1]
      exact ⟨hb6, by rw [HT.out]; rfl⟩
    · have hjb : ((j : Int) == (l.length : Int)) = false := by simp; omega
      have HT : Hid (shp t l = false) := Lib.hid (by rw [HS.out]; simpa using hj)
      clear hj HS
      go_wp2_with fail
      refine (must_no _).mono ?_
      rintro e w' ⟨rfl, rfl⟩
      have hk5 : Kept (fun b => b = w.heap.size) w4 (w4.setCell ⟨w.heap.size, 0, none⟩ (.int .i64 0)) := Kept.setCell (S := fun b => b = w.heap.size) (Kept.refl _ _) (p := ⟨w.heap.size, 0, none⟩) (fun _ => rfl) _
      have hb5 := hb4.trans (hk5.below (B := w.heap.size) (by omega) (fun k hk => by omega))
      have k0 := setc_same (v := .int .i64 0) d0
      have k1 := (hk5.cell (b := w.heap.size + 1) (o := 0) (by omega) (by omega)).trans d1
      have j0 := (setc_frozen (p := ⟨w.heap.size, 0, none⟩) (v := .int .i64 0)).trans g0
      have j1 := (setc_frozen (p := ⟨w.heap.size, 0, none⟩) (v := .int .i64 0)).trans g1
      have hs5 := hk5.size
      go_wp2_with fail
      refine leaves_cons (f := 148) (args := #[.pointer (some ⟨w.heap.size, 0, none⟩), .pointer (some ⟨w.heap.size + 1, 0, none⟩)]) (by simp) (by simp [go_sem]) ?_
      refine (HD.out _ hb5 k0 k1 j0 j1 (by omega)).mono ?_
      rintro e u' w5 ⟨rfl, rfl, z0, z1, hb6⟩
      simp [Leaves, settle, mustR, results, Tryz.results108, go_sem, z0, z1]
      exact ⟨hb6, by rw [HT.out]; rfl⟩
  · have HS := Lib.hid hs
    clear hs
    go_wp2_with fail
    refine leaves_cons (f := 148) (args := #[.pointer (some ⟨w.heap.size, 0, none⟩), .pointer (some ⟨w.heap.size + 1, 0, none⟩)]) (by simp) (by simp [go_sem]) ?_
    refine (HD.out w4 hb4 d0 d1 g0 g1 (by omega)).mono ?_
    rintro e u' w5 ⟨rfl, rfl, z0, z1, hb5⟩
    simp [Leaves, settle, mustR, results, Tryz.results108, go_sem, z0, z1]
    exact ⟨hb5, by rw [HS.out]; rfl⟩
set_option maxRecDepth 100000 in
set_option maxHeartbeats 2000000 in
/-- rdata.Check at types whose shape alone is asked -/
theorem CheckS (t : Int) (A : Option Addr) (l : Lab) (cap : Nat) (w : World) (h1 : t ≠ 6) (h2 : t ≠ 46) (h3 : t ≠ 48) (h4 : t ≠ 50) (hc : Cs w A (l.map byteV)) (hl : l.length ≤ 100000) (hcap : l.length ≤ cap) (hcap2 : cap ≤ maxLen) :
    Calls Tryz.prog 67 #[.int .u16 t, .slice A l.length cap] w fun e w' => Below w.heap.size w w' ∧ e = .returned (.int .i64 (code50 (chk t l))) := by
  have HC := Lib.hid (chk_shp h1 h2 h3 l)
  have b1 : (t == 6) = false := by simpa using h1
  have b2 : (t == 46) = false := by simpa using h2
  have b3 : (t == 48) = false := by simpa using h3
  have b4 : (t == 50) = false := by simpa using h4
  have hmf : ∀ (fn : Fn) (first cap : Array Value) (w : World), (Instr.makeFunc fn first cap).run Tryz.prog w = .ok (.func fn first cap) w := fun _ _ _ _ => rfl
  have hb1 : Below w.heap.size w (w.alloc (.cells #[.int .u16 t] 24)) := (Below.refl _ _).alloc (Nat.le_refl _) _
  clear h1 h2 h3 h4
  by_cases h8 : 8192 < l.length
  · have HE : Hid (chk t l = false) := Lib.hid (by rw [HC.out]; simp; omega)
    go_enter Tryz.func67, Tryz.ntmps67
    go_wp2_with fail
    go_ret
    exact ⟨hb1, by rw [HE.out]; rfl⟩
  · have HE : Hid (chk t l = shp t l) := Lib.hid (by rw [HC.out]; simp; omega)
    have hr := readI ⟨w.heap.size, 0, none⟩ t A l cap (w.alloc (.cells #[.int .u16 t] 24)) (by simp [go_sem]) (by simp) (hc.below hb1) hl hcap hcap2
    have HR := Lib.hid hr
    clear hr hc
    go_enter Tryz.func67, Tryz.ntmps67
    go_wp2_with fail
    refine HR.out.mono ?_
    rintro e w2 ⟨hb2, rfl⟩
    go_wp2_with fail
    go_ret
    exact ⟨hb1.trans (hb2.mono (by simp)), by rw [HE.out]; rfl⟩
end Nm
end Go.Proofs.YtkeimgamjnpcbaaGreat
