/-
  Contracts of package rdata: Target.
-/
import Derived.Test.YtkeimgamjnpcbaaGreatRead
import Derived.Test.YtkeimgamjnpcbaaGreatSame
namespace Go.Proofs.YtkeimgamjnpcbaaGreat
open Go.RowKit
set_option linter.unusedVariables false
namespace Nm
set_option maxRecDepth 100000 in
set_option maxHeartbeats 1000000 in
theorem readN1_panic (a b : Nat) (x0 x1 : Value) (w : World) (h0 : w.cell? ⟨a, 0, none⟩ = some x0) (h1 : w.cell? ⟨b, 0, none⟩ = some x1)
    (f0 : w.frozen? ⟨a, 0, none⟩ = false) (f1 : w.frozen? ⟨b, 0, none⟩ = false) (l0 : a < w.heap.size) (l1 : b < w.heap.size) (hab : a < b) :
    CallsD Tryz.prog 209 #[.pointer (some ⟨a, 0, none⟩), .pointer (some ⟨b, 0, none⟩)] (.panicking mustP) w fun e u' w' =>
      e = .returned (.tuple #[]) ∧ u' = mustR ∧ w'.cell? ⟨a, 0, none⟩ = some (.slice none 0 0) ∧ w'.cell? ⟨b, 0, none⟩ = some (.int .i64 50) ∧ Below a w w' := by
  have hta := asserted_must
  refine callsD_of_wpS Tryz.func209 rfl fun c₀ cs hu => ?_
  apply wpS_seq
  apply wpS_region
  simp [wpOpsS, go_sem, recoverD, mustP, hu, Tryz.ntmps209, Exit.thenS]
  refine wpS_of_wp ?_
  simp only [Array.replicate_succ, Array.replicate_zero, List.push_toArray, List.append_toArray, List.nil_append, List.cons_append, List.setIfInBounds_toArray, List.set_cons_succ, List.set_cons_zero]
  have n0 : ¬ a = w.heap.size := by omega
  have n1 : ¬ b = w.heap.size := by omega
  have m0 : ¬ w.heap.size = a := by omega
  have m1 : ¬ w.heap.size = b := by omega
  have d0 : ¬ a = b := by omega
  have d1 : ¬ b = a := by omega
  go_wp2_with fail
  obtain ⟨z0, z1, hk⟩ := two h0 h1 hab (.slice none 0 0) (.int .i64 50) rfl
  exact ⟨rfl, _, rfl, _, results_none rfl _ _ _, rfl, rfl, alloc_cell _ z0, alloc_cell _ z1, (hk.below (B := a) (by omega) (fun k hk => by omega)).alloc (by have := hk.size; omega) _⟩
theorem readN1_idle (a b : Addr) (w : World) : CallsD Tryz.prog 209 #[.pointer (some a), .pointer (some b)] .returning w fun e u' w' => e = .returned (.tuple #[]) ∧ u' = .returning ∧ w' = w := by
  refine callsD_of_wpS Tryz.func209 rfl fun c₀ cs hu => ?_
  apply wpS_seq
  apply wpS_region
  simp [wpOpsS, go_sem, recoverD, hu, Tryz.ntmps209, Exit.thenS]
  refine wpS_of_wp ?_
  simp only [Array.replicate_succ, Array.replicate_zero, List.push_toArray, List.append_toArray, List.nil_append, List.cons_append, List.setIfInBounds_toArray, List.set_cons_succ, List.set_cons_zero]
  go_wp2_with fail
  exact ⟨rfl, .returning, by cases c₀; simp_all, _, results_none rfl _ _ _, rfl, rfl, rfl⟩
/-- how many bytes stand ahead of a name -/
def ahd (t : Int) : Nat := if t = 15 then 2 else 0
theorem ahead (t : Int) (w : World) : Calls Tryz.prog 130 #[.int .u16 t] w fun e w' => e = .returned (.int .i64 (ahd t)) ∧ w = w' := by
  unfold ahd
  by_cases h : t = 15
  · subst h
    go_enter Tryz.func130, Tryz.ntmps130
    go_wp2_with fail
    go_ret
    exact ⟨rfl, rfl⟩
  · have hb : (t == 15) = false := by simpa using h
    go_enter Tryz.func130, Tryz.ntmps130
    go_wp2_with fail
    go_ret
    exact ⟨rfl, rfl⟩
def isN (t : Int) : Prop := t = 2 ∨ t = 5 ∨ t = 15
theorem shp_name {t : Int} (ht : isN t) (l : Lab) : shp t l = (decide (ahd t ≤ l.length) && wholeB (l.drop (ahd t))) := by
  rcases ht with rfl | rfl | rfl
  · rfl
  · rfl
  · rfl
set_option maxRecDepth 100000 in
set_option maxHeartbeats 2000000 in
theorem Target1 (p : Addr) (t : Int) (ht : isN t) (r : Nat) (A : Option Addr) (l : Lab) (cap : Nat) (w : World) (hp : w.cell? p = some (.int .u16 t)) (h : Rdr w r A l cap 0) (hpr : p.block ≠ r) (hpw : p.block < w.heap.size) (hps : p.spot = none) :
    Calls Tryz.prog 174 #[.pointer (some ⟨r, 0, none⟩), .pointer (some p)] w fun e w' =>
      Kept (fun b => b = r) w w' ∧ ((∃ j v, e = .returned v ∧ Rdr w' r A l cap j ∧ shp t l = decide (j = l.length) ∧ w'.ownsRow w.heap.size 9 1 v (openN (l.drop (ahd t))).length ((openN (l.drop (ahd t))).map strV)) ∨ (shp t l = false ∧ e = .panicked mustP)) := by
  have HS := Lib.hid (shp_name ht l)
  have hah : ahd t ≤ 2 := by unfold ahd; split <;> omega
  have hat := ahead t w
  generalize ahd t = a at *
  clear ht
  go_enter Tryz.func174, Tryz.ntmps174
  go_wp2_with fail
  refine hat.mono ?_
  rintro e w' ⟨rfl, rfl⟩
  go_wp2_with fail
  by_cases ha : 0 + a ≤ l.length
  · refine (take_yes r A l cap 0 a w h ha).mono ?_
    rintro e w1 ⟨rfl, hr1, hk1⟩
    rw [Nat.zero_add] at hr1
    have hc := name r A l cap a w1 hr1
    have hd : (l.drop a).length = l.length - a := List.length_drop
    have HD := Lib.hid hd
    clear hd
    go_wp2_with fail
    refine hc.mono ?_
    rintro e w2 ⟨hk2, ⟨n, j, v, ho, rfl, hr2, hown⟩ | ⟨ho, rfl⟩⟩
    · have HO := Lib.hid ho
      clear ho
      go_wp2_with fail
      go_ret
      refine ⟨hk1.trans hk2, .inl ⟨_, _, rfl, hr2, ?_, ?_⟩⟩
      · rw [HS.out, wholeB_some HO.out, HD.out, Bool.eq_iff_iff]
        simp
        omega
      · rw [(openO_some HO.out).2.2.2.1]
        exact own_base hown hk1.size
    · have HO := Lib.hid ho
      clear ho
      go_wp2_with fail
      exact ⟨rfl, hk1.trans hk2, .inr ⟨by rw [HS.out, wholeB_none HO.out]; simp, rfl⟩⟩
  · refine (take_no r A l cap 0 a w h ha (by omega)).mono ?_
    rintro e w1 ⟨rfl, hk1⟩
    go_wp2_with fail
    exact ⟨rfl, hk1, .inr ⟨by rw [HS.out]; simp; omega, rfl⟩⟩
/-- the name that data of some types ends with -/
def tgt (t : Int) (l : Lab) : List Lab := if shp t l then openN (l.drop (ahd t)) else []
set_option maxRecDepth 100000 in
set_option maxHeartbeats 2000000 in
theorem readN (p : Addr) (t : Int) (ht : isN t) (A : Option Addr) (l : Lab) (cap : Nat) (w : World) (hp : w.cell? p = some (.int .u16 t)) (hpb : p.block < w.heap.size) (hps : p.spot = none) (hc : Cs w A (l.map byteV)) (hl : l.length ≤ 100000) (hcap : l.length ≤ cap) (hcap2 : cap ≤ maxLen) :
    Calls Tryz.prog 173 #[.slice A l.length cap, .func (.func 174) #[] #[.pointer (some p)]] w fun e w' =>
      Below w.heap.size w w' ∧ ∃ v, e = .returned (.tuple #[v, .int .i64 (code50 (shp t l))]) ∧ w'.ownsRow w.heap.size 9 1 v (tgt t l).length ((tgt t l).map strV) := by
  have hmf : ∀ (fn : Fn) (first cap : Array Value) (w : World), (Instr.makeFunc fn first cap).run Tryz.prog w = .ok (.func fn first cap) w := fun _ _ _ _ => rfl
  go_enter_defers Tryz.func173, Tryz.ntmps173
  go_wp2_with fail
  generalize hw3 : (((w.alloc (Obj.cells #[Value.slice none 0 0] 23)).alloc (Obj.cells #[Value.int IntKind.i64 0] 52)).alloc (Obj.cells #[Value.slice A l.length cap, Value.int IntKind.i64 0] 201)) = w3
  have hb3 : Below w.heap.size w w3 := by rw [← hw3]; exact (((Below.refl _ _).alloc (Nat.le_refl _) _).alloc (by simp) _).alloc (by simp; omega) _
  have hsz3 : w3.heap.size = w.heap.size + 3 := by rw [← hw3]; simp
  have c0 : w3.cell? ⟨w.heap.size, 0, none⟩ = some (.slice none 0 0) := by rw [← hw3]; simp [go_sem]
  have c1 : w3.cell? ⟨w.heap.size + 1, 0, none⟩ = some (.int .i64 0) := by rw [← hw3]; simp [go_sem]
  have f0 : w3.frozen? ⟨w.heap.size, 0, none⟩ = false := by rw [← hw3]; simp [go_sem]
  have f1 : w3.frozen? ⟨w.heap.size + 1, 0, none⟩ = false := by rw [← hw3]; simp [go_sem]
  have hR : Rdr w3 (w.heap.size + 1 + 1) A l cap 0 := by
    refine ⟨by rw [← hw3]; simp [go_sem], by rw [← hw3]; simp [go_sem], by rw [← hw3]; simp [go_sem], by omega, hc.below hb3, ?_, hl, hcap, hcap2, Nat.zero_le _⟩
    intro a ha hx
    have := hc.where ha hx
    omega
  have hp3 := (hb3.cell hpb).trans hp
  clear hw3
  refine (Target1 p t ht (w.heap.size + 1 + 1) A l cap w3 hp3 hR (by omega) (by omega) hps).mono ?_
  rintro e w4 ⟨hk4, hcase⟩
  have d0 := (hk4.cell (b := w.heap.size) (o := 0) (by omega) (by omega)).trans c0
  have d1 := (hk4.cell (b := w.heap.size + 1) (o := 0) (by omega) (by omega)).trans c1
  have g0 := (hk4.frozen (b := w.heap.size) (o := 0) (by omega) (by omega)).trans f0
  have g1 := (hk4.frozen (b := w.heap.size + 1) (o := 0) (by omega) (by omega)).trans f1
  have hsz4 := hk4.size
  have hb4 : Below w.heap.size w w4 := hb3.trans (hk4.below (by omega) (fun k hk => by omega))
  clear c0 c1 f0 f1 hR hp3 hk4
  have door : ∀ W : World, Below w.heap.size w W → (∃ x, W.cell? ⟨w.heap.size, 0, none⟩ = some x) → W.cell? ⟨w.heap.size + 1, 0, none⟩ = some (.int .i64 0) → W.frozen? ⟨w.heap.size, 0, none⟩ = false → W.frozen? ⟨w.heap.size + 1, 0, none⟩ = false → w.heap.size + 3 ≤ W.heap.size →
      CallsD Tryz.prog 209 #[.pointer (some ⟨w.heap.size, 0, none⟩), .pointer (some ⟨w.heap.size + 1, 0, none⟩)] (.panicking mustP) W fun e u' w' =>
      e = .returned (.tuple #[]) ∧ u' = mustR ∧ w'.cell? ⟨w.heap.size, 0, none⟩ = some (.slice none 0 0) ∧ w'.cell? ⟨w.heap.size + 1, 0, none⟩ = some (.int .i64 50) ∧ Below w.heap.size w w' := fun W hb ⟨x, k0⟩ k1 j0 j1 hs =>
    (readN1_panic w.heap.size (w.heap.size + 1) _ _ W k0 k1 j0 j1 (by omega) (by omega) (by omega)).mono fun e u' w' ⟨h1, h2, h3, h4, h5⟩ => ⟨h1, h2, h3, h4, hb.trans h5⟩
  have HD := Lib.hid door
  clear door
  rcases hcase with ⟨j, v, rfl, hr, hs, hown⟩ | ⟨hs, rfl⟩
  · obtain ⟨A5, c5, rfl, _, _⟩ := Cs.of_own hown
    have HS := Lib.hid hs
    have e1 := hr.c1
    have hlj := hr.le
    clear hs hr
    have n0 : ¬ w.heap.size = w.heap.size + 1 := by omega
    have n1 : ¬ w.heap.size = w.heap.size + 1 + 1 := by omega
    have n2 : ¬ w.heap.size + 1 = w.heap.size := by omega
    have n3 : ¬ w.heap.size + 1 = w.heap.size + 1 + 1 := by omega
    by_cases hj : j = l.length
    · have hjb : ((j : Int) == (l.length : Int)) = true := by simp [hj]
      have HT : Hid (shp t l = true) := Lib.hid (by rw [HS.out]; simpa using hj)
      clear hj HS
      go_wp2_with fail
      refine (must_yes _).mono ?_
      rintro e w' ⟨rfl, rfl⟩
      go_wp2_with fail
      have hk5 : Kept (fun b => b = w.heap.size) w4 (w4.setCell ⟨w.heap.size, 0, none⟩ (Value.slice A5 (openN (l.drop (ahd t))).length c5)) := Kept.setCell (S := fun b => b = w.heap.size) (Kept.refl _ _) (p := ⟨w.heap.size, 0, none⟩) (fun _ => rfl) _
      have k0 := setc_same (v := (Value.slice A5 (openN (l.drop (ahd t))).length c5)) d0
      have k1 := (hk5.cell (b := w.heap.size + 1) (o := 0) (by omega) (by omega)).trans d1
      have hs5 := hk5.size
      obtain ⟨z0, z1, hk6⟩ := two k0 k1 (by omega) (Value.slice A5 (openN (l.drop (ahd t))).length c5) (.int .i64 0) rfl
      have hb6 := (hb4.trans (hk5.below (B := w.heap.size) (by omega) (fun k hk => by omega))).trans (hk6.below (B := w.heap.size) (by omega) (fun k hk => by omega))
      have hown6 := Kept.row (Kept.row hown hk5 (fun k hk => by have := (hown.lt k hk).1; omega)) hk6 (fun k hk => by have := (hown.lt k hk).1; omega)
      clear hk6
      generalize ((w4.setCell { block := w.heap.size, off := 0 } (Value.slice A5 (openN (l.drop (ahd t))).length c5)).setCell { block := w.heap.size, off := 0 } (Value.slice A5 (openN (l.drop (ahd t))).length c5)).setCell { block := w.heap.size + 1, off := 0 } (Value.int IntKind.i64 0) = w6 at *
      refine leaves_cons (f := 209) (args := #[.pointer (some ⟨w.heap.size, 0, none⟩), .pointer (some ⟨w.heap.size + 1, 0, none⟩)]) (by simp) (by simp [go_sem]) ?_
      refine (readN1_idle _ _ _).mono ?_
      rintro e u' w9 ⟨rfl, rfl, rfl⟩
      simp [Leaves, settle, results, Tryz.results173, go_sem, z0, z1]
      have HTg : tgt t l = openN (l.drop (ahd t)) := by unfold tgt; rw [HT.out]; rfl
      exact ⟨hb6, _, ⟨rfl, by rw [HT.out]; rfl⟩, by rw [HTg]; exact own_base hown6 (by omega)⟩
    · have hjb : ((j : Int) == (l.length : Int)) = false := by simp; omega
      have HT : Hid (shp t l = false) := Lib.hid (by rw [HS.out]; simpa using hj)
      clear hj HS
      go_wp2_with fail
      refine (must_no _).mono ?_
      rintro e w' ⟨rfl, rfl⟩
      have hk5 : Kept (fun b => b = w.heap.size) w4 (w4.setCell ⟨w.heap.size, 0, none⟩ (Value.slice A5 (openN (l.drop (ahd t))).length c5)) := Kept.setCell (S := fun b => b = w.heap.size) (Kept.refl _ _) (p := ⟨w.heap.size, 0, none⟩) (fun _ => rfl) _
      have hb5 := hb4.trans (hk5.below (B := w.heap.size) (by omega) (fun k hk => by omega))
      have k0 := setc_same (v := (Value.slice A5 (openN (l.drop (ahd t))).length c5)) d0
      have k1 := (hk5.cell (b := w.heap.size + 1) (o := 0) (by omega) (by omega)).trans d1
      have j0 := (setc_frozen (p := ⟨w.heap.size, 0, none⟩) (v := (Value.slice A5 (openN (l.drop (ahd t))).length c5))).trans g0
      have j1 := (setc_frozen (p := ⟨w.heap.size, 0, none⟩) (v := (Value.slice A5 (openN (l.drop (ahd t))).length c5))).trans g1
      have hs5 := hk5.size
      go_wp2_with fail
      refine leaves_cons (f := 209) (args := #[.pointer (some ⟨w.heap.size, 0, none⟩), .pointer (some ⟨w.heap.size + 1, 0, none⟩)]) (by simp) (by simp [go_sem]) ?_
      refine (HD.out _ hb5 ⟨_, k0⟩ k1 j0 j1 (by omega)).mono ?_
      rintro e u' w5 ⟨rfl, rfl, z0, z1, hb6⟩
      simp [Leaves, settle, mustR, results, Tryz.results173, go_sem, z0, z1]
      have HTg : tgt t l = [] := by unfold tgt; rw [HT.out]; rfl
      exact ⟨hb6, _, ⟨rfl, by rw [HT.out]; rfl⟩, by rw [HTg]; exact World.ownsRow_nil _ _ _ _⟩
  · have HS := Lib.hid hs
    clear hs
    go_wp2_with fail
    refine leaves_cons (f := 209) (args := #[.pointer (some ⟨w.heap.size, 0, none⟩), .pointer (some ⟨w.heap.size + 1, 0, none⟩)]) (by simp) (by simp [go_sem]) ?_
    refine (HD.out w4 hb4 ⟨_, d0⟩ d1 g0 g1 (by omega)).mono ?_
    rintro e u' w5 ⟨rfl, rfl, z0, z1, hb5⟩
    simp [Leaves, settle, mustR, results, Tryz.results173, go_sem, z0, z1]
    have HTg : tgt t l = [] := by unfold tgt; rw [HS.out]; rfl
    exact ⟨hb5, _, ⟨rfl, by rw [HS.out]; rfl⟩, by rw [HTg]; exact World.ownsRow_nil _ _ _ _⟩
end Nm
end Go.Proofs.YtkeimgamjnpcbaaGreat
