/-
  Contracts of package name: what catches, Open.
-/
import Derived.Test.YtkeimgamjnpcbaaGreatOpen
import Derived.Test.YtkeimgamjnpcbaaGreatKept
namespace Go.Proofs.YtkeimgamjnpcbaaGreat
open Go.RowKit
set_option linter.unusedVariables false
namespace Nm
theorem three {w : World} {a b c : Nat} {x0 x1 x2 : Value} (h0 : w.cell? ⟨a, 0, none⟩ = some x0) (h1 : w.cell? ⟨b, 0, none⟩ = some x1) (h2 : w.cell? ⟨c, 0, none⟩ = some x2) (hab : a < b) (hbc : b < c) (v0 v1 v2 : Value) (o : Obj) {w' : World}
    (hw : w' = ((((w.setCell ⟨a, 0, none⟩ v0).setCell ⟨b, 0, none⟩ v1).setCell ⟨c, 0, none⟩ v2).alloc o).drew) :
    w'.cell? ⟨a, 0, none⟩ = some v0 ∧ w'.cell? ⟨b, 0, none⟩ = some v1 ∧ w'.cell? ⟨c, 0, none⟩ = some v2 ∧ (a ≤ w.heap.size → Below a w w') := by
  have a1 := setc_same (v := v0) h0
  have b1 := (setc_far (o := 0) (v := v0) (show a ≠ b by omega)).trans h1
  have c1 := (setc_far (o := 0) (v := v0) (show a ≠ c by omega)).trans h2
  have a2 := (setc_far (o := 0) (v := v1) (show b ≠ a by omega)).trans a1
  have b2 := setc_same (v := v1) b1
  have c2 := (setc_far (o := 0) (v := v1) (show b ≠ c by omega)).trans c1
  have a3 := (setc_far (o := 0) (v := v2) (show c ≠ a by omega)).trans a2
  have b3 := (setc_far (o := 0) (v := v2) (show c ≠ b by omega)).trans b2
  have c3 := setc_same (v := v2) c2
  subst hw
  exact ⟨alloc_cell o a3, alloc_cell o b3, alloc_cell o c3, fun hs => (((((Below.refl _ _).setCell (p := ⟨a, 0, none⟩) (Nat.le_refl _) _).setCell (p := ⟨b, 0, none⟩) (show a ≤ b by omega) _).setCell (p := ⟨c, 0, none⟩) (show a ≤ c by omega) _).alloc (by simp [World.setCell]; omega) o).drew⟩
theorem three_d {w : World} {a b c : Nat} {x0 x1 x2 : Value} (h0 : w.cell? ⟨a, 0, none⟩ = some x0) (h1 : w.cell? ⟨b, 0, none⟩ = some x1) (h2 : w.cell? ⟨c, 0, none⟩ = some x2) (hab : a < b) (hbc : b < c) (v0 v1 v2 : Value) {w' : World}
    (hw : w' = (((w.setCell ⟨a, 0, none⟩ v0).setCell ⟨b, 0, none⟩ v1).setCell ⟨c, 0, none⟩ v2).drew) :
    w'.cell? ⟨a, 0, none⟩ = some v0 ∧ w'.cell? ⟨b, 0, none⟩ = some v1 ∧ w'.cell? ⟨c, 0, none⟩ = some v2 ∧ Kept (fun k => a ≤ k ∧ k ≤ c) w w' := by
  have a1 := setc_same (v := v0) h0
  have b1 := (setc_far (o := 0) (v := v0) (show a ≠ b by omega)).trans h1
  have c1 := (setc_far (o := 0) (v := v0) (show a ≠ c by omega)).trans h2
  have a2 := (setc_far (o := 0) (v := v1) (show b ≠ a by omega)).trans a1
  have b2 := setc_same (v := v1) b1
  have c2 := (setc_far (o := 0) (v := v1) (show b ≠ c by omega)).trans c1
  have a3 := (setc_far (o := 0) (v := v2) (show c ≠ a by omega)).trans a2
  have b3 := (setc_far (o := 0) (v := v2) (show c ≠ b by omega)).trans b2
  have c3 := setc_same (v := v2) c2
  subst hw
  exact ⟨a3, b3, c3, ((((Kept.refl _ _).setCell (p := ⟨a, 0, none⟩) (fun _ => (show a ≤ a ∧ a ≤ c by omega)) _).setCell (p := ⟨b, 0, none⟩) (fun _ => (show a ≤ b ∧ b ≤ c by omega)) _).setCell (p := ⟨c, 0, none⟩) (fun _ => (show a ≤ c ∧ c ≤ c by omega)) _).drew⟩
theorem asserted_fail (er : Int) (W : World) : (Instr.typeAssert (.iface 267 (.agg #[.int .i64 er])) 20 267 true).run Tryz.prog W = .ok (.tuple #[.agg #[.int .i64 er], .bool true]) W := by kernel_rfl
set_option maxRecDepth 100000 in
set_option maxHeartbeats 1000000 in
theorem caught1_panic (a b c : Nat) (x0 x1 x2 : Value) (er : Int) (w : World) (h0 : w.cell? ⟨a, 0, none⟩ = some x0) (h1 : w.cell? ⟨b, 0, none⟩ = some x1) (h2 : w.cell? ⟨c, 0, none⟩ = some x2)
    (f0 : w.frozen? ⟨a, 0, none⟩ = false) (f1 : w.frozen? ⟨b, 0, none⟩ = false) (f2 : w.frozen? ⟨c, 0, none⟩ = false) (l0 : a < w.heap.size) (l1 : b < w.heap.size) (l2 : c < w.heap.size) (hab : a < b) (hbc : b < c) :
    CallsD Tryz.prog 223 #[.pointer (some ⟨a, 0, none⟩), .pointer (some ⟨b, 0, none⟩), .pointer (some ⟨c, 0, none⟩)] (.panicking (failP er)) w fun e u' w' =>
      e = .returned (.tuple #[]) ∧ u' = .panicking [{ v := .iface 267 (.agg #[.int .i64 er]), recovered := true }] ∧
      w'.cell? ⟨a, 0, none⟩ = some (.slice none 0 0) ∧ w'.cell? ⟨b, 0, none⟩ = some (.int .i64 0) ∧ w'.cell? ⟨c, 0, none⟩ = some (.int .i64 er) ∧ Below a w w' := by
  have hta := asserted_fail er
  refine callsD_of_wpS Tryz.func223 rfl fun c₀ cs hu => ?_
  apply wpS_seq
  apply wpS_region
  simp [wpOpsS, go_sem, recoverD, failP, hu, Tryz.ntmps223, Exit.thenS]
  refine wpS_of_wp ?_
  simp only [Array.replicate_succ, Array.replicate_zero, List.push_toArray, List.append_toArray, List.nil_append, List.cons_append, List.setIfInBounds_toArray, List.set_cons_succ, List.set_cons_zero]
  have n0 : ¬ a = w.heap.size := by omega
  have n1 : ¬ b = w.heap.size := by omega
  have n2 : ¬ c = w.heap.size := by omega
  have m0 : ¬ w.heap.size = a := by omega
  have m1 : ¬ w.heap.size = b := by omega
  have m2 : ¬ w.heap.size = c := by omega
  have d0 : ¬ a = b := by omega
  have d1 : ¬ b = a := by omega
  have d2 : ¬ a = c := by omega
  have d3 : ¬ c = a := by omega
  have d4 : ¬ b = c := by omega
  have d5 : ¬ c = b := by omega
  go_wp2_with fail
  go_region
  obtain ⟨z0, z1, z2, z3⟩ := three h0 h1 h2 hab hbc (.slice none 0 0) (.int .i64 0) (.int .i64 er) (.cells #[.int .i64 er] 267) rfl
  exact ⟨rfl, _, rfl, _, results_none rfl _ _ _, rfl, rfl, z0, z1, z2, z3 (by omega)⟩
theorem caught1_idle (a b c : Addr) (w : World) : CallsD Tryz.prog 223 #[.pointer (some a), .pointer (some b), .pointer (some c)] .returning w fun e u' w' => e = .returned (.tuple #[]) ∧ u' = .returning ∧ w' = w := by
  refine callsD_of_wpS Tryz.func223 rfl fun c₀ cs hu => ?_
  apply wpS_seq
  apply wpS_region
  simp [wpOpsS, go_sem, recoverD, hu, Tryz.ntmps223, Exit.thenS]
  refine wpS_of_wp ?_
  simp only [Array.replicate_succ, Array.replicate_zero, List.push_toArray, List.append_toArray, List.nil_append, List.cons_append, List.setIfInBounds_toArray, List.set_cons_succ, List.set_cons_zero]
  go_wp2_with fail
  exact ⟨rfl, .returning, by cases c₀; simp_all, _, results_none rfl _ _ _, rfl, rfl, rfl⟩
set_option maxRecDepth 100000 in
set_option maxHeartbeats 1000000 in
theorem caughtO (p : Addr) (A : Option Addr) (b : Lab) (cap : Nat) (w : World) (hp : w.cell? p = some (.slice A b.length cap)) (hpb : p.block < w.heap.size) (hc : Cs w A (b.map byteV)) (hb : b.length ≤ 100000) (hcap : b.length ≤ cap) (hcap2 : cap ≤ maxLen) :
    Calls Tryz.prog 213 #[.func (.func 214) #[] #[.pointer (some p)]] w fun e w' => Below w.heap.size w w' ∧
      ∃ v, e = .returned (.tuple #[v, .int .i64 (openK b), .int .i64 (openE b)]) ∧ w'.ownsRow w.heap.size 9 1 v (openN b).length ((openN b).map strV) := by
  have hmf : ∀ (fn : Fn) (first cap : Array Value) (w : World), (Instr.makeFunc fn first cap).run Tryz.prog w = .ok (.func fn first cap) w := fun _ _ _ _ => rfl
  go_enter_defers Tryz.func213, Tryz.ntmps213
  go_wp2_with fail
  generalize hw3 : ((w.alloc (Obj.cells #[Value.slice none 0 0] 23)).alloc (Obj.cells #[Value.int IntKind.i64 0] 3)).alloc (Obj.cells #[Value.int IntKind.i64 0] 52) = w3
  have hb3 : Below w.heap.size w w3 := by rw [← hw3]; exact (((Below.refl _ _).alloc (Nat.le_refl _) _).alloc (by simp) _).alloc (by simp; omega) _
  have hsz3 : w3.heap.size = w.heap.size + 3 := by rw [← hw3]; simp
  have c0 : w3.cell? ⟨w.heap.size, 0, none⟩ = some (.slice none 0 0) := by rw [← hw3]; simp [go_sem]
  have c1 : w3.cell? ⟨w.heap.size + 1, 0, none⟩ = some (.int .i64 0) := by rw [← hw3]; simp [go_sem]
  have c2 : w3.cell? ⟨w.heap.size + 1 + 1, 0, none⟩ = some (.int .i64 0) := by rw [← hw3]; simp [go_sem]
  have f0 : w3.frozen? ⟨w.heap.size, 0, none⟩ = false := by rw [← hw3]; simp [go_sem]
  have f1 : w3.frozen? ⟨w.heap.size + 1, 0, none⟩ = false := by rw [← hw3]; simp [go_sem]
  have f2 : w3.frozen? ⟨w.heap.size + 1 + 1, 0, none⟩ = false := by rw [← hw3]; simp [go_sem]
  clear hw3
  refine (Open1 p A b cap w3 ((hb3.cell hpb).trans hp) (by omega) (hc.below hb3) (by omega) hcap hcap2).mono ?_
  rintro e w4 ⟨hb4, hcase⟩
  have d0 := (bcl hb4 (by omega)).trans c0
  have d1 := (bcl hb4 (by omega)).trans c1
  have d2 := (bcl hb4 (by omega)).trans c2
  have g0 := (bfr hb4 (by omega)).trans f0
  have g1 := (bfr hb4 (by omega)).trans f1
  have g2 := (bfr hb4 (by omega)).trans f2
  have hsz4 := hb4.size
  have hb5 : Below w.heap.size w w4 := hb3.trans (hb4.mono (by omega))
  clear c0 c1 c2 f0 f1 f2
  rcases hcase with ⟨n, k, v, hpar, rfl, hown⟩ | ⟨hpar, rfl⟩
  · have HP := Lib.hid hpar
    have HN := Lib.hid (nameE_parse hpar)
    obtain ⟨q1, q2, q3, q4⟩ := parse_some b.length b (Nat.le_refl _) hpar
    have hfew : Few n := ⟨by omega, fun l hl => by have := (q3 l hl).2; omega⟩
    clear hpar q2 q3
    obtain ⟨A5, c5, rfl, _, hcs5⟩ := Cs.of_own hown
    have m0 : ¬ w.heap.size = w.heap.size + 1 := by omega
    go_wp2_with fail
    generalize hw6 : (w4.setCell { block := w.heap.size, off := 0 } (Value.slice A5 n.length c5)).setCell { block := w.heap.size + 1, off := 0 } (Value.int IntKind.i64 ↑k) = w6
    have hb6 : Below w.heap.size w4 w6 := by rw [← hw6]; exact ((Below.refl _ _).setCell (p := ⟨w.heap.size, 0, none⟩) (Nat.le_refl _) _).setCell (p := ⟨w.heap.size + 1, 0, none⟩) (Nat.le_succ _) _
    have hk6 : Kept (fun k => k < w3.heap.size) w4 w6 := by rw [← hw6]; exact ((Kept.refl _ _).setCell (p := ⟨w.heap.size, 0, none⟩) (fun _ => (show w.heap.size < w3.heap.size by omega)) _).setCell (p := ⟨w.heap.size + 1, 0, none⟩) (fun _ => (show w.heap.size + 1 < w3.heap.size by omega)) _
    have e0 : w6.cell? ⟨w.heap.size, 0, none⟩ = some (.slice A5 n.length c5) := by rw [← hw6]; simp [go_sem, d0, d1]
    have e1 : w6.cell? ⟨w.heap.size + 1, 0, none⟩ = some (.int .i64 k) := by rw [← hw6]; simp [go_sem, d0, d1]
    have e2 : w6.cell? ⟨w.heap.size + 1 + 1, 0, none⟩ = some (.int .i64 0) := by rw [← hw6]; simp [go_sem, d0, d1, d2]
    have k0 : w6.frozen? ⟨w.heap.size, 0, none⟩ = false := by rw [← hw6]; simp [go_sem, g0]
    have k1 : w6.frozen? ⟨w.heap.size + 1, 0, none⟩ = false := by rw [← hw6]; simp [go_sem, g1]
    have k2 : w6.frozen? ⟨w.heap.size + 1 + 1, 0, none⟩ = false := by rw [← hw6]; simp [go_sem, g2]
    have hown6 : w6.ownsRow w3.heap.size 9 1 (.slice A5 n.length c5) n.length (n.map strV) := Kept.row hown hk6 (fun k hk => by have := (hown.lt k hk).1; omega)
    obtain ⟨_, _, hx1, _, hcs6⟩ := Cs.of_own hown6
    cases hx1
    have hb7 := hb5.trans hb6
    have hs6 := hk6.size
    clear hw6 hcs5 d0 d1 d2 g0 g1 g2 hk6
    refine (Check A5 n c5 w6 hcs6 hfew).mono ?_
    rintro e w' ⟨rfl, rfl⟩
    have n0 : ¬ w.heap.size + 1 = w.heap.size := by omega
    have n1 : ¬ w.heap.size + 1 + 1 = w.heap.size := by omega
    have n2 : ¬ w.heap.size = w.heap.size + 1 + 1 := by omega
    have n3 : ¬ w.heap.size + 1 + 1 = w.heap.size + 1 := by omega
    have n4 : ¬ w.heap.size + 1 = w.heap.size + 1 + 1 := by omega
    by_cases h5 : 255 < k
    · have e31 : nameE n = 31 := by rw [HN.out, if_pos h5]
      have H1 : Hid (openK b = 0 ∧ openE b = 31 ∧ openN b = []) := Lib.hid (by unfold openK openE openN; rw [HP.out]; simp [h5])
      rw [e31]
      clear e31 HN HP
      go_wp2_with fail
      refine (fail 31 _).mono ?_
      rintro e w' ⟨rfl, rfl⟩
      go_wp2_with fail
      refine leaves_cons (f := 223) (args := #[.pointer (some ⟨w.heap.size, 0, none⟩), .pointer (some ⟨w.heap.size + 1, 0, none⟩), .pointer (some ⟨w.heap.size + 1 + 1, 0, none⟩)]) (by simp) (by simp [go_sem]) ?_
      refine (caught1_panic w.heap.size (w.heap.size + 1) (w.heap.size + 1 + 1) _ _ _ 31 w6 e0 e1 e2 k0 k1 k2 (by omega) (by omega) (by omega) (by omega) (by omega)).mono ?_
      rintro e u' w9 ⟨rfl, rfl, z0, z1, z2, hb9⟩
      simp [Leaves, settle, results, Tryz.results213, go_sem, z0, z1, z2]
      refine ⟨hb7.trans hb9, ?_⟩
      rw [H1.out.1, H1.out.2.1, H1.out.2.2]
      exact ⟨_, ⟨rfl, rfl, rfl⟩, World.ownsRow_nil _ _ _ _⟩
    · have e0' : nameE n = 0 := by rw [HN.out, if_neg h5]
      have H1 : Hid (openK b = k ∧ openE b = 0 ∧ openN b = n) := Lib.hid (by unfold openK openE openN; rw [HP.out]; simp [h5])
      rw [e0']
      clear e0' HN HP
      go_wp2_with fail
      go_region
      go_wp2_with fail
      generalize hw8 : (((w6.setCell { block := w.heap.size, off := 0 } (Value.slice A5 n.length c5)).setCell { block := w.heap.size + 1, off := 0 } (Value.int IntKind.i64 ↑k)).setCell { block := w.heap.size + 1 + 1, off := 0 } (Value.int IntKind.i64 0)).drew = w8
      obtain ⟨z0, z1, z2, hk8⟩ := three_d e0 e1 e2 (by omega) (by omega) _ _ _ hw8.symm
      clear hw8
      have hown8 := Kept.row hown6 hk8 (fun k hk => by have := (hown.lt k hk).1; omega)
      have hb8 := hk8.below (B := w.heap.size) (by omega) (fun k hk => by omega)
      refine leaves_cons (f := 223) (args := #[.pointer (some ⟨w.heap.size, 0, none⟩), .pointer (some ⟨w.heap.size + 1, 0, none⟩), .pointer (some ⟨w.heap.size + 1 + 1, 0, none⟩)]) (by simp) (by simp [go_sem]) ?_
      refine (caught1_idle _ _ _ _).mono ?_
      rintro e u' w9 ⟨rfl, rfl, rfl⟩
      simp [Leaves, settle, results, Tryz.results213, go_sem, z0, z1, z2]
      refine ⟨hb7.trans hb8, ?_⟩
      rw [H1.out.1, H1.out.2.1, H1.out.2.2]
      exact ⟨_, ⟨rfl, rfl, rfl⟩, own_base hown8 (by omega)⟩
  · have H1 : Hid (openK b = 0 ∧ openE b = 30 ∧ openN b = []) := Lib.hid (by unfold openK openE openN; rw [hpar]; exact ⟨rfl, rfl, rfl⟩)
    clear hpar
    go_wp2_with fail
    refine leaves_cons (f := 223) (args := #[.pointer (some ⟨w.heap.size, 0, none⟩), .pointer (some ⟨w.heap.size + 1, 0, none⟩), .pointer (some ⟨w.heap.size + 1 + 1, 0, none⟩)]) (by simp) (by simp [go_sem]) ?_
    refine (caught1_panic w.heap.size (w.heap.size + 1) (w.heap.size + 1 + 1) _ _ _ 30 w4 d0 d1 d2 g0 g1 g2 (by omega) (by omega) (by omega) (by omega) (by omega)).mono ?_
    rintro e u' w5 ⟨rfl, rfl, z0, z1, z2, hb6⟩
    simp [Leaves, settle, results, Tryz.results213, go_sem, z0, z1, z2]
    refine ⟨hb5.trans hb6, ?_⟩
    rw [H1.out.1, H1.out.2.1, H1.out.2.2]
    exact ⟨_, ⟨rfl, rfl, rfl⟩, World.ownsRow_nil _ _ _ _⟩
/-- name.Open -/
theorem Open (A : Option Addr) (b : Lab) (cap : Nat) (w : World) (hc : Cs w A (b.map byteV)) (hb : b.length ≤ 100000) (hcap : b.length ≤ cap) (hcap2 : cap ≤ maxLen) :
    Calls Tryz.prog 184 #[.slice A b.length cap] w fun e w' => Below w.heap.size w w' ∧
      ∃ v, e = .returned (.tuple #[v, .int .i64 (openK b), .int .i64 (openE b)]) ∧ w'.ownsRow w.heap.size 9 1 v (openN b).length ((openN b).map strV) := by
  have hmf : ∀ (fn : Fn) (first cap : Array Value) (w : World), (Instr.makeFunc fn first cap).run Tryz.prog w = .ok (.func fn first cap) w := fun _ _ _ _ => rfl
  go_enter Tryz.func184, Tryz.ntmps184
  go_wp2_with fail
  have hb1 : Below w.heap.size w (w.alloc (.cells #[.slice A b.length cap] 31)) := (Below.refl _ _).alloc (Nat.le_refl _) _
  refine (caughtO ⟨w.heap.size, 0, none⟩ A b cap _ (by simp [go_sem]) (by simp) (hc.below hb1) hb hcap hcap2).mono ?_
  rintro e w2 ⟨hb2, v, rfl, hown⟩
  go_wp2_with fail
  go_ret3
  exact ⟨hb1.trans (hb2.mono (by simp)), v, rfl, own_base hown (by simp)⟩
end Nm
end Go.Proofs.YtkeimgamjnpcbaaGreat
