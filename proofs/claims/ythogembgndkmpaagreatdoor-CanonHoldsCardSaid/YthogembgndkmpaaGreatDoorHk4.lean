/-
  Texts merged by a program (Shape2, Read, Target, Soa1, CanonS, ReadS).
-/
import Derived.Test.YthogembgndkmpaaGreatDoorHk2
import Derived.Test.YthogembgndkmpaaGreatDoorHk3
set_option linter.unusedSimpArgs false
set_option linter.unusedVariables false
/- Contracts of package rdata: shape, Check's closure. -/
namespace Go.Proofs.YthogembgndkmpaaGreatDoor
open Go.RowKit
namespace Nm
def shp (t : Int) (l : Lab) : Bool :=
  if t = 1 then l.length == 4 else if t = 28 then l.length == 16 else if t = 2 ∨ t = 5 then wholeB l else if t = 15 then decide (2 ≤ l.length) && wholeB (l.drop 2)
  else if t = 16 then !l.isEmpty && txt l 0 else if t = 43 then decide (5 ≤ l.length) else if t = 51 then decide (5 ≤ l.length) && l.length == 5 + (l.getD 4 0).toNat else true
theorem chk_shp {t : Int} (h1 : t ≠ 6) (h2 : t ≠ 46) (h3 : t ≠ 48) (l : Lab) : chk t l = (decide (l.length ≤ 8192) && shp t l) := by
  unfold chk shp
  congr 1
  rw [txt_zero]
  simp only [h1, h2, h3, if_false]
def ShapeP (r : Nat) (A : Option Addr) (l : Lab) (cap : Nat) (t : Int) (w : World) (e : Ending) (w' : World) : Prop :=
  Kept (fun b => b = r) w w' ∧ ((∃ j, e = .returned (.tuple #[]) ∧ Rdr w' r A l cap j ∧ shp t l = decide (j = l.length)) ∨ (shp t l = false ∧ e = .panicked mustP))
theorem wholeB_some {l : Lab} {n : List Lab} {j : Nat} (h : openO l = some (n, j)) : wholeB l = decide (j = l.length) := by
  unfold wholeB; rw [h]; simp only []; rw [Bool.eq_iff_iff]; simp
theorem wholeB_none {l : Lab} (h : openO l = none) : wholeB l = false := by unfold wholeB; rw [h]
/-- so many bytes, and no more -/
theorem shape_take (t : Int) (n : Nat) (hn2 : n ≤ 100000) (r : Nat) (A : Option Addr) (l : Lab) (cap : Nat) (w : World) (h : Rdr w r A l cap 0) (hs : shp t l = (l.length == n)) :
    Calls Tryz.prog 107 #[.pointer (some ⟨r, 0, none⟩), .int .i64 n] w fun e w' => Kept (fun b => b = r) w w' ∧ ((∃ v, e = .returned v ∧ Rdr w' r A l cap n ∧ shp t l = decide (n = l.length)) ∨ (shp t l = false ∧ e = .panicked mustP)) := by
  by_cases hn : 0 + n ≤ l.length
  · refine (take_yes r A l cap 0 n w h hn).mono ?_
    rintro e w' ⟨rfl, h1, h2⟩
    rw [Nat.zero_add] at h1
    refine ⟨h2, .inl ⟨_, rfl, h1, ?_⟩⟩
    rw [hs, Bool.eq_iff_iff]; simp; omega
  · refine (take_no r A l cap 0 n w h hn hn2).mono ?_
    rintro e w' ⟨rfl, h1⟩
    refine ⟨h1, .inr ⟨?_, rfl⟩⟩
    rw [hs]; simp; omega
set_option maxRecDepth 100000 in
set_option maxHeartbeats 4000000 in
theorem shape (r : Nat) (A : Option Addr) (l : Lab) (cap : Nat) (t : Int) (w : World) (h : Rdr w r A l cap 0) :
    Calls Tryz.prog 104 #[.pointer (some ⟨r, 0, none⟩), .int .u16 t] w (ShapeP r A l cap t w) := by
  have hlen := h.len
  by_cases e1 : t = 1
  · subst e1
    have hc := shape_take 1 4 (by omega) r A l cap w h rfl
    go_enter Tryz.func104, Tryz.ntmps104
    go_wp2_with fail
    refine hc.mono ?_
    rintro e w' ⟨hk, ⟨v, rfl, hr, hs⟩ | ⟨hs, rfl⟩⟩
    · go_wp2_with fail
      go_end0
      exact ⟨hk, .inl ⟨_, rfl, hr, hs⟩⟩
    · go_wp2_with fail
      exact ⟨rfl, hk, .inr ⟨hs, rfl⟩⟩
  by_cases e28 : t = 28
  · subst e28
    have hc := shape_take 28 16 (by omega) r A l cap w h rfl
    go_enter Tryz.func104, Tryz.ntmps104
    go_wp2_with fail
    refine hc.mono ?_
    rintro e w' ⟨hk, ⟨v, rfl, hr, hs⟩ | ⟨hs, rfl⟩⟩
    · go_wp2_with fail
      go_end0
      exact ⟨hk, .inl ⟨_, rfl, hr, hs⟩⟩
    · go_wp2_with fail
      exact ⟨rfl, hk, .inr ⟨hs, rfl⟩⟩
  by_cases e25 : t = 2 ∨ t = 5
  · have hs0 : shp t l = wholeB l := by unfold shp; rw [if_neg e1, if_neg e28, if_pos e25]
    have hc := name r A l cap 0 w h
    rw [List.drop_zero] at hc
    rcases e25 with rfl | rfl
    all_goals
      go_enter Tryz.func104, Tryz.ntmps104
      go_wp2_with fail
      refine hc.mono ?_
      rintro e w' ⟨hk, ⟨n, j, v, ho, rfl, hr, _⟩ | ⟨ho, rfl⟩⟩
      · have HO := Lib.hid ho
        clear ho
        rw [Nat.zero_add] at hr
        go_wp2_with fail
        go_end0
        exact ⟨hk, .inl ⟨_, rfl, hr, by rw [hs0, wholeB_some HO.out]⟩⟩
      · have HO := Lib.hid ho
        clear ho
        go_wp2_with fail
        exact ⟨rfl, hk, .inr ⟨by rw [hs0, wholeB_none HO.out], rfl⟩⟩
  by_cases e15 : t = 15
  · subst e15
    have hs0 : shp 15 l = (decide (2 ≤ l.length) && wholeB (l.drop 2)) := rfl
    go_enter Tryz.func104, Tryz.ntmps104
    go_wp2_with fail
    by_cases h2 : 0 + 2 ≤ l.length
    · refine (num_yes r A l cap 0 2 w h h2).mono ?_
      rintro e w1 ⟨rfl, hr1, hk1⟩
      rw [Nat.zero_add] at hr1
      have hc := name r A l cap 2 w1 hr1
      have HS : Hid (shp 15 l = wholeB (l.drop 2)) := Lib.hid (by rw [hs0]; simp; omega)
      have hd : (l.drop 2).length = l.length - 2 := List.length_drop
      have HD := Lib.hid hd
      clear hs0 hd
      go_wp2_with fail
      refine hc.mono ?_
      rintro e w' ⟨hk, ⟨n, j, v, ho, rfl, hr, _⟩ | ⟨ho, rfl⟩⟩
      · have HO := Lib.hid ho
        clear ho
        go_wp2_with fail
        go_end0
        exact ⟨hk1.trans hk, .inl ⟨_, rfl, hr, by rw [HS.out, wholeB_some HO.out, HD.out, decide_eq_decide]; omega⟩⟩
      · have HO := Lib.hid ho
        clear ho
        go_wp2_with fail
        exact ⟨rfl, hk1.trans hk, .inr ⟨by rw [HS.out, wholeB_none HO.out], rfl⟩⟩
    · refine (num_no r A l cap 0 2 w h h2 (by omega)).mono ?_
      rintro e w1 ⟨rfl, hk1⟩
      go_wp2_with fail
      exact ⟨rfl, hk1, .inr ⟨by rw [hs0]; simp; omega, rfl⟩⟩
  by_cases e16 : t = 16
  · subst e16
    have hs0 : shp 16 l = (!l.isEmpty && txt l 0) := rfl
    have hc := texts r A l cap 0 w h
    go_enter Tryz.func104, Tryz.ntmps104
    go_wp2_with fail
    refine hc.mono ?_
    rintro e w' ⟨hk, ⟨h1, h2, rfl, hr⟩ | ⟨h1, rfl⟩⟩
    · have HO : Hid (shp 16 l = true) := Lib.hid (by rw [hs0, h2]; simpa using List.length_pos_iff.1 h1)
      clear h2 hs0
      go_wp2_with fail
      go_end0
      exact ⟨hk, .inl ⟨_, rfl, hr, by rw [HO.out]; simp⟩⟩
    · have HO : Hid (shp 16 l = false) := Lib.hid (by
        rw [hs0]
        rcases h1 with h1 | h1
        · have : l = [] := List.length_eq_zero_iff.1 (by omega)
          subst this; rfl
        · rw [h1]; simp)
      clear h1 hs0
      go_wp2_with fail
      exact ⟨rfl, hk, .inr ⟨HO.out, rfl⟩⟩
  by_cases e43 : t = 43
  · subst e43
    have hs0 : shp 43 l = decide (5 ≤ l.length) := rfl
    have HS := Lib.hid hs0
    clear hs0
    go_enter Tryz.func104, Tryz.ntmps104
    go_wp2_with fail
    by_cases h2 : 0 + 4 ≤ l.length
    · refine (take_yes r A l cap 0 4 w h h2).mono ?_
      rintro e w1 ⟨rfl, hr1, hk1⟩
      rw [Nat.zero_add] at hr1
      have hc := rest r A l cap 4 w1 hr1
      go_wp2_with fail
      refine hc.mono ?_
      rintro e w2 ⟨hk2, hr2, v, rfl, hown⟩
      obtain ⟨A5, c5, rfl, _, _⟩ := Cs.of_own hown
      by_cases h5 : 5 ≤ l.length
      · have h6 : decide (0 < l.length - 4) = true := by simp; omega
        go_wp2_with fail
        refine (must_yes _).mono ?_
        rintro e w' ⟨rfl, rfl⟩
        go_wp2_with fail
        go_end0
        exact ⟨hk1.trans hk2, .inl ⟨_, rfl, hr2, by rw [HS.out]; simpa using h5⟩⟩
      · have h6 : decide (0 < l.length - 4) = false := by simp; omega
        go_wp2_with fail
        refine (must_no _).mono ?_
        rintro e w' ⟨rfl, rfl⟩
        go_wp2_with fail
        exact ⟨rfl, hk1.trans hk2, .inr ⟨by rw [HS.out]; simpa using h5, rfl⟩⟩
    · refine (take_no r A l cap 0 4 w h h2 (by omega)).mono ?_
      rintro e w1 ⟨rfl, hk1⟩
      go_wp2_with fail
      exact ⟨rfl, hk1, .inr ⟨by rw [HS.out]; simp; omega, rfl⟩⟩
  by_cases e51 : t = 51
  · subst e51
    have hs0 : shp 51 l = (decide (5 ≤ l.length) && l.length == 5 + (l.getD 4 0).toNat) := rfl
    have HS := Lib.hid hs0
    clear hs0
    go_enter Tryz.func104, Tryz.ntmps104
    go_wp2_with fail
    by_cases h2 : 0 + 4 ≤ l.length
    · refine (take_yes r A l cap 0 4 w h h2).mono ?_
      rintro e w1 ⟨rfl, hr1, hk1⟩
      rw [Nat.zero_add] at hr1
      by_cases h5 : 4 < l.length
      · have HG : Hid (l.getD 4 0 = l[4]) := Lib.hid (by simp [List.getD_eq_getElem?_getD, h5])
        by_cases h6 : 4 + 1 + l[4].toNat ≤ l.length
        · have hc := text_yes r A l cap 4 w1 hr1 h5 h6
          have HE : Hid (shp 51 l = decide (4 + 1 + l[4].toNat = l.length)) := Lib.hid (by rw [HS.out, HG.out, Bool.eq_iff_iff]; simp; omega)
          clear HS HG
          generalize 4 + 1 + l[4].toNat = j at *
          have HC := Lib.hid hc
          clear hc
          go_wp2_with fail
          refine HC.out.mono ?_
          rintro e w2 ⟨hk2, hr2, v, rfl, _⟩
          go_wp2_with fail
          go_end0
          exact ⟨hk1.trans hk2, .inl ⟨_, rfl, hr2, HE.out⟩⟩
        · have hc := text_no r A l cap 4 w1 hr1 (fun ⟨_, h⟩ => h6 h)
          have HE : Hid (shp 51 l = false) := Lib.hid (by rw [HS.out, HG.out]; simp; omega)
          clear HS HG
          go_wp2_with fail
          refine hc.mono ?_
          rintro e w2 ⟨hk2, rfl⟩
          go_wp2_with fail
          exact ⟨rfl, hk1.trans hk2, .inr ⟨HE.out, rfl⟩⟩
      · have hc := text_no r A l cap 4 w1 hr1 (fun ⟨h, _⟩ => h5 h)
        have HE : Hid (shp 51 l = false) := Lib.hid (by rw [HS.out]; simp; omega)
        go_wp2_with fail
        refine hc.mono ?_
        rintro e w2 ⟨hk2, rfl⟩
        go_wp2_with fail
        exact ⟨rfl, hk1.trans hk2, .inr ⟨HE.out, rfl⟩⟩
    · refine (take_no r A l cap 0 4 w h h2 (by omega)).mono ?_
      rintro e w1 ⟨rfl, hk1⟩
      go_wp2_with fail
      exact ⟨rfl, hk1, .inr ⟨by rw [HS.out]; simp; omega, rfl⟩⟩
  have HS : Hid (shp t l = true) := Lib.hid (by unfold shp; rw [if_neg e1, if_neg e28, if_neg e25, if_neg e15, if_neg e16, if_neg e43, if_neg e51])
  have hc := rest r A l cap 0 w h
  have b1 : (t == 1) = false := by simpa using e1
  have b2 : (t == 2) = false := by simpa using fun h => e25 (.inl h)
  have b3 : (t == 5) = false := by simpa using fun h => e25 (.inr h)
  have b4 : (t == 28) = false := by simpa using e28
  have b5 : (t == 15) = false := by simpa using e15
  have b6 : (t == 16) = false := by simpa using e16
  have b7 : (t == 43) = false := by simpa using e43
  have b8 : (t == 51) = false := by simpa using e51
  clear e1 e25 e28 e15 e16 e43 e51
  go_enter Tryz.func104, Tryz.ntmps104
  go_wp2_with fail
  refine hc.mono ?_
  rintro e w2 ⟨hk2, hr2, v, rfl, hown⟩
  go_wp2_with fail
  go_end0
  exact ⟨hk2, .inl ⟨_, rfl, hr2, by rw [HS.out]; simp⟩⟩
end Nm
end Go.Proofs.YthogembgndkmpaaGreatDoor

/- Contracts of package rdata: read[int], Check. -/
namespace Go.Proofs.YthogembgndkmpaaGreatDoor
open Go.RowKit
namespace Nm
/-- no error, or the data's -/
def code50 (b : Bool) : Int := if b then 0 else 50
theorem asserted_must (W : World) : (Instr.typeAssert (.iface 177 (.agg #[])) 20 177 true).run Tryz.prog W = .ok (.tuple #[.agg #[], .bool true]) W := by kernel_rfl
def mustR : FrameMode := .panicking [{ v := .iface 177 (.agg #[]), recovered := true }]
/-- two cells written, a block laid -/
theorem two {w : World} {a b : Nat} {x0 x1 : Value} (h0 : w.cell? ⟨a, 0, none⟩ = some x0) (h1 : w.cell? ⟨b, 0, none⟩ = some x1) (hab : a < b) (v0 v1 : Value) {w' : World}
    (hw : w' = (w.setCell ⟨a, 0, none⟩ v0).setCell ⟨b, 0, none⟩ v1) :
    w'.cell? ⟨a, 0, none⟩ = some v0 ∧ w'.cell? ⟨b, 0, none⟩ = some v1 ∧ Kept (fun k => a ≤ k ∧ k ≤ b) w w' := by
  have a1 := setc_same (v := v0) h0
  have b1 := (setc_far (o := 0) (v := v0) (show a ≠ b by omega)).trans h1
  have a2 := (setc_far (o := 0) (v := v1) (show b ≠ a by omega)).trans a1
  have b2 := setc_same (v := v1) b1
  subst hw
  exact ⟨a2, b2, ((Kept.refl _ _).setCell (p := ⟨a, 0, none⟩) (fun _ => (show a ≤ a ∧ a ≤ b by omega)) _).setCell (p := ⟨b, 0, none⟩) (fun _ => (show a ≤ b ∧ b ≤ b by omega)) _⟩
set_option maxRecDepth 100000 in
set_option maxHeartbeats 1000000 in
theorem readI1_panic (a b : Nat) (x0 x1 : Value) (w : World) (h0 : w.cell? ⟨a, 0, none⟩ = some x0) (h1 : w.cell? ⟨b, 0, none⟩ = some x1)
    (f0 : w.frozen? ⟨a, 0, none⟩ = false) (f1 : w.frozen? ⟨b, 0, none⟩ = false) (l0 : a < w.heap.size) (l1 : b < w.heap.size) (hab : a < b) :
    CallsD Tryz.prog 135 #[.pointer (some ⟨a, 0, none⟩), .pointer (some ⟨b, 0, none⟩)] (.panicking mustP) w fun e u' w' =>
      e = .returned (.tuple #[]) ∧ u' = mustR ∧ w'.cell? ⟨a, 0, none⟩ = some (.int .i64 0) ∧ w'.cell? ⟨b, 0, none⟩ = some (.int .i64 50) ∧ Below a w w' := by
  have hta := asserted_must
  refine callsD_of_wpS Tryz.func135 rfl fun c₀ cs hu => ?_
  apply wpS_seq
  apply wpS_region
  simp [wpOpsS, go_sem, recoverD, mustP, hu, Tryz.ntmps135, Exit.thenS]
  refine wpS_of_wp ?_
  simp only [Array.replicate_succ, Array.replicate_zero, List.push_toArray, List.append_toArray, List.nil_append, List.cons_append, List.setIfInBounds_toArray, List.set_cons_succ, List.set_cons_zero]
  have n0 : ¬ a = w.heap.size := by omega
  have n1 : ¬ b = w.heap.size := by omega
  have m0 : ¬ w.heap.size = a := by omega
  have m1 : ¬ w.heap.size = b := by omega
  have d0 : ¬ a = b := by omega
  have d1 : ¬ b = a := by omega
  go_wp2_with fail
  obtain ⟨z0, z1, hk⟩ := two h0 h1 hab (.int .i64 0) (.int .i64 50) rfl
  exact ⟨rfl, _, rfl, _, results_none rfl _ _ _, rfl, rfl, alloc_cell _ z0, alloc_cell _ z1, (hk.below (B := a) (by omega) (fun k hk => by omega)).alloc (by have := hk.size; omega) _⟩
theorem readI1_idle (a b : Addr) (w : World) : CallsD Tryz.prog 135 #[.pointer (some a), .pointer (some b)] .returning w fun e u' w' => e = .returned (.tuple #[]) ∧ u' = .returning ∧ w' = w := by
  refine callsD_of_wpS Tryz.func135 rfl fun c₀ cs hu => ?_
  apply wpS_seq
  apply wpS_region
  simp [wpOpsS, go_sem, recoverD, hu, Tryz.ntmps135, Exit.thenS]
  refine wpS_of_wp ?_
  simp only [Array.replicate_succ, Array.replicate_zero, List.push_toArray, List.append_toArray, List.nil_append, List.cons_append, List.setIfInBounds_toArray, List.set_cons_succ, List.set_cons_zero]
  go_wp2_with fail
  exact ⟨rfl, .returning, by cases c₀; simp_all, _, results_none rfl _ _ _, rfl, rfl, rfl⟩
theorem Check1 (p : Addr) (t : Int) (r : Nat) (A : Option Addr) (l : Lab) (cap : Nat) (w : World) (hp : w.cell? p = some (.int .u16 t)) (h : Rdr w r A l cap 0) :
    Calls Tryz.prog 103 #[.pointer (some ⟨r, 0, none⟩), .pointer (some p)] w fun e w' =>
      Kept (fun b => b = r) w w' ∧ ((∃ j, e = .returned (.int .i64 0) ∧ Rdr w' r A l cap j ∧ shp t l = decide (j = l.length)) ∨ (shp t l = false ∧ e = .panicked mustP)) := by
  go_enter Tryz.func103, Tryz.ntmps103
  go_wp2_with fail
  refine (shape r A l cap t w h).mono ?_
  rintro e w' ⟨hk, ⟨j, rfl, hr, hs⟩ | ⟨hs, rfl⟩⟩
  · have HS := Lib.hid hs
    clear hs
    go_wp2_with fail
    go_ret
    exact ⟨hk, .inl ⟨_, rfl, hr, HS.out⟩⟩
  · have HS := Lib.hid hs
    clear hs
    go_wp2_with fail
    exact ⟨rfl, hk, .inr ⟨HS.out, rfl⟩⟩
set_option maxRecDepth 100000 in
set_option maxHeartbeats 2000000 in
theorem readI (p : Addr) (t : Int) (A : Option Addr) (l : Lab) (cap : Nat) (w : World) (hp : w.cell? p = some (.int .u16 t)) (hpb : p.block < w.heap.size) (hc : Cs w A (l.map byteV)) (hl : l.length ≤ 100000) (hcap : l.length ≤ cap) (hcap2 : cap ≤ maxLen) :
    Calls Tryz.prog 102 #[.slice A l.length cap, .func (.func 103) #[] #[.pointer (some p)]] w fun e w' =>
      Below w.heap.size w w' ∧ e = .returned (.tuple #[.int .i64 0, .int .i64 (code50 (shp t l))]) := by
  have hmf : ∀ (fn : Fn) (first cap : Array Value) (w : World), (Instr.makeFunc fn first cap).run Tryz.prog w = .ok (.func fn first cap) w := fun _ _ _ _ => rfl
  go_enter_defers Tryz.func102, Tryz.ntmps102
  go_wp2_with fail
  generalize hw3 : (((w.alloc (Obj.cells #[Value.int IntKind.i64 0] 3)).alloc (Obj.cells #[Value.int IntKind.i64 0] 90)).alloc (Obj.cells #[Value.slice A l.length cap, Value.int IntKind.i64 0] 180)) = w3
  have hb3 : Below w.heap.size w w3 := by rw [← hw3]; exact (((Below.refl _ _).alloc (Nat.le_refl _) _).alloc (by simp) _).alloc (by simp; omega) _
  have hsz3 : w3.heap.size = w.heap.size + 3 := by rw [← hw3]; simp
  have c0 : w3.cell? ⟨w.heap.size, 0, none⟩ = some (.int .i64 0) := by rw [← hw3]; simp [go_sem]
  have c1 : w3.cell? ⟨w.heap.size + 1, 0, none⟩ = some (.int .i64 0) := by rw [← hw3]; simp [go_sem]
  have f0 : w3.frozen? ⟨w.heap.size, 0, none⟩ = false := by rw [← hw3]; simp [go_sem]
  have f1 : w3.frozen? ⟨w.heap.size + 1, 0, none⟩ = false := by rw [← hw3]; simp [go_sem]
  have hR : Rdr w3 (w.heap.size + 1 + 1) A l cap 0 := by
    refine ⟨by rw [← hw3]; simp [go_sem], by rw [← hw3]; simp [go_sem], by rw [← hw3]; simp [go_sem], by omega, hc.below hb3, ?_, hl, hcap, hcap2, Nat.zero_le _⟩
    intro a ha hx
    have := hc.where ha hx
    omega
  have hp3 := (hb3.cell hpb).trans hp
  clear hw3
  refine (Check1 p t (w.heap.size + 1 + 1) A l cap w3 hp3 hR).mono ?_
  rintro e w4 ⟨hk4, hcase⟩
  have d0 := (hk4.cell (b := w.heap.size) (o := 0) (by omega) (by omega)).trans c0
  have d1 := (hk4.cell (b := w.heap.size + 1) (o := 0) (by omega) (by omega)).trans c1
  have g0 := (hk4.frozen (b := w.heap.size) (o := 0) (by omega) (by omega)).trans f0
  have g1 := (hk4.frozen (b := w.heap.size + 1) (o := 0) (by omega) (by omega)).trans f1
  have hsz4 := hk4.size
  have hb4 : Below w.heap.size w w4 := hb3.trans (hk4.below (by omega) (fun k hk => by omega))
  clear c0 c1 f0 f1 hR hp3 hk4
  have door : ∀ W : World, Below w.heap.size w W → W.cell? ⟨w.heap.size, 0, none⟩ = some (.int .i64 0) → W.cell? ⟨w.heap.size + 1, 0, none⟩ = some (.int .i64 0) → W.frozen? ⟨w.heap.size, 0, none⟩ = false → W.frozen? ⟨w.heap.size + 1, 0, none⟩ = false → w.heap.size + 3 ≤ W.heap.size →
      CallsD Tryz.prog 135 #[.pointer (some ⟨w.heap.size, 0, none⟩), .pointer (some ⟨w.heap.size + 1, 0, none⟩)] (.panicking mustP) W fun e u' w' =>
      e = .returned (.tuple #[]) ∧ u' = mustR ∧ w'.cell? ⟨w.heap.size, 0, none⟩ = some (.int .i64 0) ∧ w'.cell? ⟨w.heap.size + 1, 0, none⟩ = some (.int .i64 50) ∧ Below w.heap.size w w' := fun W hb k0 k1 j0 j1 hs =>
    (readI1_panic w.heap.size (w.heap.size + 1) _ _ W k0 k1 j0 j1 (by omega) (by omega) (by omega)).mono fun e u' w' ⟨h1, h2, h3, h4, h5⟩ => ⟨h1, h2, h3, h4, hb.trans h5⟩
  have HD := Lib.hid door
  clear door
  rcases hcase with ⟨j, rfl, hr, hs⟩ | ⟨hs, rfl⟩
  · have HS := Lib.hid hs
    have e1 := hr.c1
    have hlj := hr.le
    clear hs hr
    have n0 : ¬ w.heap.size = w.heap.size + 1 := by omega
    have n1 : ¬ w.heap.size = w.heap.size + 1 + 1 := by omega
    have n2 : ¬ w.heap.size + 1 = w.heap.size := by omega
    have n3 : ¬ w.heap.size + 1 = w.heap.size + 1 + 1 := by omega
    by_cases hj : j = l.length
    · have hjb : ((j : Int) == (l.length : Int)) = true := by simp [hj]
      have HT : Hid (shp t l = true) := Lib.hid (by rw [HS.out]; simpa using hj)
      clear hj HS
      go_wp2_with fail
      refine (must_yes _).mono ?_
      rintro e w' ⟨rfl, rfl⟩
      go_wp2_with fail
      have hk5 : Kept (fun b => b = w.heap.size) w4 (w4.setCell ⟨w.heap.size, 0, none⟩ (.int .i64 0)) := Kept.setCell (S := fun b => b = w.heap.size) (Kept.refl _ _) (p := ⟨w.heap.size, 0, none⟩) (fun _ => rfl) _
      have k0 := setc_same (v := .int .i64 0) d0
      have k1 := (hk5.cell (b := w.heap.size + 1) (o := 0) (by omega) (by omega)).trans d1
      have hs5 := hk5.size
      obtain ⟨z0, z1, hk6⟩ := two k0 k1 (by omega) (.int .i64 0) (.int .i64 0) rfl
      have hb6 := (hb4.trans (hk5.below (B := w.heap.size) (by omega) (fun k hk => by omega))).trans (hk6.below (B := w.heap.size) (by omega) (fun k hk => by omega))
      clear hk6
      generalize ((w4.setCell { block := w.heap.size, off := 0 } (Value.int IntKind.i64 0)).setCell { block := w.heap.size, off := 0 } (Value.int IntKind.i64 0)).setCell { block := w.heap.size + 1, off := 0 } (Value.int IntKind.i64 0) = w6 at *
      refine leaves_cons (f := 135) (args := #[.pointer (some ⟨w.heap.size, 0, none⟩), .pointer (some ⟨w.heap.size + 1, 0, none⟩)]) (by simp) (by simp [go_sem]) ?_
      refine (readI1_idle _ _ _).mono ?_
      rintro e u' w9 ⟨rfl, rfl, rfl⟩
      simp [Leaves, settle, results, Tryz.results102, go_sem, z0, z1]
      exact ⟨hb6, by rw [HT.out]; rfl⟩
    · have hjb : ((j : Int) == (l.length : Int)) = false := by simp; omega
      have HT : Hid (shp t l = false) := Lib.hid (by rw [HS.out]; simpa using hj)
      clear hj HS
      go_wp2_with fail
      refine (must_no _).mono ?_
      rintro e w' ⟨rfl, rfl⟩
      have hk5 : Kept (fun b => b = w.heap.size) w4 (w4.setCell ⟨w.heap.size, 0, none⟩ (.int .i64 0)) := Kept.setCell (S := fun b => b = w.heap.size) (Kept.refl _ _) (p := ⟨w.heap.size, 0, none⟩) (fun _ => rfl) _
      have hb5 := hb4.trans (hk5.below (B := w.heap.size) (by omega) (fun k hk => by omega))
      have k0 := setc_same (v := .int .i64 0) d0
      have k1 := (hk5.cell (b := w.heap.size + 1) (o := 0) (by omega) (by omega)).trans d1
      have j0 := (setc_frozen (p := ⟨w.heap.size, 0, none⟩) (v := .int .i64 0)).trans g0
      have j1 := (setc_frozen (p := ⟨w.heap.size, 0, none⟩) (v := .int .i64 0)).trans g1
      have hs5 := hk5.size
      go_wp2_with fail
      refine leaves_cons (f := 135) (args := #[.pointer (some ⟨w.heap.size, 0, none⟩), .pointer (some ⟨w.heap.size + 1, 0, none⟩)]) (by simp) (by simp [go_sem]) ?_
      refine (HD.out _ hb5 k0 k1 j0 j1 (by omega)).mono ?_
      rintro e u' w5 ⟨rfl, rfl, z0, z1, hb6⟩
      simp [Leaves, settle, mustR, results, Tryz.results102, go_sem, z0, z1]
      exact ⟨hb6, by rw [HT.out]; rfl⟩
  · have HS := Lib.hid hs
    clear hs
    go_wp2_with fail
    refine leaves_cons (f := 135) (args := #[.pointer (some ⟨w.heap.size, 0, none⟩), .pointer (some ⟨w.heap.size + 1, 0, none⟩)]) (by simp) (by simp [go_sem]) ?_
    refine (HD.out w4 hb4 d0 d1 g0 g1 (by omega)).mono ?_
    rintro e u' w5 ⟨rfl, rfl, z0, z1, hb5⟩
    simp [Leaves, settle, mustR, results, Tryz.results102, go_sem, z0, z1]
    exact ⟨hb5, by rw [HS.out]; rfl⟩
set_option maxRecDepth 100000 in
set_option maxHeartbeats 2000000 in
/-- rdata.Check at types whose shape alone is asked -/
theorem CheckS (t : Int) (A : Option Addr) (l : Lab) (cap : Nat) (w : World) (h1 : t ≠ 6) (h2 : t ≠ 46) (h3 : t ≠ 48) (h4 : t ≠ 50) (hc : Cs w A (l.map byteV)) (hl : l.length ≤ 100000) (hcap : l.length ≤ cap) (hcap2 : cap ≤ maxLen) :
    Calls Tryz.prog 85 #[.int .u16 t, .slice A l.length cap] w fun e w' => Below w.heap.size w w' ∧ e = .returned (.int .i64 (code50 (chk t l))) := by
  have HC := Lib.hid (chk_shp h1 h2 h3 l)
  have b1 : (t == 6) = false := by simpa using h1
  have b2 : (t == 46) = false := by simpa using h2
  have b3 : (t == 48) = false := by simpa using h3
  have b4 : (t == 50) = false := by simpa using h4
  have hmf : ∀ (fn : Fn) (first cap : Array Value) (w : World), (Instr.makeFunc fn first cap).run Tryz.prog w = .ok (.func fn first cap) w := fun _ _ _ _ => rfl
  have hb1 : Below w.heap.size w (w.alloc (.cells #[.int .u16 t] 27)) := (Below.refl _ _).alloc (Nat.le_refl _) _
  clear h1 h2 h3 h4
  by_cases h8 : 8192 < l.length
  · have HE : Hid (chk t l = false) := Lib.hid (by rw [HC.out]; simp; omega)
    go_enter Tryz.func85, Tryz.ntmps85
    go_wp2_with fail
    go_ret
    exact ⟨hb1, by rw [HE.out]; rfl⟩
  · have HE : Hid (chk t l = shp t l) := Lib.hid (by rw [HC.out]; simp; omega)
    have hr := readI ⟨w.heap.size, 0, none⟩ t A l cap (w.alloc (.cells #[.int .u16 t] 27)) (by simp [go_sem]) (by simp) (hc.below hb1) hl hcap hcap2
    have HR := Lib.hid hr
    clear hr hc
    go_enter Tryz.func85, Tryz.ntmps85
    go_wp2_with fail
    refine HR.out.mono ?_
    rintro e w2 ⟨hb2, rfl⟩
    go_wp2_with fail
    go_ret
    exact ⟨hb1.trans (hb2.mono (by simp)), by rw [HE.out]; rfl⟩
end Nm
end Go.Proofs.YthogembgndkmpaaGreatDoor

/- Contracts of package rdata: Target. -/
namespace Go.Proofs.YthogembgndkmpaaGreatDoor
open Go.RowKit
namespace Nm
set_option maxRecDepth 100000 in
set_option maxHeartbeats 1000000 in
theorem readN1_panic (a b : Nat) (x0 x1 : Value) (w : World) (h0 : w.cell? ⟨a, 0, none⟩ = some x0) (h1 : w.cell? ⟨b, 0, none⟩ = some x1)
    (f0 : w.frozen? ⟨a, 0, none⟩ = false) (f1 : w.frozen? ⟨b, 0, none⟩ = false) (l0 : a < w.heap.size) (l1 : b < w.heap.size) (hab : a < b) :
    CallsD Tryz.prog 137 #[.pointer (some ⟨a, 0, none⟩), .pointer (some ⟨b, 0, none⟩)] (.panicking mustP) w fun e u' w' =>
      e = .returned (.tuple #[]) ∧ u' = mustR ∧ w'.cell? ⟨a, 0, none⟩ = some (.slice none 0 0) ∧ w'.cell? ⟨b, 0, none⟩ = some (.int .i64 50) ∧ Below a w w' := by
  have hta := asserted_must
  refine callsD_of_wpS Tryz.func137 rfl fun c₀ cs hu => ?_
  apply wpS_seq
  apply wpS_region
  simp [wpOpsS, go_sem, recoverD, mustP, hu, Tryz.ntmps137, Exit.thenS]
  refine wpS_of_wp ?_
  simp only [Array.replicate_succ, Array.replicate_zero, List.push_toArray, List.append_toArray, List.nil_append, List.cons_append, List.setIfInBounds_toArray, List.set_cons_succ, List.set_cons_zero]
  have n0 : ¬ a = w.heap.size := by omega
  have n1 : ¬ b = w.heap.size := by omega
  have m0 : ¬ w.heap.size = a := by omega
  have m1 : ¬ w.heap.size = b := by omega
  have d0 : ¬ a = b := by omega
  have d1 : ¬ b = a := by omega
  go_wp2_with fail
  obtain ⟨z0, z1, hk⟩ := two h0 h1 hab (.slice none 0 0) (.int .i64 50) rfl
  exact ⟨rfl, _, rfl, _, results_none rfl _ _ _, rfl, rfl, alloc_cell _ z0, alloc_cell _ z1, (hk.below (B := a) (by omega) (fun k hk => by omega)).alloc (by have := hk.size; omega) _⟩
theorem readN1_idle (a b : Addr) (w : World) : CallsD Tryz.prog 137 #[.pointer (some a), .pointer (some b)] .returning w fun e u' w' => e = .returned (.tuple #[]) ∧ u' = .returning ∧ w' = w := by
  refine callsD_of_wpS Tryz.func137 rfl fun c₀ cs hu => ?_
  apply wpS_seq
  apply wpS_region
  simp [wpOpsS, go_sem, recoverD, hu, Tryz.ntmps137, Exit.thenS]
  refine wpS_of_wp ?_
  simp only [Array.replicate_succ, Array.replicate_zero, List.push_toArray, List.append_toArray, List.nil_append, List.cons_append, List.setIfInBounds_toArray, List.set_cons_succ, List.set_cons_zero]
  go_wp2_with fail
  exact ⟨rfl, .returning, by cases c₀; simp_all, _, results_none rfl _ _ _, rfl, rfl, rfl⟩
/-- how many bytes stand ahead of a name -/
def ahd (t : Int) : Nat := if t = 15 then 2 else 0
theorem ahead (t : Int) (w : World) : Calls Tryz.prog 88 #[.int .u16 t] w fun e w' => e = .returned (.int .i64 (ahd t)) ∧ w = w' := by
  unfold ahd
  by_cases h : t = 15
  · subst h
    go_enter Tryz.func88, Tryz.ntmps88
    go_wp2_with fail
    go_ret
    exact ⟨rfl, rfl⟩
  · have hb : (t == 15) = false := by simpa using h
    go_enter Tryz.func88, Tryz.ntmps88
    go_wp2_with fail
    go_ret
    exact ⟨rfl, rfl⟩
def isN (t : Int) : Prop := t = 2 ∨ t = 5 ∨ t = 15
theorem shp_name {t : Int} (ht : isN t) (l : Lab) : shp t l = (decide (ahd t ≤ l.length) && wholeB (l.drop (ahd t))) := by
  rcases ht with rfl | rfl | rfl
  · rfl
  · rfl
  · rfl
set_option maxRecDepth 100000 in
set_option maxHeartbeats 2000000 in
theorem Target1 (p : Addr) (t : Int) (ht : isN t) (r : Nat) (A : Option Addr) (l : Lab) (cap : Nat) (w : World) (hp : w.cell? p = some (.int .u16 t)) (h : Rdr w r A l cap 0) (hpr : p.block ≠ r) (hpw : p.block < w.heap.size) (hps : p.spot = none) :
    Calls Tryz.prog 106 #[.pointer (some ⟨r, 0, none⟩), .pointer (some p)] w fun e w' =>
      Kept (fun b => b = r) w w' ∧ ((∃ j v, e = .returned v ∧ Rdr w' r A l cap j ∧ shp t l = decide (j = l.length) ∧ w'.ownsRow w.heap.size 9 1 v (openN (l.drop (ahd t))).length ((openN (l.drop (ahd t))).map strV)) ∨ (shp t l = false ∧ e = .panicked mustP)) := by
  have HS := Lib.hid (shp_name ht l)
  have hah : ahd t ≤ 2 := by unfold ahd; split <;> omega
  have hat := ahead t w
  generalize ahd t = a at *
  clear ht
  go_enter Tryz.func106, Tryz.ntmps106
  go_wp2_with fail
  refine hat.mono ?_
  rintro e w' ⟨rfl, rfl⟩
  go_wp2_with fail
  by_cases ha : 0 + a ≤ l.length
  · refine (take_yes r A l cap 0 a w h ha).mono ?_
    rintro e w1 ⟨rfl, hr1, hk1⟩
    rw [Nat.zero_add] at hr1
    have hc := name r A l cap a w1 hr1
    have hd : (l.drop a).length = l.length - a := List.length_drop
    have HD := Lib.hid hd
    clear hd
    go_wp2_with fail
    refine hc.mono ?_
    rintro e w2 ⟨hk2, ⟨n, j, v, ho, rfl, hr2, hown⟩ | ⟨ho, rfl⟩⟩
    · have HO := Lib.hid ho
      clear ho
      go_wp2_with fail
      go_ret
      refine ⟨hk1.trans hk2, .inl ⟨_, _, rfl, hr2, ?_, ?_⟩⟩
      · rw [HS.out, wholeB_some HO.out, HD.out, Bool.eq_iff_iff]
        simp
        omega
      · rw [(openO_some HO.out).2.2.2.1]
        exact own_base hown hk1.size
    · have HO := Lib.hid ho
      clear ho
      go_wp2_with fail
      exact ⟨rfl, hk1.trans hk2, .inr ⟨by rw [HS.out, wholeB_none HO.out]; simp, rfl⟩⟩
  · refine (take_no r A l cap 0 a w h ha (by omega)).mono ?_
    rintro e w1 ⟨rfl, hk1⟩
    go_wp2_with fail
    exact ⟨rfl, hk1, .inr ⟨by rw [HS.out]; simp; omega, rfl⟩⟩
/-- the name that data of some types ends with -/
def tgt (t : Int) (l : Lab) : List Lab := if shp t l then openN (l.drop (ahd t)) else []
set_option maxRecDepth 100000 in
set_option maxHeartbeats 2000000 in
theorem readN (p : Addr) (t : Int) (ht : isN t) (A : Option Addr) (l : Lab) (cap : Nat) (w : World) (hp : w.cell? p = some (.int .u16 t)) (hpb : p.block < w.heap.size) (hps : p.spot = none) (hc : Cs w A (l.map byteV)) (hl : l.length ≤ 100000) (hcap : l.length ≤ cap) (hcap2 : cap ≤ maxLen) :
    Calls Tryz.prog 105 #[.slice A l.length cap, .func (.func 106) #[] #[.pointer (some p)]] w fun e w' =>
      Below w.heap.size w w' ∧ ∃ v, e = .returned (.tuple #[v, .int .i64 (code50 (shp t l))]) ∧ w'.ownsRow w.heap.size 9 1 v (tgt t l).length ((tgt t l).map strV) := by
  have hmf : ∀ (fn : Fn) (first cap : Array Value) (w : World), (Instr.makeFunc fn first cap).run Tryz.prog w = .ok (.func fn first cap) w := fun _ _ _ _ => rfl
  go_enter_defers Tryz.func105, Tryz.ntmps105
  go_wp2_with fail
  generalize hw3 : (((w.alloc (Obj.cells #[Value.slice none 0 0] 26)).alloc (Obj.cells #[Value.int IntKind.i64 0] 90)).alloc (Obj.cells #[Value.slice A l.length cap, Value.int IntKind.i64 0] 180)) = w3
  have hb3 : Below w.heap.size w w3 := by rw [← hw3]; exact (((Below.refl _ _).alloc (Nat.le_refl _) _).alloc (by simp) _).alloc (by simp; omega) _
  have hsz3 : w3.heap.size = w.heap.size + 3 := by rw [← hw3]; simp
  have c0 : w3.cell? ⟨w.heap.size, 0, none⟩ = some (.slice none 0 0) := by rw [← hw3]; simp [go_sem]
  have c1 : w3.cell? ⟨w.heap.size + 1, 0, none⟩ = some (.int .i64 0) := by rw [← hw3]; simp [go_sem]
  have f0 : w3.frozen? ⟨w.heap.size, 0, none⟩ = false := by rw [← hw3]; simp [go_sem]
  have f1 : w3.frozen? ⟨w.heap.size + 1, 0, none⟩ = false := by rw [← hw3]; simp [go_sem]
  have hR : Rdr w3 (w.heap.size + 1 + 1) A l cap 0 := by
    refine ⟨by rw [← hw3]; simp [go_sem], by rw [← hw3]; simp [go_sem], by rw [← hw3]; simp [go_sem], by omega, hc.below hb3, ?_, hl, hcap, hcap2, Nat.zero_le _⟩
    intro a ha hx
    have := hc.where ha hx
    omega
  have hp3 := (hb3.cell hpb).trans hp
  clear hw3
  refine (Target1 p t ht (w.heap.size + 1 + 1) A l cap w3 hp3 hR (by omega) (by omega) hps).mono ?_
  rintro e w4 ⟨hk4, hcase⟩
  have d0 := (hk4.cell (b := w.heap.size) (o := 0) (by omega) (by omega)).trans c0
  have d1 := (hk4.cell (b := w.heap.size + 1) (o := 0) (by omega) (by omega)).trans c1
  have g0 := (hk4.frozen (b := w.heap.size) (o := 0) (by omega) (by omega)).trans f0
  have g1 := (hk4.frozen (b := w.heap.size + 1) (o := 0) (by omega) (by omega)).trans f1
  have hsz4 := hk4.size
  have hb4 : Below w.heap.size w w4 := hb3.trans (hk4.below (by omega) (fun k hk => by omega))
  clear c0 c1 f0 f1 hR hp3 hk4
  have door : ∀ W : World, Below w.heap.size w W → (∃ x, W.cell? ⟨w.heap.size, 0, none⟩ = some x) → W.cell? ⟨w.heap.size + 1, 0, none⟩ = some (.int .i64 0) → W.frozen? ⟨w.heap.size, 0, none⟩ = false → W.frozen? ⟨w.heap.size + 1, 0, none⟩ = false → w.heap.size + 3 ≤ W.heap.size →
      CallsD Tryz.prog 137 #[.pointer (some ⟨w.heap.size, 0, none⟩), .pointer (some ⟨w.heap.size + 1, 0, none⟩)] (.panicking mustP) W fun e u' w' =>
      e = .returned (.tuple #[]) ∧ u' = mustR ∧ w'.cell? ⟨w.heap.size, 0, none⟩ = some (.slice none 0 0) ∧ w'.cell? ⟨w.heap.size + 1, 0, none⟩ = some (.int .i64 50) ∧ Below w.heap.size w w' := fun W hb ⟨x, k0⟩ k1 j0 j1 hs =>
    (readN1_panic w.heap.size (w.heap.size + 1) _ _ W k0 k1 j0 j1 (by omega) (by omega) (by omega)).mono fun e u' w' ⟨h1, h2, h3, h4, h5⟩ => ⟨h1, h2, h3, h4, hb.trans h5⟩
  have HD := Lib.hid door
  clear door
  rcases hcase with ⟨j, v, rfl, hr, hs, hown⟩ | ⟨hs, rfl⟩
  · obtain ⟨A5, c5, rfl, _, _⟩ := Cs.of_own hown
    have HS := Lib.hid hs
    have e1 := hr.c1
    have hlj := hr.le
    clear hs hr
    have n0 : ¬ w.heap.size = w.heap.size + 1 := by omega
    have n1 : ¬ w.heap.size = w.heap.size + 1 + 1 := by omega
    have n2 : ¬ w.heap.size + 1 = w.heap.size := by omega
    have n3 : ¬ w.heap.size + 1 = w.heap.size + 1 + 1 := by omega
    by_cases hj : j = l.length
    · have hjb : ((j : Int) == (l.length : Int)) = true := by simp [hj]
      have HT : Hid (shp t l = true) := Lib.hid (by rw [HS.out]; simpa using hj)
      clear hj HS
      go_wp2_with fail
      refine (must_yes _).mono ?_
      rintro e w' ⟨rfl, rfl⟩
      go_wp2_with fail
      have hk5 : Kept (fun b => b = w.heap.size) w4 (w4.setCell ⟨w.heap.size, 0, none⟩ (Value.slice A5 (openN (l.drop (ahd t))).length c5)) := Kept.setCell (S := fun b => b = w.heap.size) (Kept.refl _ _) (p := ⟨w.heap.size, 0, none⟩) (fun _ => rfl) _
      have k0 := setc_same (v := (Value.slice A5 (openN (l.drop (ahd t))).length c5)) d0
      have k1 := (hk5.cell (b := w.heap.size + 1) (o := 0) (by omega) (by omega)).trans d1
      have hs5 := hk5.size
      obtain ⟨z0, z1, hk6⟩ := two k0 k1 (by omega) (Value.slice A5 (openN (l.drop (ahd t))).length c5) (.int .i64 0) rfl
      have hb6 := (hb4.trans (hk5.below (B := w.heap.size) (by omega) (fun k hk => by omega))).trans (hk6.below (B := w.heap.size) (by omega) (fun k hk => by omega))
      have hown6 := Kept.row (Kept.row hown hk5 (fun k hk => by have := (hown.lt k hk).1; omega)) hk6 (fun k hk => by have := (hown.lt k hk).1; omega)
      clear hk6
      generalize ((w4.setCell { block := w.heap.size, off := 0 } (Value.slice A5 (openN (l.drop (ahd t))).length c5)).setCell { block := w.heap.size, off := 0 } (Value.slice A5 (openN (l.drop (ahd t))).length c5)).setCell { block := w.heap.size + 1, off := 0 } (Value.int IntKind.i64 0) = w6 at *
      refine leaves_cons (f := 137) (args := #[.pointer (some ⟨w.heap.size, 0, none⟩), .pointer (some ⟨w.heap.size + 1, 0, none⟩)]) (by simp) (by simp [go_sem]) ?_
      refine (readN1_idle _ _ _).mono ?_
      rintro e u' w9 ⟨rfl, rfl, rfl⟩
      simp [Leaves, settle, results, Tryz.results105, go_sem, z0, z1]
      have HTg : tgt t l = openN (l.drop (ahd t)) := by unfold tgt; rw [HT.out]; rfl
      exact ⟨hb6, _, ⟨rfl, by rw [HT.out]; rfl⟩, by rw [HTg]; exact own_base hown6 (by omega)⟩
    · have hjb : ((j : Int) == (l.length : Int)) = false := by simp; omega
      have HT : Hid (shp t l = false) := Lib.hid (by rw [HS.out]; simpa using hj)
      clear hj HS
      go_wp2_with fail
      refine (must_no _).mono ?_
      rintro e w' ⟨rfl, rfl⟩
      have hk5 : Kept (fun b => b = w.heap.size) w4 (w4.setCell ⟨w.heap.size, 0, none⟩ (Value.slice A5 (openN (l.drop (ahd t))).length c5)) := Kept.setCell (S := fun b => b = w.heap.size) (Kept.refl _ _) (p := ⟨w.heap.size, 0, none⟩) (fun _ => rfl) _
      have hb5 := hb4.trans (hk5.below (B := w.heap.size) (by omega) (fun k hk => by omega))
      have k0 := setc_same (v := (Value.slice A5 (openN (l.drop (ahd t))).length c5)) d0
      have k1 := (hk5.cell (b := w.heap.size + 1) (o := 0) (by omega) (by omega)).trans d1
      have j0 := (setc_frozen (p := ⟨w.heap.size, 0, none⟩) (v := (Value.slice A5 (openN (l.drop (ahd t))).length c5))).trans g0
      have j1 := (setc_frozen (p := ⟨w.heap.size, 0, none⟩) (v := (Value.slice A5 (openN (l.drop (ahd t))).length c5))).trans g1
      have hs5 := hk5.size
      go_wp2_with fail
      refine leaves_cons (f := 137) (args := #[.pointer (some ⟨w.heap.size, 0, none⟩), .pointer (some ⟨w.heap.size + 1, 0, none⟩)]) (by simp) (by simp [go_sem]) ?_
      refine (HD.out _ hb5 ⟨_, k0⟩ k1 j0 j1 (by omega)).mono ?_
      rintro e u' w5 ⟨rfl, rfl, z0, z1, hb6⟩
      simp [Leaves, settle, mustR, results, Tryz.results105, go_sem, z0, z1]
      have HTg : tgt t l = [] := by unfold tgt; rw [HT.out]; rfl
      exact ⟨hb6, _, ⟨rfl, by rw [HT.out]; rfl⟩, by rw [HTg]; exact World.ownsRow_nil _ _ _ _⟩
  · have HS := Lib.hid hs
    clear hs
    go_wp2_with fail
    refine leaves_cons (f := 137) (args := #[.pointer (some ⟨w.heap.size, 0, none⟩), .pointer (some ⟨w.heap.size + 1, 0, none⟩)]) (by simp) (by simp [go_sem]) ?_
    refine (HD.out w4 hb4 ⟨_, d0⟩ d1 g0 g1 (by omega)).mono ?_
    rintro e u' w5 ⟨rfl, rfl, z0, z1, hb5⟩
    simp [Leaves, settle, mustR, results, Tryz.results105, go_sem, z0, z1]
    have HTg : tgt t l = [] := by unfold tgt; rw [HS.out]; rfl
    exact ⟨hb5, _, ⟨rfl, by rw [HS.out]; rfl⟩, by rw [HTg]; exact World.ownsRow_nil _ _ _ _⟩
end Nm
end Go.Proofs.YthogembgndkmpaaGreatDoor

/- Contracts of package rdata: the reading of a SOA. -/
namespace Go.Proofs.YthogembgndkmpaaGreatDoor
open Go.RowKit
namespace Nm
/-- where a SOA's numbers begin -/
def soaK (l : Lab) : Nat := openK l + openK (l.drop (openK l))
def soaM (l : Lab) : SoaM := ⟨openN l, openN (l.drop (openK l)), numOf ((l.drop (soaK l)).take 4) 0, numOf ((l.drop (soaK l + 4)).take 4) 0, numOf ((l.drop (soaK l + 8)).take 4) 0, numOf ((l.drop (soaK l + 12)).take 4) 0, numOf ((l.drop (soaK l + 16)).take 4) 0⟩
theorem soa_some {l : Lab} {m x : List Lab} {i k : Nat} (h1 : openO l = some (m, i)) (h2 : openO (l.drop i) = some (x, k)) : openN l = m ∧ openK l = i ∧ openN (l.drop i) = x ∧ soaK l = i + k ∧ (soaO l).isSome = decide (l.length = i + k + 20) := by
  obtain ⟨_, _, _, e1, e2⟩ := openO_some h1
  obtain ⟨_, _, _, e3, e4⟩ := openO_some h2
  refine ⟨e1, e2, e3, ?_, ?_⟩
  · unfold soaK
    rw [e2, e4]
  · unfold soaO
    rw [h1]
    simp only []
    rw [h2]
    simp only []
    split <;> simp_all
theorem heap_set {w : World} {g i : Nat} {cs : Array Value} {T : TypeId} {fr : Nat × Nat} {v : Value} (h : w.heap[g]? = some (.cells cs T fr)) : (w.setCell ⟨g, i, none⟩ v).heap[g]? = some (.cells (cs.setIfInBounds i v) T fr) := by
  simp [World.setCell, Array.getElem?_modify, h]
set_option maxRecDepth 100000 in
set_option maxHeartbeats 20000000 in
theorem Soa1 (r : Nat) (A : Option Addr) (l : Lab) (cap : Nat) (w : World) (h : Rdr w r A l cap 0) (hrw : r < w.heap.size) :
    Calls Tryz.prog 110 #[.pointer (some ⟨r, 0, none⟩)] w fun e w' =>
      Kept (fun b => b = r) w w' ∧ ((∃ j Am ca Bx cb, e = .returned ((soaM l).v Am ca Bx cb) ∧ Rdr w' r A l cap j ∧ (soaO l).isSome = decide (j = l.length) ∧
        w'.ownsRow w.heap.size 9 1 (.slice Am (soaM l).m.length ca) (soaM l).m.length ((soaM l).m.map strV) ∧ w'.ownsRow w.heap.size 9 1 (.slice Bx (soaM l).x.length cb) (soaM l).x.length ((soaM l).x.map strV)) ∨ ((soaO l).isSome = false ∧ e = .panicked mustP)) := by
  have hlen := h.len
  have H := Lib.hid h
  clear h
  go_enter Tryz.func110, Tryz.ntmps110
  go_wp2_with fail
  generalize hw1 : w.alloc (.cells #[.slice none 0 0, .slice none 0 0, .int .u32 0, .int .u32 0, .int .u32 0, .int .u32 0, .int .u32 0] 76) = w1
  have hb1 : Below w.heap.size w w1 := by rw [← hw1]; exact (Below.refl _ _).alloc (Nat.le_refl _) _
  have hz1 : w1.heap.size = w.heap.size + 1 := by rw [← hw1]; simp
  have hq1 : w1.heap[w.heap.size]? = some (.cells #[.slice none 0 0, .slice none 0 0, .int .u32 0, .int .u32 0, .int .u32 0, .int .u32 0, .int .u32 0] 76 (0, 0)) := by
    rw [← hw1]; exact heap_alloc_new w _
  have hR1 := H.out.ext hb1
  have hk01 := (Kept.of_ext hb1).mono (S' := fun b => b = r) (fun _ _ h => h.elim)
  clear hw1
  refine (name r A l cap 0 w1 hR1).mono ?_
  rintro e w2 ⟨hk2, ⟨m, i, v2, ho, rfl, hr2, hown2⟩ | ⟨ho, rfl⟩⟩
  · rw [List.drop_zero] at ho
    rw [Nat.zero_add] at hr2
    obtain ⟨Am, ca, rfl, _, _⟩ := Cs.of_own hown2
    have HO1 := Lib.hid ho
    have HW2 := Lib.hid hown2
    have hz2 := hk2.size
    clear ho hown2
    go_wp2_with fail
    refine (name r A l cap i w2 hr2).mono ?_
    rintro e w3 ⟨hk3, ⟨x, k, v3, ho, rfl, hr3, hown3⟩ | ⟨ho, rfl⟩⟩
    · obtain ⟨Bx, cb, rfl, _, _⟩ := Cs.of_own hown3
      obtain ⟨e1, e2, e3, e4, e5⟩ := soa_some HO1.out ho
      have HE1 := Lib.hid e1
      have HE2 := Lib.hid e2
      have HE3 := Lib.hid e3
      have HE4 := Lib.hid e4
      have HE5 := Lib.hid e5
      have HW3 := Lib.hid hown3
      have hz3 := hk3.size
      clear ho hown3 e1 e2 e3 e4 e5 HO1
      go_wp2_with fail
      generalize hkk : i + k = kk at *
      clear hkk
      generalize hw4 : w3.alloc (.cells #[.slice Am m.length ca, .slice Bx x.length cb, .int .u32 0, .int .u32 0, .int .u32 0, .int .u32 0, .int .u32 0] 76) = w4
      have hb4 : Below w3.heap.size w3 w4 := by rw [← hw4]; exact (Below.refl _ _).alloc (Nat.le_refl _) _
      have hz4 : w4.heap.size = w3.heap.size + 1 := by rw [← hw4]; simp
      have hg4 : w4.heap[w3.heap.size]? = some (.cells #[.slice Am m.length ca, .slice Bx x.length cb, .int .u32 0, .int .u32 0, .int .u32 0, .int .u32 0, .int .u32 0] 76 (0, 0)) := by rw [← hw4]; exact heap_alloc_new w3 _
      have hr4 := hr3.ext hb4
      have hq4 := (hb4.block _ (show w.heap.size < w3.heap.size by omega)).trans ((hk3.block _ (show w.heap.size < w2.heap.size by omega) (by omega)).trans ((hk2.block _ (show w.heap.size < w1.heap.size by omega) (by omega)).trans hq1))
      have hk04 := ((hk01.trans hk2).trans hk3).trans ((Kept.of_ext hb4).mono (S' := fun b => b = r) (fun _ _ h => h.elim))
      have HW2' := Lib.hid (own_below (Kept.row HW2.out hk3 (fun b hb => by have := (HW2.out.lt b hb).1; omega)) hb4)
      have HW3' := Lib.hid (own_below HW3.out hb4)
      have hgA : ∀ a, A = some a → l.map byteV ≠ [] → ¬ a.block = w3.heap.size := fun a ha hx => by have := H.out.cs.where ha hx; omega
      have HGA := Lib.hid hgA
      have hgr : ¬ w3.heap.size = r := by omega
      have hwr : ¬ w.heap.size = r := by omega
      have hwg : ¬ w.heap.size = w3.heap.size := by omega
      generalize hg3 : w3.heap.size = g at *
      clear hw4 hr3 hq1 hgA hR1 hr2 hb1 hk01 hk2 hk3 hb4
      by_cases hc1 : kk + 4 ≤ l.length
      · refine (num_yes r A l cap (kk) 4 w4 hr4 hc1).mono ?_
        rintro e wn1 ⟨rfl, hrn1, hkn1⟩
        have hqn1 := (hkn1.block _ (show w.heap.size < w4.heap.size from lt_block hq4) hwr).trans hq4
        have hgn1 := (hkn1.block _ (lt_block hg4) hgr).trans hg4
        have hkk1 := hk04.trans hkn1
        have HA1 := Lib.hid (Kept.row HW2'.out hkn1 (fun b hb hbr => by have := (HW2.out.lt b hb).1; omega))
        have HB1 := Lib.hid (Kept.row HW3'.out hkn1 (fun b hb hbr => by have := (HW3.out.lt b hb).1; omega))
        have HNU1 := numOf_lt ((l.drop (kk)).take 4) 0 (by omega)
        generalize hNE : numOf ((l.drop (kk)).take 4) 0 = n1 at *
        have HNE1 : Hid (numOf ((l.drop (kk + 0)).take 4) 0 = n1) := Lib.hid hNE
        clear hNE
        go_wp2_with fail
        by_cases hc2 : kk + 4 + 4 ≤ l.length
        · refine (num_yes r A l cap (kk + 4) 4 wn1 hrn1 hc2).mono ?_
          rintro e wn2 ⟨rfl, hrn2, hkn2⟩
          have hqn2 := (hkn2.block _ (show w.heap.size < wn1.heap.size from lt_block hqn1) hwr).trans hqn1
          have hgn2 := (hkn2.block _ (lt_block hgn1) hgr).trans hgn1
          have hkk2 := hkk1.trans hkn2
          have HA2 := Lib.hid (Kept.row HA1.out hkn2 (fun b hb hbr => by have := (HW2.out.lt b hb).1; omega))
          have HB2 := Lib.hid (Kept.row HB1.out hkn2 (fun b hb hbr => by have := (HW3.out.lt b hb).1; omega))
          have HNU2 := numOf_lt ((l.drop (kk + 4)).take 4) 0 (by omega)
          generalize hNE : numOf ((l.drop (kk + 4)).take 4) 0 = n2 at *
          have HNE2 : Hid (numOf ((l.drop (kk + 4)).take 4) 0 = n2) := Lib.hid hNE
          clear hNE
          go_wp2_with fail
          by_cases hc3 : kk + 4 + 4 + 4 ≤ l.length
          · refine (num_yes r A l cap (kk + 4 + 4) 4 wn2 hrn2 hc3).mono ?_
            rintro e wn3 ⟨rfl, hrn3, hkn3⟩
            have hqn3 := (hkn3.block _ (show w.heap.size < wn2.heap.size from lt_block hqn2) hwr).trans hqn2
            have hgn3 := (hkn3.block _ (lt_block hgn2) hgr).trans hgn2
            have hkk3 := hkk2.trans hkn3
            have HA3 := Lib.hid (Kept.row HA2.out hkn3 (fun b hb hbr => by have := (HW2.out.lt b hb).1; omega))
            have HB3 := Lib.hid (Kept.row HB2.out hkn3 (fun b hb hbr => by have := (HW3.out.lt b hb).1; omega))
            have HNU3 := numOf_lt ((l.drop (kk + 4 + 4)).take 4) 0 (by omega)
            generalize hNE : numOf ((l.drop (kk + 4 + 4)).take 4) 0 = n3 at *
            have HNE3 : Hid (numOf ((l.drop (kk + 8)).take 4) 0 = n3) := Lib.hid hNE
            clear hNE
            obtain ⟨u0, u1, u2, u3, u4, u5, u6, uf⟩ := cells7 hgn3
            have uf2 := uf 2
            have uf3 := uf 3
            have uf4 := uf 4
            go_wp2_with fail
            clear u0 u1 u2 u3 u4 u5 u6 uf uf2 uf3 uf4
            generalize hw8 : ((wn3.setCell ⟨g, 2, none⟩ (.int .u32 n1)).setCell ⟨g, 3, none⟩ (.int .u32 n2)).setCell ⟨g, 4, none⟩ (.int .u32 n3) = w8
            have hk8 : Kept (fun b => b = g) wn3 w8 := by rw [← hw8]; exact (((Kept.refl (fun b => b = g) _).setCell (p := ⟨g, 2, none⟩) (fun _ => rfl) _).setCell (p := ⟨g, 3, none⟩) (fun _ => rfl) _).setCell (p := ⟨g, 4, none⟩) (fun _ => rfl) _
            have hg8 : w8.heap[g]? = some (.cells #[.slice Am m.length ca, .slice Bx x.length cb, .int .u32 n1, .int .u32 n2, .int .u32 n3, .int .u32 0, .int .u32 0] 76 (0, 0)) := by rw [← hw8]; exact heap_set (heap_set (heap_set hgn3))
            have hq8 := (hk8.block _ (lt_block hqn3) hwg).trans hqn3
            have hr8 := hrn3.kept hk8 (fun h => hgr h.symm) HGA.out
            have hk08 := hkk3.then hk8 (fun b hb h => by omega)
            have HA8 := Lib.hid (Kept.row HA3.out hk8 (fun b hb hbr => by have := (HW2.out.lt b hb).2; omega))
            have HB8 := Lib.hid (Kept.row HB3.out hk8 (fun b hb hbr => by have := (HW3.out.lt b hb).2; omega))
            clear hw8 hqn1 hqn2 hqn3 hgn1 hgn2 hgn3 hrn1 hrn2 hrn3 hk8 hg4 hq4
            by_cases hc4 : kk + 4 + 4 + 4 + 4 ≤ l.length
            · refine (num_yes r A l cap (kk + 4 + 4 + 4) 4 w8 hr8 hc4).mono ?_
              rintro e wn4 ⟨rfl, hrn4, hkn4⟩
              have hqn4 := (hkn4.block _ (show w.heap.size < w8.heap.size from lt_block hq8) hwr).trans hq8
              have hgn4 := (hkn4.block _ (lt_block hg8) hgr).trans hg8
              have hkk4 := hk08.trans hkn4
              have HA4 := Lib.hid (Kept.row HA8.out hkn4 (fun b hb hbr => by have := (HW2.out.lt b hb).1; omega))
              have HB4 := Lib.hid (Kept.row HB8.out hkn4 (fun b hb hbr => by have := (HW3.out.lt b hb).1; omega))
              have HNU4 := numOf_lt ((l.drop (kk + 4 + 4 + 4)).take 4) 0 (by omega)
              generalize hNE : numOf ((l.drop (kk + 4 + 4 + 4)).take 4) 0 = n4 at *
              have HNE4 : Hid (numOf ((l.drop (kk + 12)).take 4) 0 = n4) := Lib.hid hNE
              clear hNE
              go_wp2_with fail
              by_cases hc5 : kk + 4 + 4 + 4 + 4 + 4 ≤ l.length
              · refine (num_yes r A l cap (kk + 4 + 4 + 4 + 4) 4 wn4 hrn4 hc5).mono ?_
                rintro e wn5 ⟨rfl, hrn5, hkn5⟩
                have hqn5 := (hkn5.block _ (show w.heap.size < wn4.heap.size from lt_block hqn4) hwr).trans hqn4
                have hgn5 := (hkn5.block _ (lt_block hgn4) hgr).trans hgn4
                have hkk5 := hkk4.trans hkn5
                have HA5 := Lib.hid (Kept.row HA4.out hkn5 (fun b hb hbr => by have := (HW2.out.lt b hb).1; omega))
                have HB5 := Lib.hid (Kept.row HB4.out hkn5 (fun b hb hbr => by have := (HW3.out.lt b hb).1; omega))
                have HNU5 := numOf_lt ((l.drop (kk + 4 + 4 + 4 + 4)).take 4) 0 (by omega)
                generalize hNE : numOf ((l.drop (kk + 4 + 4 + 4 + 4)).take 4) 0 = n5 at *
                have HNE5 : Hid (numOf ((l.drop (kk + 16)).take 4) 0 = n5) := Lib.hid hNE
                clear hNE
                obtain ⟨u0, u1, u2, u3, u4, u5, u6, uf⟩ := cells7 hgn5
                obtain ⟨q0, q1, q2, q3, q4, q5, q6, qf⟩ := cells7 hqn5
                have uf5 := uf 5
                have uf6 := uf 6
                have qf0 := qf 0
                have qf1 := qf 1
                have qf2 := qf 2
                have qf3 := qf 3
                have qf4 := qf 4
                have qf5 := qf 5
                have qf6 := qf 6
                go_wp2_with fail
                have hkg : Kept (fun b => b = g) wn5 ((wn5.setCell ⟨g, 5, none⟩ (.int .u32 n4)).setCell ⟨g, 6, none⟩ (.int .u32 n5)) := ((Kept.refl (fun b => b = g) wn5).setCell (p := ⟨g, 5, none⟩) (fun _ => rfl) (.int .u32 n4)).setCell (p := ⟨g, 6, none⟩) (fun _ => rfl) (.int .u32 n5)
                have hq10 := (hkg.block _ (lt_block hqn5) hwg).trans hqn5
                have hkw : Kept (fun b => b = w.heap.size) ((wn5.setCell ⟨g, 5, none⟩ (.int .u32 n4)).setCell ⟨g, 6, none⟩ (.int .u32 n5)) (((((((((wn5.setCell ⟨g, 5, none⟩ (.int .u32 n4)).setCell ⟨g, 6, none⟩ (.int .u32 n5)).setCell ⟨w.heap.size, 0, none⟩ (.slice Am m.length ca)).setCell ⟨w.heap.size, 1, none⟩ (.slice Bx x.length cb)).setCell ⟨w.heap.size, 2, none⟩ (.int .u32 n1)).setCell ⟨w.heap.size, 3, none⟩ (.int .u32 n2)).setCell ⟨w.heap.size, 4, none⟩ (.int .u32 n3)).setCell ⟨w.heap.size, 5, none⟩ (.int .u32 n4)).setCell ⟨w.heap.size, 6, none⟩ (.int .u32 n5)) := ((((((((Kept.refl (fun b => b = w.heap.size) _).setCell (p := ⟨w.heap.size, 0, none⟩) (fun _ => rfl) (.slice Am m.length ca)).setCell (p := ⟨w.heap.size, 1, none⟩) (fun _ => rfl) (.slice Bx x.length cb)).setCell (p := ⟨w.heap.size, 2, none⟩) (fun _ => rfl) (.int .u32 n1)).setCell (p := ⟨w.heap.size, 3, none⟩) (fun _ => rfl) (.int .u32 n2)).setCell (p := ⟨w.heap.size, 4, none⟩) (fun _ => rfl) (.int .u32 n3)).setCell (p := ⟨w.heap.size, 5, none⟩) (fun _ => rfl) (.int .u32 n4)).setCell (p := ⟨w.heap.size, 6, none⟩) (fun _ => rfl) (.int .u32 n5))
                have hq11 : (((((((((wn5.setCell ⟨g, 5, none⟩ (.int .u32 n4)).setCell ⟨g, 6, none⟩ (.int .u32 n5)).setCell ⟨w.heap.size, 0, none⟩ (.slice Am m.length ca)).setCell ⟨w.heap.size, 1, none⟩ (.slice Bx x.length cb)).setCell ⟨w.heap.size, 2, none⟩ (.int .u32 n1)).setCell ⟨w.heap.size, 3, none⟩ (.int .u32 n2)).setCell ⟨w.heap.size, 4, none⟩ (.int .u32 n3)).setCell ⟨w.heap.size, 5, none⟩ (.int .u32 n4)).setCell ⟨w.heap.size, 6, none⟩ (.int .u32 n5)).heap[w.heap.size]? = some (.cells #[.slice Am m.length ca, .slice Bx x.length cb, .int .u32 n1, .int .u32 n2, .int .u32 n3, .int .u32 n4, .int .u32 n5] 76 (0, 0)) := (heap_set (heap_set (heap_set (heap_set (heap_set (heap_set (heap_set hq10)))))))
                generalize (((((((((wn5.setCell ⟨g, 5, none⟩ (.int .u32 n4)).setCell ⟨g, 6, none⟩ (.int .u32 n5)).setCell ⟨w.heap.size, 0, none⟩ (.slice Am m.length ca)).setCell ⟨w.heap.size, 1, none⟩ (.slice Bx x.length cb)).setCell ⟨w.heap.size, 2, none⟩ (.int .u32 n1)).setCell ⟨w.heap.size, 3, none⟩ (.int .u32 n2)).setCell ⟨w.heap.size, 4, none⟩ (.int .u32 n3)).setCell ⟨w.heap.size, 5, none⟩ (.int .u32 n4)).setCell ⟨w.heap.size, 6, none⟩ (.int .u32 n5)) = w11 at *
                have hrF := (hrn5.kept hkg (fun h => hgr h.symm) HGA.out).kept hkw (fun h => hwr h.symm) (fun a ha hx => by have := H.out.cs.where ha hx; omega)
                have hkF := (hkk5.then hkg (fun b hb h => by omega)).then hkw (fun b hb h => by omega)
                have HAF := own_base (Kept.row (Kept.row HA5.out hkg (fun b hb hbr => by have := (HW2.out.lt b hb).2; omega)) hkw (fun b hb hbr => by have := (HW2.out.lt b hb).1; omega)) (show w.heap.size ≤ w1.heap.size by omega)
                have HBF := own_base (Kept.row (Kept.row HB5.out hkg (fun b hb hbr => by have := (HW3.out.lt b hb).2; omega)) hkw (fun b hb hbr => by have := (HW3.out.lt b hb).1; omega)) (show w.heap.size ≤ w2.heap.size by omega)
                obtain ⟨z0, z1, z2, z3, z4, z5, z6, _⟩ := cells7 hq11
                have hM : soaM l = ⟨m, x, n1, n2, n3, n4, n5⟩ := by
                  unfold soaM
                  rw [HE1.out, HE2.out, HE3.out, HE4.out, HNE2.out, HNE3.out, HNE4.out, HNE5.out, show (l.drop kk).take 4 = (l.drop (kk + 0)).take 4 from rfl, HNE1.out]
                rw [hM]
                refine bodyPost_ret (v := .agg #[.slice Am m.length ca, .slice Bx x.length cb, .int .u32 n1, .int .u32 n2, .int .u32 n3, .int .u32 n4, .int .u32 n5]) ?_ rfl ⟨hkF, .inl ⟨_, Am, ca, Bx, cb, rfl, hrF, ?_, HAF, HBF⟩⟩
                · simp [results, Tryz.results110, go_sem, z0, z1, z2, z3, z4, z5, z6]
                · rw [HE5.out, Bool.eq_iff_iff]
                  simp
                  omega
              · refine (num_no r A l cap (kk + 4 + 4 + 4 + 4) 4 wn4 hrn4 hc5 (by omega)).mono ?_
                rintro e wx ⟨rfl, hkx⟩
                have HN : Hid ((soaO l).isSome = false) := Lib.hid (by rw [HE5.out]; simp; omega)
                go_wp2_with fail
                exact ⟨rfl, hkk4.trans hkx, .inr ⟨HN.out, rfl⟩⟩
            · refine (num_no r A l cap (kk + 4 + 4 + 4) 4 w8 hr8 hc4 (by omega)).mono ?_
              rintro e wx ⟨rfl, hkx⟩
              have HN : Hid ((soaO l).isSome = false) := Lib.hid (by rw [HE5.out]; simp; omega)
              go_wp2_with fail
              exact ⟨rfl, hk08.trans hkx, .inr ⟨HN.out, rfl⟩⟩
          · refine (num_no r A l cap (kk + 4 + 4) 4 wn2 hrn2 hc3 (by omega)).mono ?_
            rintro e wx ⟨rfl, hkx⟩
            have HN : Hid ((soaO l).isSome = false) := Lib.hid (by rw [HE5.out]; simp; omega)
            go_wp2_with fail
            exact ⟨rfl, hkk2.trans hkx, .inr ⟨HN.out, rfl⟩⟩
        · refine (num_no r A l cap (kk + 4) 4 wn1 hrn1 hc2 (by omega)).mono ?_
          rintro e wx ⟨rfl, hkx⟩
          have HN : Hid ((soaO l).isSome = false) := Lib.hid (by rw [HE5.out]; simp; omega)
          go_wp2_with fail
          exact ⟨rfl, hkk1.trans hkx, .inr ⟨HN.out, rfl⟩⟩
      · refine (num_no r A l cap (kk) 4 w4 hr4 hc1 (by omega)).mono ?_
        rintro e wx ⟨rfl, hkx⟩
        have HN : Hid ((soaO l).isSome = false) := Lib.hid (by rw [HE5.out]; simp; omega)
        go_wp2_with fail
        exact ⟨rfl, hk04.trans hkx, .inr ⟨HN.out, rfl⟩⟩
    · have HO := Lib.hid ho
      clear ho
      go_wp2_with fail
      refine ⟨rfl, (hk01.trans hk2).trans hk3, .inr ⟨?_, rfl⟩⟩
      unfold soaO
      rw [HO1.out]
      simp only []
      rw [HO.out]
      rfl
  · have HO := Lib.hid ho
    clear ho
    go_wp2_with fail
    refine ⟨rfl, hk01.trans hk2, .inr ⟨?_, rfl⟩⟩
    have := HO.out
    rw [List.drop_zero] at this
    unfold soaO
    rw [this]
    rfl
end Nm
end Go.Proofs.YthogembgndkmpaaGreatDoor

/- Contracts of package rdata: Target, Canon at all types but SOA, RRSIG, DNSKEY, NSEC3. -/
namespace Go.Proofs.YthogembgndkmpaaGreatDoor
open Go.RowKit
namespace Nm
theorem isN_bools {t : Int} (ht : isN t) : (t == 2) = true ∨ (t == 2) = false ∧ (t == 5) = true ∨ (t == 2) = false ∧ (t == 5) = false ∧ (t == 15) = true := by
  rcases ht with rfl | rfl | rfl
  · exact .inl rfl
  · exact .inr (.inl ⟨rfl, rfl⟩)
  · exact .inr (.inr ⟨rfl, rfl, rfl⟩)
set_option maxRecDepth 100000 in
set_option maxHeartbeats 2000000 in
theorem Target (t : Int) (ht : isN t) (A : Option Addr) (l : Lab) (cap : Nat) (w : World) (hc : Cs w A (l.map byteV)) (hl : l.length ≤ 100000) (hcap : l.length ≤ cap) (hcap2 : cap ≤ maxLen) :
    Calls Tryz.prog 86 #[.int .u16 t, .slice A l.length cap] w fun e w' =>
      Below w.heap.size w w' ∧ ∃ v, e = .returned (.tuple #[v, .int .i64 (code50 (shp t l))]) ∧ w'.ownsRow w.heap.size 9 1 v (tgt t l).length ((tgt t l).map strV) := by
  have hmf : ∀ (fn : Fn) (first cap : Array Value) (w : World), (Instr.makeFunc fn first cap).run Tryz.prog w = .ok (.func fn first cap) w := fun _ _ _ _ => rfl
  have hb1 : Below w.heap.size w (w.alloc (.cells #[.int .u16 t] 27)) := (Below.refl _ _).alloc (Nat.le_refl _) _
  have hr := readN ⟨w.heap.size, 0, none⟩ t ht A l cap (w.alloc (.cells #[.int .u16 t] 27)) (by simp [go_sem]) (by simp) rfl (hc.below hb1) hl hcap hcap2
  have HR := Lib.hid hr
  have hbs := isN_bools ht
  clear hr hc ht
  rcases hbs with h1 | ⟨h1, h2⟩ | ⟨h1, h2, h3⟩
  all_goals
    go_enter Tryz.func86, Tryz.ntmps86
    go_wp2_with fail
    refine HR.out.mono ?_
    rintro e w2 ⟨hb2, v, rfl, hown⟩
    go_wp2_with fail
    go_ret2
    exact ⟨hb1.trans (hb2.mono (by simp)), _, rfl, own_base hown (by simp)⟩
/-- what rdata.Canon hands back -/
def canonR (t : Int) (l : Lab) : Lab := if chk t l then canonO t l else []
theorem canonR_yes {t : Int} {l : Lab} (h : chk t l = true) : canonR t l = canonO t l := by unfold canonR; rw [h]; rfl
theorem canonR_no {t : Int} {l : Lab} (h : chk t l = false) : canonR t l = [] := by unfold canonR; rw [h]; rfl
theorem canonO_name {t : Int} (ht : isN t) (l : Lab) : canonO t l = l.take (ahd t) ++ wire (lower (openN (l.drop (ahd t)))) := by
  rcases ht with rfl | rfl | rfl
  · rfl
  · rfl
  · rfl
theorem shp_of_chk {t : Int} (h1 : t ≠ 6) (h2 : t ≠ 46) (h3 : t ≠ 48) {l : Lab} (h : chk t l = true) : shp t l = true ∧ l.length ≤ 8192 := by
  rw [chk_shp h1 h2 h3] at h
  simp at h
  exact ⟨h.2, h.1⟩
theorem openN_small (b : Lab) : Small (openN b) := by
  cases hO : openO b with
  | none => rw [(openO_none hO).2.1]; exact ⟨by simp, by simp⟩
  | some p =>
    obtain ⟨n, k⟩ := p
    obtain ⟨_, h2, _, h4, _⟩ := openO_some hO
    obtain ⟨g1, g2, g3, g4⟩ := openO_le hO
    rw [h4]
    exact ⟨by omega, fun l hl => by have := (g3 l hl).2; omega⟩
theorem wire_small {n : List Lab} (h : Small n) : (wire n).length ≤ 1001001 := by
  have := wires_few h
  unfold wire; simp; omega
set_option maxRecDepth 100000 in
set_option maxHeartbeats 4000000 in
theorem CanonN (t : Int) (ht : isN t) (A : Option Addr) (l : Lab) (cap : Nat) (w : World) (hc : Cs w A (l.map byteV)) (hl : l.length ≤ 100000) (hcap : l.length ≤ cap) (hcap2 : cap ≤ maxLen) :
    Calls Tryz.prog 63 #[.int .u16 t, .slice A l.length cap] w fun e w' =>
      Below w.heap.size w w' ∧ ∃ v, e = .returned (.tuple #[v, .int .i64 (code50 (chk t l))]) ∧ w'.ownsRow w.heap.size 5 1 v (canonR t l).length ((canonR t l).map byteV) := by
  have q1 : t ≠ 6 := by rcases ht with rfl | rfl | rfl <;> decide
  have q2 : t ≠ 46 := by rcases ht with rfl | rfl | rfl <;> decide
  have q3 : t ≠ 48 := by rcases ht with rfl | rfl | rfl <;> decide
  have q4 : t ≠ 50 := by rcases ht with rfl | rfl | rfl <;> decide
  have hC := CheckS t A l cap w q1 q2 q3 q4 hc hl hcap hcap2
  have HC := Lib.hid hC
  clear hC
  cases hk : chk t l with
  | false =>
    have HE := Lib.hid (canonR_no hk)
    have HK := Lib.hid hk
    clear hk hc
    rw [HK.out] at HC
    go_enter Tryz.func63, Tryz.ntmps63
    go_wp2_with fail
    refine HC.out.mono ?_
    rintro e w1 ⟨hb1, rfl⟩
    unfold code50
    go_wp2_with fail
    go_ret2
    exact ⟨hb1, _, rfl, by rw [HE.out]; exact World.ownsRow_nil _ _ _ _⟩
  | true =>
    obtain ⟨hs, hl8⟩ := shp_of_chk q1 q2 q3 hk
    have HE := Lib.hid ((canonR_yes hk).trans (canonO_name ht l))
    have HTg : Hid (tgt t l = openN (l.drop (ahd t))) := Lib.hid (by unfold tgt; rw [hs]; rfl)
    have hsm := openN_small (l.drop (ahd t))
    have HK := Lib.hid hk
    have hbs := isN_bools ht
    have ha2 : ahd t ≤ l.length := by
      have := shp_name ht l
      rw [hs] at this
      simp at this
      exact this.1
    have hC2 : Cs w A ((l.take (ahd t)).map byteV) := by rw [List.map_take]; exact hc.take' _
    have HT : Hid (∀ W, Below w.heap.size w W → Calls Tryz.prog 86 #[.int .u16 t, .slice A l.length cap] W fun e w' =>
      Below W.heap.size W w' ∧ ∃ v, e = .returned (.tuple #[v, .int .i64 (code50 (shp t l))]) ∧ w'.ownsRow W.heap.size 9 1 v (tgt t l).length ((tgt t l).map strV)) := Lib.hid fun W hW => Target t ht A l cap W (hc.below hW) hl hcap hcap2
    rw [HK.out] at HC
    rw [hs, HTg.out] at HT
    have HC2 := Lib.hid hC2
    have htl : (l.take (ahd t)).length = ahd t := by rw [List.length_take]; omega
    have HTL := Lib.hid htl
    have HA : Hid (∀ W, Calls Tryz.prog 88 #[.int .u16 t] W fun e w' => e = .returned (.int .i64 (ahd t)) ∧ W = w') := Lib.hid (ahead t)
    have HE2 : Hid (canonR t l = l.take (ahd t) ++ wire (lower (openN (l.drop (ahd t))))) := HE
    clear hk hs ht hc HE hC2 htl HTg q1 q2 q3 q4
    generalize canonR t l = cr at *
    generalize openN (l.drop (ahd t)) = nm at *
    generalize hpre : l.take (ahd t) = pr at *
    clear hpre
    generalize ahd t = a at *
    unfold maxLen at hcap2
    unfold code50 at *
    rcases hbs with h1 | ⟨h1, h2⟩ | ⟨h1, h2, h3⟩
    all_goals
      go_enter Tryz.func63, Tryz.ntmps63
      go_wp2_with fail
      refine HC.out.mono ?_
      rintro e w1 ⟨hb1, rfl⟩
      go_wp2_with fail
      refine (HT.out w1 hb1).mono ?_
      rintro e w2 ⟨hb2, v, rfl, hown⟩
      obtain ⟨A5, c5, rfl, _, hcs5⟩ := Cs.of_own hown
      have hb12 := hb1.trans (hb2.mono hb1.size)
      clear hown
      have HCS := Lib.hid hcs5
      clear hcs5
      go_wp2_with fail
      refine (HA.out _).mono ?_
      rintro e w3 ⟨rfl, rfl⟩
      have hcl := CloneB A pr cap w2 (HC2.out.below hb12) (by rw [HTL.out]; omega)
      rw [HTL.out] at hcl
      go_wp2_with fail
      refine hcl.mono ?_
      rintro e w3 ⟨v3, rfl, hown3, hb3⟩
      have hb123 := hb12.trans (hb3.mono hb12.size)
      go_wp2_with fail
      refine (Lower A5 nm c5 w3 (HCS.out.below hb3) hsm.few).mono ?_
      rintro e w4 ⟨v4, rfl, hown4, hb4⟩
      obtain ⟨A6, c6, rfl, _, hcs6⟩ := Cs.of_own hown4
      have hb1234 := hb123.trans (hb4.mono hb123.size)
      have hown34 := own_below hown3 hb4
      have HCS6 : Hid (Cs w4 A6 ((lower nm).map strV)) := Lib.hid (by exact hcs6)
      have hll : (lower nm).length = nm.length := lower_len nm
      have hwi := Wire A6 (lower nm) c6 w4 HCS6.out hsm.lower
      rw [hll] at hwi
      have HWI := Lib.hid hwi
      have hwl := wire_small hsm.lower
      clear hcs6 hwi hll hown3 hown4
      go_wp2_with fail
      refine HWI.out.mono ?_
      rintro e w5 ⟨v5, rfl, hown5, hb5⟩
      obtain ⟨A7, c7, rfl, _, hcs7⟩ := Cs.of_own hown5
      have hb12345 := hb1234.trans (hb5.mono hb1234.size)
      have hown35 := own_below hown34 hb5
      have hz1 := hb12.size
      have hz2 := hb12345.size
      have hz3 := hb123.size
      have hz4 := hb1234.size
      clear hown5 hown34
      have HCS7 := Lib.hid hcs7
      clear hcs7
      generalize wire (lower nm) = wl at *
      have hown36 := own_base hown35 hz1
      clear hown35
      go_wp2_with (first | (at_builtin; refine wpList_bytes hown36 hz2 HCS7.out rfl _ _ Tryz.underlying28 rfl rfl rfl (by omega) ?_; intro v8 w8 hown8 hbw8; have hbw9 := hb12345.trans hbw8))
      go_ret2
      refine ⟨hbw9, _, rfl, ?_⟩
      rw [HE2.out, List.length_append, HTL.out]
      exact hown8
set_option maxRecDepth 100000 in
set_option maxHeartbeats 4000000 in
theorem CanonP (t : Int) (p1 : t ≠ 2) (p2 : t ≠ 5) (p3 : t ≠ 15) (q1 : t ≠ 6) (q2 : t ≠ 46) (q3 : t ≠ 48) (q4 : t ≠ 50) (A : Option Addr) (l : Lab) (cap : Nat) (w : World) (hc : Cs w A (l.map byteV)) (hl : l.length ≤ 100000) (hcap : l.length ≤ cap) (hcap2 : cap ≤ maxLen) :
    Calls Tryz.prog 63 #[.int .u16 t, .slice A l.length cap] w fun e w' =>
      Below w.heap.size w w' ∧ ∃ v, e = .returned (.tuple #[v, .int .i64 (code50 (chk t l))]) ∧ w'.ownsRow w.heap.size 5 1 v (canonR t l).length ((canonR t l).map byteV) := by
  have hC := CheckS t A l cap w q1 q2 q3 q4 hc hl hcap hcap2
  have HC := Lib.hid hC
  have b1 : (t == 2) = false := by simpa using p1
  have b2 : (t == 5) = false := by simpa using p2
  have b3 : (t == 15) = false := by simpa using p3
  have b4 : (t == 6) = false := by simpa using q1
  have b5 : (t == 46) = false := by simpa using q2
  clear hC
  cases hk : chk t l with
  | false =>
    have HE := Lib.hid (canonR_no hk)
    have HK := Lib.hid hk
    clear hk hc
    rw [HK.out] at HC
    go_enter Tryz.func63, Tryz.ntmps63
    go_wp2_with fail
    refine HC.out.mono ?_
    rintro e w1 ⟨hb1, rfl⟩
    unfold code50
    go_wp2_with fail
    go_ret2
    exact ⟨hb1, _, rfl, by rw [HE.out]; exact World.ownsRow_nil _ _ _ _⟩
  | true =>
    have HE : Hid (canonR t l = l) := Lib.hid ((canonR_yes hk).trans (by
      unfold canonO
      rw [if_neg (fun h => h.elim p1 p2), if_neg p3, if_neg q1, if_neg q2]))
    have HK := Lib.hid hk
    clear hk
    rw [HK.out] at HC
    have HCs := Lib.hid hc
    clear hc p1 p2 p3 q1 q2 q3 q4
    unfold code50 at *
    go_enter Tryz.func63, Tryz.ntmps63
    go_wp2_with fail
    refine HC.out.mono ?_
    rintro e w1 ⟨hb1, rfl⟩
    go_wp2_with fail
    refine (CloneB A l cap w1 (HCs.out.below hb1) (by omega)).mono ?_
    rintro e w3 ⟨v3, rfl, hown3, hb3⟩
    go_wp2_with fail
    go_ret2
    exact ⟨hb1.trans (hb3.mono hb1.size), _, rfl, by rw [HE.out]; exact own_base hown3 hb1.size⟩
end Nm
end Go.Proofs.YthogembgndkmpaaGreatDoor

/- Contracts of package rdata: read[Soa], Soa. -/
namespace Go.Proofs.YthogembgndkmpaaGreatDoor
open Go.RowKit
namespace Nm
set_option maxHeartbeats 4000000 in
theorem set7 {w : World} {a : Nat} {y0 y1 y2 y3 y4 y5 y6 : Value} {T : TypeId} (h : w.heap[a]? = some (.cells #[y0, y1, y2, y3, y4, y5, y6] T (0, 0))) (v0 v1 v2 v3 v4 v5 v6 : Value) {w' : World} (hw : w' = (((((((w.setCell ⟨a, 0, none⟩ v0).setCell ⟨a, 1, none⟩ v1).setCell ⟨a, 2, none⟩ v2).setCell ⟨a, 3, none⟩ v3).setCell ⟨a, 4, none⟩ v4).setCell ⟨a, 5, none⟩ v5).setCell ⟨a, 6, none⟩ v6)) :
    w'.heap[a]? = some (.cells #[v0, v1, v2, v3, v4, v5, v6] T (0, 0)) ∧ Kept (fun k => k = a) w w' := by
  subst hw
  exact ⟨(heap_set (heap_set (heap_set (heap_set (heap_set (heap_set (heap_set h))))))), ((((((((Kept.refl (fun k => k = a) w).setCell (p := ⟨a, 0, none⟩) (fun _ => rfl) v0).setCell (p := ⟨a, 1, none⟩) (fun _ => rfl) v1).setCell (p := ⟨a, 2, none⟩) (fun _ => rfl) v2).setCell (p := ⟨a, 3, none⟩) (fun _ => rfl) v3).setCell (p := ⟨a, 4, none⟩) (fun _ => rfl) v4).setCell (p := ⟨a, 5, none⟩) (fun _ => rfl) v5).setCell (p := ⟨a, 6, none⟩) (fun _ => rfl) v6)⟩
set_option maxRecDepth 100000 in
set_option maxHeartbeats 4000000 in
theorem readS1_panic (a b : Nat) (y0 y1 y2 y3 y4 y5 y6 x1 : Value) (w : World) (h0 : w.heap[a]? = some (.cells #[y0, y1, y2, y3, y4, y5, y6] 76 (0, 0))) (h1 : w.cell? ⟨b, 0, none⟩ = some x1)
    (f1 : w.frozen? ⟨b, 0, none⟩ = false) (l0 : a < w.heap.size) (l1 : b < w.heap.size) (hab : a < b) :
    CallsD Tryz.prog 139 #[.pointer (some ⟨a, 0, none⟩), .pointer (some ⟨b, 0, none⟩)] (.panicking mustP) w fun e u' w' =>
      e = .returned (.tuple #[]) ∧ u' = mustR ∧ w'.heap[a]? = some (.cells #[.slice none 0 0, .slice none 0 0, .int .u32 0, .int .u32 0, .int .u32 0, .int .u32 0, .int .u32 0] 76 (0, 0)) ∧ w'.cell? ⟨b, 0, none⟩ = some (.int .i64 50) ∧ Below a w w' := by
  have hta := asserted_must
  obtain ⟨g0, g1, g2, g3, g4, g5, g6, gf⟩ := cells7 h0
  have gf0 := gf 0
  have gf1 := gf 1
  have gf2 := gf 2
  have gf3 := gf 3
  have gf4 := gf 4
  have gf5 := gf 5
  have gf6 := gf 6
  refine callsD_of_wpS Tryz.func139 rfl fun c₀ cs hu => ?_
  apply wpS_seq
  apply wpS_region
  simp [wpOpsS, go_sem, recoverD, mustP, hu, Tryz.ntmps139, Exit.thenS]
  refine wpS_of_wp ?_
  simp only [Array.replicate_succ, Array.replicate_zero, List.push_toArray, List.append_toArray, List.nil_append, List.cons_append, List.setIfInBounds_toArray, List.set_cons_succ, List.set_cons_zero]
  have n0 : ¬ a = w.heap.size := by omega
  have n1 : ¬ b = w.heap.size := by omega
  have m0 : ¬ w.heap.size = a := by omega
  have m1 : ¬ w.heap.size = b := by omega
  have n2 : ¬ a = w.heap.size + 1 := by omega
  have n3 : ¬ b = w.heap.size + 1 := by omega
  have m2 : ¬ w.heap.size + 1 = a := by omega
  have m3 : ¬ w.heap.size + 1 = b := by omega
  have d0 : ¬ a = b := by omega
  have d1 : ¬ b = a := by omega
  go_wp2_with fail
  obtain ⟨z0, hk⟩ := set7 h0 (.slice none 0 0) (.slice none 0 0) (.int .u32 0) (.int .u32 0) (.int .u32 0) (.int .u32 0) (.int .u32 0) rfl
  have z1 := setc_same (v := .int .i64 50) ((hk.cell (o := 0) l1 (by omega)).trans h1)
  have hs := hk.size
  have hk2 := hk.setCell (S := fun k => k = a) (p := ⟨b, 0, none⟩)
  have z2 : ((World.setCell (((((((w.setCell ⟨a, 0, none⟩ (.slice none 0 0)).setCell ⟨a, 1, none⟩ (.slice none 0 0)).setCell ⟨a, 2, none⟩ (.int .u32 0)).setCell ⟨a, 3, none⟩ (.int .u32 0)).setCell ⟨a, 4, none⟩ (.int .u32 0)).setCell ⟨a, 5, none⟩ (.int .u32 0)).setCell ⟨a, 6, none⟩ (.int .u32 0)) ⟨b, 0, none⟩ (.int .i64 50))).heap[a]? = some (.cells #[.slice none 0 0, .slice none 0 0, .int .u32 0, .int .u32 0, .int .u32 0, .int .u32 0, .int .u32 0] 76 (0, 0)) :=
    (Below.heap_setCell _ _ _ _ (show a ≠ b by omega)).trans z0
  have hB := ((hk.below (B := a) (by omega) (fun k hk => by omega)).setCell (p := ⟨b, 0, none⟩) (show a ≤ b by omega) (.int .i64 50))
  have hBs := hB.size
  clear hk2 z0 hk
  generalize (World.setCell (((((((w.setCell ⟨a, 0, none⟩ (.slice none 0 0)).setCell ⟨a, 1, none⟩ (.slice none 0 0)).setCell ⟨a, 2, none⟩ (.int .u32 0)).setCell ⟨a, 3, none⟩ (.int .u32 0)).setCell ⟨a, 4, none⟩ (.int .u32 0)).setCell ⟨a, 5, none⟩ (.int .u32 0)).setCell ⟨a, 6, none⟩ (.int .u32 0)) ⟨b, 0, none⟩ (.int .i64 50)) = W at *
  have la : a < W.heap.size := by omega
  exact ⟨rfl, _, rfl, _, results_none rfl _ _ _, rfl, rfl, (Below.heap_alloc _ _ _ (by simp; omega)).trans ((Below.heap_alloc _ _ _ la).trans z2), alloc_cell _ (alloc_cell _ z1), (hB.alloc (by omega) _).alloc (by simp; omega) _⟩
theorem readS1_idle (a b : Addr) (w : World) : CallsD Tryz.prog 139 #[.pointer (some a), .pointer (some b)] .returning w fun e u' w' => e = .returned (.tuple #[]) ∧ u' = .returning ∧ w' = w := by
  refine callsD_of_wpS Tryz.func139 rfl fun c₀ cs hu => ?_
  apply wpS_seq
  apply wpS_region
  simp [wpOpsS, go_sem, recoverD, hu, Tryz.ntmps139, Exit.thenS]
  refine wpS_of_wp ?_
  simp only [Array.replicate_succ, Array.replicate_zero, List.push_toArray, List.append_toArray, List.nil_append, List.cons_append, List.setIfInBounds_toArray, List.set_cons_succ, List.set_cons_zero]
  go_wp2_with fail
  exact ⟨rfl, .returning, by cases c₀; simp_all, _, results_none rfl _ _ _, rfl, rfl, rfl⟩
def soaB (l : Lab) : Bool := (soaO l).isSome
def SoaPost (w w' : World) (l : Lab) (v : Value) : Prop := (soaB l = false → v = .agg #[.slice none 0 0, .slice none 0 0, .int .u32 0, .int .u32 0, .int .u32 0, .int .u32 0, .int .u32 0]) ∧ (soaB l = true → ∃ Am ca Bx cb, v = (soaM l).v Am ca Bx cb ∧
  w'.ownsRow w.heap.size 9 1 (.slice Am (soaM l).m.length ca) (soaM l).m.length ((soaM l).m.map strV) ∧ w'.ownsRow w.heap.size 9 1 (.slice Bx (soaM l).x.length cb) (soaM l).x.length ((soaM l).x.map strV))
set_option maxRecDepth 100000 in
set_option maxHeartbeats 4000000 in
theorem readS (A : Option Addr) (l : Lab) (cap : Nat) (w : World) (hc : Cs w A (l.map byteV)) (hl : l.length ≤ 100000) (hcap : l.length ≤ cap) (hcap2 : cap ≤ maxLen) :
    Calls Tryz.prog 109 #[.slice A l.length cap, .func (.func 110) #[] #[]] w fun e w' =>
      Below w.heap.size w w' ∧ ∃ v, e = .returned (.tuple #[v, .int .i64 (code50 (soaB l))]) ∧ SoaPost w w' l v := by
  have hmf : ∀ (fn : Fn) (first cap : Array Value) (w : World), (Instr.makeFunc fn first cap).run Tryz.prog w = .ok (.func fn first cap) w := fun _ _ _ _ => rfl
  go_enter_defers Tryz.func109, Tryz.ntmps109
  go_wp2_with fail
  generalize hw3 : ((w.alloc (.cells #[.slice none 0 0, .slice none 0 0, .int .u32 0, .int .u32 0, .int .u32 0, .int .u32 0, .int .u32 0] 76)).alloc (.cells #[.int .i64 0] 90)).alloc (.cells #[.slice A l.length cap, .int .i64 0] 180) = w3
  have hb3 : Below w.heap.size w w3 := by rw [← hw3]; exact (((Below.refl _ _).alloc (Nat.le_refl _) _).alloc (by simp) _).alloc (by simp; omega) _
  have hsz3 : w3.heap.size = w.heap.size + 3 := by rw [← hw3]; simp
  have q3 : w3.heap[w.heap.size]? = some (.cells #[.slice none 0 0, .slice none 0 0, .int .u32 0, .int .u32 0, .int .u32 0, .int .u32 0, .int .u32 0] 76 (0, 0)) := by
    rw [← hw3]
    rw [Below.heap_alloc _ _ _ (by simp; omega), Below.heap_alloc _ _ _ (by simp)]
    exact heap_alloc_new w _
  have c1 : w3.cell? ⟨w.heap.size + 1, 0, none⟩ = some (.int .i64 0) := by rw [← hw3]; simp [go_sem]
  have f1 : w3.frozen? ⟨w.heap.size + 1, 0, none⟩ = false := by rw [← hw3]; simp [go_sem]
  have hR : Rdr w3 (w.heap.size + 1 + 1) A l cap 0 := by
    refine ⟨by rw [← hw3]; simp [go_sem], by rw [← hw3]; simp [go_sem], by rw [← hw3]; simp [go_sem], by omega, hc.below hb3, ?_, hl, hcap, hcap2, Nat.zero_le _⟩
    intro a ha hx
    have := hc.where ha hx
    omega
  clear hw3
  refine (Soa1 (w.heap.size + 1 + 1) A l cap w3 hR (by omega)).mono ?_
  rintro e w4 ⟨hk4, hcase⟩
  have q4 := (hk4.block _ (show w.heap.size < w3.heap.size by omega) (by omega)).trans q3
  have d1 := (hk4.cell (b := w.heap.size + 1) (o := 0) (by omega) (by omega)).trans c1
  have g1 := (hk4.frozen (b := w.heap.size + 1) (o := 0) (by omega) (by omega)).trans f1
  have hsz4 := hk4.size
  have hb4 : Below w.heap.size w w4 := hb3.trans (hk4.below (by omega) (fun k hk => by omega))
  clear c1 f1 hR q3 hk4
  have door : ∀ (y0 y1 y2 y3 y4 y5 y6 : Value) (W : World), Below w.heap.size w W → W.heap[w.heap.size]? = some (.cells #[y0, y1, y2, y3, y4, y5, y6] 76 (0, 0)) → W.cell? ⟨w.heap.size + 1, 0, none⟩ = some (.int .i64 0) → W.frozen? ⟨w.heap.size + 1, 0, none⟩ = false → w.heap.size + 3 ≤ W.heap.size →
      CallsD Tryz.prog 139 #[.pointer (some ⟨w.heap.size, 0, none⟩), .pointer (some ⟨w.heap.size + 1, 0, none⟩)] (.panicking mustP) W fun e u' w' =>
      e = .returned (.tuple #[]) ∧ u' = mustR ∧ w'.heap[w.heap.size]? = some (.cells #[.slice none 0 0, .slice none 0 0, .int .u32 0, .int .u32 0, .int .u32 0, .int .u32 0, .int .u32 0] 76 (0, 0)) ∧ w'.cell? ⟨w.heap.size + 1, 0, none⟩ = some (.int .i64 50) ∧ Below w.heap.size w w' := fun y0 y1 y2 y3 y4 y5 y6 W hb k0 k1 j1 hs =>
    (readS1_panic w.heap.size (w.heap.size + 1) _ _ _ _ _ _ _ _ W k0 k1 j1 (by omega) (by omega) (by omega)).mono fun e u' w' ⟨h1, h2, h3, h4, h5⟩ => ⟨h1, h2, h3, h4, hb.trans h5⟩
  have HD := Lib.hid door
  clear door
  obtain ⟨M, X, n1, n2, n3, n4, n5, hsm⟩ : ∃ M X n1 n2 n3 n4 n5, soaM l = ⟨M, X, n1, n2, n3, n4, n5⟩ := ⟨_, _, _, _, _, _, _, rfl⟩
  rw [hsm] at hcase
  unfold SoaM.v at hcase
  simp only at hcase
  have HSM := Lib.hid hsm
  clear hsm
  have HSO : Hid ((soaO l).isSome = soaB l) := Lib.hid rfl
  rw [HSO.out] at hcase
  have n0 : ¬ w.heap.size = w.heap.size + 1 := by omega
  have nn1 : ¬ w.heap.size = w.heap.size + 1 + 1 := by omega
  have nn2 : ¬ w.heap.size + 1 = w.heap.size := by omega
  have nn3 : ¬ w.heap.size + 1 + 1 = w.heap.size := by omega
  rcases hcase with ⟨j, Am, ca, Bx, cb, rfl, hr, hs, hownM, hownX⟩ | ⟨hs, rfl⟩
  · have HS := Lib.hid hs
    have e1 := hr.c1
    have hlj := hr.le
    obtain ⟨u0, u1, u2, u3, u4, u5, u6, uf⟩ := cells7 q4
    have uf0 := uf 0
    have uf1 := uf 1
    have uf2 := uf 2
    have uf3 := uf 3
    have uf4 := uf 4
    have uf5 := uf 5
    have uf6 := uf 6
    clear hs hr
    by_cases hj : j = l.length
    · have hjb : ((j : Int) == (l.length : Int)) = true := by simp [hj]
      have HT : Hid (soaB l = true) := Lib.hid (by rw [HS.out]; simpa using hj)
      clear hj HS
      go_wp2_with fail
      obtain ⟨qA, hkA⟩ := set7 q4 (.slice Am M.length ca) (.slice Bx X.length cb) (.int .u32 n1) (.int .u32 n2) (.int .u32 n3) (.int .u32 n4) (.int .u32 n5) rfl
      generalize (((((((w4.setCell ⟨w.heap.size, 0, none⟩ (.slice Am M.length ca)).setCell ⟨w.heap.size, 1, none⟩ (.slice Bx X.length cb)).setCell ⟨w.heap.size, 2, none⟩ (.int .u32 n1)).setCell ⟨w.heap.size, 3, none⟩ (.int .u32 n2)).setCell ⟨w.heap.size, 4, none⟩ (.int .u32 n3)).setCell ⟨w.heap.size, 5, none⟩ (.int .u32 n4)).setCell ⟨w.heap.size, 6, none⟩ (.int .u32 n5)) = w5 at *
      have hbA : Below w.heap.size w w5 := hb4.trans (hkA.below (B := w.heap.size) (by omega) (fun k hk => by omega))
      have hsA := hkA.size
      have dA := (hkA.cell (b := w.heap.size + 1) (o := 0) (by omega) (by omega)).trans d1
      have gA := (hkA.frozen (b := w.heap.size + 1) (o := 0) (by omega) (by omega)).trans g1
      obtain ⟨t0, t1, t2, t3, t4, t5, t6, tf⟩ := cells7 qA
      have tf0 := tf 0
      have tf1 := tf 1
      have tf2 := tf 2
      have tf3 := tf 3
      have tf4 := tf 4
      have tf5 := tf 5
      have tf6 := tf 6
      have hownM' := Kept.row hownM hkA (fun k hk => by have := (hownM.lt k hk).1; omega)
      have hownX' := Kept.row hownX hkA (fun k hk => by have := (hownX.lt k hk).1; omega)
      clear u0 u1 u2 u3 u4 u5 u6 uf uf0 uf1 uf2 uf3 uf4 uf5 uf6 q4 d1 g1 e1 hkA
      refine (must_yes _).mono ?_
      rintro e w' ⟨rfl, rfl⟩
      go_wp2_with fail
      obtain ⟨qB, hkB⟩ := set7 qA (.slice Am M.length ca) (.slice Bx X.length cb) (.int .u32 n1) (.int .u32 n2) (.int .u32 n3) (.int .u32 n4) (.int .u32 n5) rfl
      have hsB := hkB.size
      have dB := (hkB.cell (b := w.heap.size + 1) (o := 0) (by omega) (by omega)).trans dA
      have hbB := hbA.trans (hkB.below (B := w.heap.size) (by omega) (fun k hk => by omega))
      have hownM2 := Kept.row hownM' hkB (fun k hk => by have := (hownM.lt k hk).1; omega)
      have hownX2 := Kept.row hownX' hkB (fun k hk => by have := (hownX.lt k hk).1; omega)
      generalize (((((((w5.setCell ⟨w.heap.size, 0, none⟩ (.slice Am M.length ca)).setCell ⟨w.heap.size, 1, none⟩ (.slice Bx X.length cb)).setCell ⟨w.heap.size, 2, none⟩ (.int .u32 n1)).setCell ⟨w.heap.size, 3, none⟩ (.int .u32 n2)).setCell ⟨w.heap.size, 4, none⟩ (.int .u32 n3)).setCell ⟨w.heap.size, 5, none⟩ (.int .u32 n4)).setCell ⟨w.heap.size, 6, none⟩ (.int .u32 n5)) = w6 at *
      have hkC : Kept (fun k => k = w.heap.size + 1) w6 (w6.setCell ⟨w.heap.size + 1, 0, none⟩ (.int .i64 0)) := (Kept.refl _ _).setCell (S := fun k => k = w.heap.size + 1) (p := ⟨w.heap.size + 1, 0, none⟩) (fun _ => rfl) _
      have qC := (hkC.block _ (show w.heap.size < w6.heap.size by omega) (by omega)).trans qB
      have dC := setc_same (v := .int .i64 0) dB
      have hbC := hbB.trans (hkC.below (B := w.heap.size) (by omega) (fun k hk => by omega))
      have hownM3 := Kept.row hownM2 hkC (fun k hk => by have := (hownM.lt k hk).1; omega)
      have hownX3 := Kept.row hownX2 hkC (fun k hk => by have := (hownX.lt k hk).1; omega)
      generalize w6.setCell ⟨w.heap.size + 1, 0, none⟩ (.int .i64 0) = w7 at *
      refine leaves_cons (f := 139) (args := #[.pointer (some ⟨w.heap.size, 0, none⟩), .pointer (some ⟨w.heap.size + 1, 0, none⟩)]) (by simp) (by simp [go_sem]) ?_
      refine (readS1_idle _ _ _).mono ?_
      rintro e u' w9 ⟨rfl, rfl, rfl⟩
      obtain ⟨y0, y1, y2, y3, y4, y5, y6, _⟩ := cells7 qC
      simp [Leaves, settle, results, Tryz.results109, go_sem, y0, y1, y2, y3, y4, y5, y6, dC]
      refine ⟨hbC, _, ⟨rfl, by rw [HT.out]; rfl⟩, fun h => ?_, fun _ => ⟨Am, ca, Bx, cb, ?_, ?_, ?_⟩⟩
      · rw [HT.out] at h; cases h
      · rw [HSM.out]; rfl
      · rw [HSM.out]; exact own_base hownM3 (by omega)
      · rw [HSM.out]; exact own_base hownX3 (by omega)
    · have hjb : ((j : Int) == (l.length : Int)) = false := by simp; omega
      have HT : Hid (soaB l = false) := Lib.hid (by rw [HS.out]; simpa using hj)
      clear hj HS
      go_wp2_with fail
      obtain ⟨qA, hkA⟩ := set7 q4 (.slice Am M.length ca) (.slice Bx X.length cb) (.int .u32 n1) (.int .u32 n2) (.int .u32 n3) (.int .u32 n4) (.int .u32 n5) rfl
      generalize (((((((w4.setCell ⟨w.heap.size, 0, none⟩ (.slice Am M.length ca)).setCell ⟨w.heap.size, 1, none⟩ (.slice Bx X.length cb)).setCell ⟨w.heap.size, 2, none⟩ (.int .u32 n1)).setCell ⟨w.heap.size, 3, none⟩ (.int .u32 n2)).setCell ⟨w.heap.size, 4, none⟩ (.int .u32 n3)).setCell ⟨w.heap.size, 5, none⟩ (.int .u32 n4)).setCell ⟨w.heap.size, 6, none⟩ (.int .u32 n5)) = w5 at *
      have hbA : Below w.heap.size w w5 := hb4.trans (hkA.below (B := w.heap.size) (by omega) (fun k hk => by omega))
      have hsA := hkA.size
      have dA := (hkA.cell (b := w.heap.size + 1) (o := 0) (by omega) (by omega)).trans d1
      have gA := (hkA.frozen (b := w.heap.size + 1) (o := 0) (by omega) (by omega)).trans g1
      clear u0 u1 u2 u3 u4 u5 u6 uf uf0 uf1 uf2 uf3 uf4 uf5 uf6 q4 d1 g1 e1 hkA
      refine (must_no _).mono ?_
      rintro e w' ⟨rfl, rfl⟩
      go_wp2_with fail
      refine leaves_cons (f := 139) (args := #[.pointer (some ⟨w.heap.size, 0, none⟩), .pointer (some ⟨w.heap.size + 1, 0, none⟩)]) (by simp) (by simp [go_sem]) ?_
      refine (HD.out _ _ _ _ _ _ _ w5 hbA qA dA gA (by omega)).mono ?_
      rintro e u' w9 ⟨rfl, rfl, zq, z1, hb5⟩
      obtain ⟨y0, y1, y2, y3, y4, y5, y6, _⟩ := cells7 zq
      simp [Leaves, settle, mustR, results, Tryz.results109, go_sem, y0, y1, y2, y3, y4, y5, y6, z1]
      refine ⟨hb5, _, ⟨rfl, by rw [HT.out]; rfl⟩, fun _ => rfl, fun h => ?_⟩
      rw [HT.out] at h
      cases h
  · have HS := Lib.hid hs
    clear hs
    go_wp2_with fail
    refine leaves_cons (f := 139) (args := #[.pointer (some ⟨w.heap.size, 0, none⟩), .pointer (some ⟨w.heap.size + 1, 0, none⟩)]) (by simp) (by simp [go_sem]) ?_
    refine (HD.out _ _ _ _ _ _ _ w4 hb4 q4 d1 g1 (by omega)).mono ?_
    rintro e u' w5 ⟨rfl, rfl, zq, z1, hb5⟩
    obtain ⟨y0, y1, y2, y3, y4, y5, y6, _⟩ := cells7 zq
    simp [Leaves, settle, mustR, results, Tryz.results109, go_sem, y0, y1, y2, y3, y4, y5, y6, z1]
    refine ⟨hb5, _, ⟨rfl, by rw [HS.out]; rfl⟩, fun _ => rfl, fun h => ?_⟩
    rw [HS.out] at h
    cases h
end Nm
end Go.Proofs.YthogembgndkmpaaGreatDoor
