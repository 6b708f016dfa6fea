/-
  Texts merged by a program (Shape2, Read, Target, CanonS, Msg, Msg2).
-/
import Derived.Test.YtkeimgamjnpcbaaGreatCk2
import Derived.Test.YtkeimgamjnpcbaaGreatCk3
set_option linter.unusedSimpArgs false
set_option linter.unusedVariables false
/- Contracts of package rdata: shape, Check's closure. -/
namespace Go.Proofs.YtkeimgamjnpcbaaGreat
open Go.RowKit
set_option linter.unusedVariables false
namespace Nm
def shp (t : Int) (l : Lab) : Bool :=
  if t = 1 then l.length == 4 else if t = 28 then l.length == 16 else if t = 2 ∨ t = 5 then wholeB l else if t = 15 then decide (2 ≤ l.length) && wholeB (l.drop 2)
  else if t = 16 then !l.isEmpty && txt l 0 else if t = 43 then decide (5 ≤ l.length) else if t = 51 then decide (5 ≤ l.length) && l.length == 5 + (l.getD 4 0).toNat else true
theorem chk_shp {t : Int} (h1 : t ≠ 6) (h2 : t ≠ 46) (h3 : t ≠ 48) (l : Lab) : chk t l = (decide (l.length ≤ 8192) && shp t l) := by
  unfold chk shp
  congr 1
  rw [txt_zero]
  simp only [h1, h2, h3, if_false]
def ShapeP (r : Nat) (A : Option Addr) (l : Lab) (cap : Nat) (t : Int) (w : World) (e : Ending) (w' : World) : Prop :=
  Kept (fun b => b = r) w w' ∧ ((∃ j, e = .returned (.tuple #[]) ∧ Rdr w' r A l cap j ∧ shp t l = decide (j = l.length)) ∨ (shp t l = false ∧ e = .panicked mustP))
theorem wholeB_some {l : Lab} {n : List Lab} {j : Nat} (h : openO l = some (n, j)) : wholeB l = decide (j = l.length) := by
  unfold wholeB; rw [h]; simp only []; rw [Bool.eq_iff_iff]; simp
theorem wholeB_none {l : Lab} (h : openO l = none) : wholeB l = false := by unfold wholeB; rw [h]
/-- so many bytes, and no more -/
theorem shape_take (t : Int) (n : Nat) (hn2 : n ≤ 100000) (r : Nat) (A : Option Addr) (l : Lab) (cap : Nat) (w : World) (h : Rdr w r A l cap 0) (hs : shp t l = (l.length == n)) :
    Calls Tryz.prog 149 #[.pointer (some ⟨r, 0, none⟩), .int .i64 n] w fun e w' => Kept (fun b => b = r) w w' ∧ ((∃ v, e = .returned v ∧ Rdr w' r A l cap n ∧ shp t l = decide (n = l.length)) ∨ (shp t l = false ∧ e = .panicked mustP)) := by
  by_cases hn : 0 + n ≤ l.length
  · refine (take_yes r A l cap 0 n w h hn).mono ?_
    rintro e w' ⟨rfl, h1, h2⟩
    rw [Nat.zero_add] at h1
    refine ⟨h2, .inl ⟨_, rfl, h1, ?_⟩⟩
    rw [hs, Bool.eq_iff_iff]; simp; omega
  · refine (take_no r A l cap 0 n w h hn hn2).mono ?_
    rintro e w' ⟨rfl, h1⟩
    refine ⟨h1, .inr ⟨?_, rfl⟩⟩
    rw [hs]; simp; omega
set_option maxRecDepth 100000 in
set_option maxHeartbeats 4000000 in
theorem shape (r : Nat) (A : Option Addr) (l : Lab) (cap : Nat) (t : Int) (w : World) (h : Rdr w r A l cap 0) :
    Calls Tryz.prog 110 #[.pointer (some ⟨r, 0, none⟩), .int .u16 t] w (ShapeP r A l cap t w) := by
  have hlen := h.len
  by_cases e1 : t = 1
  · subst e1
    have hc := shape_take 1 4 (by omega) r A l cap w h rfl
    go_enter Tryz.func110, Tryz.ntmps110
    go_wp2_with fail
    refine hc.mono ?_
    rintro e w' ⟨hk, ⟨v, rfl, hr, hs⟩ | ⟨hs, rfl⟩⟩
    · go_wp2_with fail
      go_end0
      exact ⟨hk, .inl ⟨_, rfl, hr, hs⟩⟩
    · go_wp2_with fail
      exact ⟨rfl, hk, .inr ⟨hs, rfl⟩⟩
  by_cases e28 : t = 28
  · subst e28
    have hc := shape_take 28 16 (by omega) r A l cap w h rfl
    go_enter Tryz.func110, Tryz.ntmps110
    go_wp2_with fail
    refine hc.mono ?_
    rintro e w' ⟨hk, ⟨v, rfl, hr, hs⟩ | ⟨hs, rfl⟩⟩
    · go_wp2_with fail
      go_end0
      exact ⟨hk, .inl ⟨_, rfl, hr, hs⟩⟩
    · go_wp2_with fail
      exact ⟨rfl, hk, .inr ⟨hs, rfl⟩⟩
  by_cases e25 : t = 2 ∨ t = 5
  · have hs0 : shp t l = wholeB l := by unfold shp; rw [if_neg e1, if_neg e28, if_pos e25]
    have hc := name r A l cap 0 w h
    rw [List.drop_zero] at hc
    rcases e25 with rfl | rfl
    all_goals
      go_enter Tryz.func110, Tryz.ntmps110
      go_wp2_with fail
      refine hc.mono ?_
      rintro e w' ⟨hk, ⟨n, j, v, ho, rfl, hr, _⟩ | ⟨ho, rfl⟩⟩
      · have HO := Lib.hid ho
        clear ho
        rw [Nat.zero_add] at hr
        go_wp2_with fail
        go_end0
        exact ⟨hk, .inl ⟨_, rfl, hr, by rw [hs0, wholeB_some HO.out]⟩⟩
      · have HO := Lib.hid ho
        clear ho
        go_wp2_with fail
        exact ⟨rfl, hk, .inr ⟨by rw [hs0, wholeB_none HO.out], rfl⟩⟩
  by_cases e15 : t = 15
  · subst e15
    have hs0 : shp 15 l = (decide (2 ≤ l.length) && wholeB (l.drop 2)) := rfl
    go_enter Tryz.func110, Tryz.ntmps110
    go_wp2_with fail
    by_cases h2 : 0 + 2 ≤ l.length
    · refine (num_yes r A l cap 0 2 w h h2).mono ?_
      rintro e w1 ⟨rfl, hr1, hk1⟩
      rw [Nat.zero_add] at hr1
      have hc := name r A l cap 2 w1 hr1
      have HS : Hid (shp 15 l = wholeB (l.drop 2)) := Lib.hid (by rw [hs0]; simp; omega)
      have hd : (l.drop 2).length = l.length - 2 := List.length_drop
      have HD := Lib.hid hd
      clear hs0 hd
      go_wp2_with fail
      refine hc.mono ?_
      rintro e w' ⟨hk, ⟨n, j, v, ho, rfl, hr, _⟩ | ⟨ho, rfl⟩⟩
      · have HO := Lib.hid ho
        clear ho
        go_wp2_with fail
        go_end0
        exact ⟨hk1.trans hk, .inl ⟨_, rfl, hr, by rw [HS.out, wholeB_some HO.out, HD.out, decide_eq_decide]; omega⟩⟩
      · have HO := Lib.hid ho
        clear ho
        go_wp2_with fail
        exact ⟨rfl, hk1.trans hk, .inr ⟨by rw [HS.out, wholeB_none HO.out], rfl⟩⟩
    · refine (num_no r A l cap 0 2 w h h2 (by omega)).mono ?_
      rintro e w1 ⟨rfl, hk1⟩
      go_wp2_with fail
      exact ⟨rfl, hk1, .inr ⟨by rw [hs0]; simp; omega, rfl⟩⟩
  by_cases e16 : t = 16
  · subst e16
    have hs0 : shp 16 l = (!l.isEmpty && txt l 0) := rfl
    have hc := texts r A l cap 0 w h
    go_enter Tryz.func110, Tryz.ntmps110
    go_wp2_with fail
    refine hc.mono ?_
    rintro e w' ⟨hk, ⟨h1, h2, rfl, hr⟩ | ⟨h1, rfl⟩⟩
    · have HO : Hid (shp 16 l = true) := Lib.hid (by rw [hs0, h2]; simpa using List.length_pos_iff.1 h1)
      clear h2 hs0
      go_wp2_with fail
      go_end0
      exact ⟨hk, .inl ⟨_, rfl, hr, by rw [HO.out]; simp⟩⟩
    · have HO : Hid (shp 16 l = false) := Lib.hid (by
        rw [hs0]
        rcases h1 with h1 | h1
        · have : l = [] := List.length_eq_zero_iff.1 (by omega)
          subst this; rfl
        · rw [h1]; simp)
      clear h1 hs0
      go_wp2_with fail
      exact ⟨rfl, hk, .inr ⟨HO.out, rfl⟩⟩
  by_cases e43 : t = 43
  · subst e43
    have hs0 : shp 43 l = decide (5 ≤ l.length) := rfl
    have HS := Lib.hid hs0
    clear hs0
    go_enter Tryz.func110, Tryz.ntmps110
    go_wp2_with fail
    by_cases h2 : 0 + 4 ≤ l.length
    · refine (take_yes r A l cap 0 4 w h h2).mono ?_
      rintro e w1 ⟨rfl, hr1, hk1⟩
      rw [Nat.zero_add] at hr1
      have hc := rest r A l cap 4 w1 hr1
      go_wp2_with fail
      refine hc.mono ?_
      rintro e w2 ⟨hk2, hr2, v, rfl, hown⟩
      obtain ⟨A5, c5, rfl, _, _⟩ := Cs.of_own hown
      by_cases h5 : 5 ≤ l.length
      · have h6 : decide (0 < l.length - 4) = true := by simp; omega
        go_wp2_with fail
        refine (must_yes _).mono ?_
        rintro e w' ⟨rfl, rfl⟩
        go_wp2_with fail
        go_end0
        exact ⟨hk1.trans hk2, .inl ⟨_, rfl, hr2, by rw [HS.out]; simpa using h5⟩⟩
      · have h6 : decide (0 < l.length - 4) = false := by simp; omega
        go_wp2_with fail
        refine (must_no _).mono ?_
        rintro e w' ⟨rfl, rfl⟩
        go_wp2_with fail
        exact ⟨rfl, hk1.trans hk2, .inr ⟨by rw [HS.out]; simpa using h5, rfl⟩⟩
    · refine (take_no r A l cap 0 4 w h h2 (by omega)).mono ?_
      rintro e w1 ⟨rfl, hk1⟩
      go_wp2_with fail
      exact ⟨rfl, hk1, .inr ⟨by rw [HS.out]; simp; omega, rfl⟩⟩
  by_cases e51 : t = 51
  · subst e51
    have hs0 : shp 51 l = (decide (5 ≤ l.length) && l.length == 5 + (l.getD 4 0).toNat) := rfl
    have HS := Lib.hid hs0
    clear hs0
    go_enter Tryz.func110, Tryz.ntmps110
    go_wp2_with fail
    by_cases h2 : 0 + 4 ≤ l.length
    · refine (take_yes r A l cap 0 4 w h h2).mono ?_
      rintro e w1 ⟨rfl, hr1, hk1⟩
      rw [Nat.zero_add] at hr1
      by_cases h5 : 4 < l.length
      · have HG : Hid (l.getD 4 0 = l[4]) := Lib.hid (by simp [List.getD_eq_getElem?_getD, h5])
        by_cases h6 : 4 + 1 + l[4].toNat ≤ l.length
        · have hc := text_yes r A l cap 4 w1 hr1 h5 h6
          have HE : Hid (shp 51 l = decide (4 + 1 + l[4].toNat = l.length)) := Lib.hid (by rw [HS.out, HG.out, Bool.eq_iff_iff]; simp; omega)
          clear HS HG
          generalize 4 + 1 + l[4].toNat = j at *
          have HC := Lib.hid hc
          clear hc
          go_wp2_with fail
          refine HC.out.mono ?_
          rintro e w2 ⟨hk2, hr2, v, rfl, _⟩
          go_wp2_with fail
          go_end0
          exact ⟨hk1.trans hk2, .inl ⟨_, rfl, hr2, HE.out⟩⟩
        · have hc := text_no r A l cap 4 w1 hr1 (fun ⟨_, h⟩ => h6 h)
          have HE : Hid (shp 51 l = false) := Lib.hid (by rw [HS.out, HG.out]; simp; omega)
          clear HS HG
          go_wp2_with fail
          refine hc.mono ?_
          rintro e w2 ⟨hk2, rfl⟩
          go_wp2_with fail
          exact ⟨rfl, hk1.trans hk2, .inr ⟨HE.out, rfl⟩⟩
      · have hc := text_no r A l cap 4 w1 hr1 (fun ⟨h, _⟩ => h5 h)
        have HE : Hid (shp 51 l = false) := Lib.hid (by rw [HS.out]; simp; omega)
        go_wp2_with fail
        refine hc.mono ?_
        rintro e w2 ⟨hk2, rfl⟩
        go_wp2_with fail
        exact ⟨rfl, hk1.trans hk2, .inr ⟨HE.out, rfl⟩⟩
    · refine (take_no r A l cap 0 4 w h h2 (by omega)).mono ?_
      rintro e w1 ⟨rfl, hk1⟩
      go_wp2_with fail
      exact ⟨rfl, hk1, .inr ⟨by rw [HS.out]; simp; omega, rfl⟩⟩
  have HS : Hid (shp t l = true) := Lib.hid (by unfold shp; rw [if_neg e1, if_neg e28, if_neg e25, if_neg e15, if_neg e16, if_neg e43, if_neg e51])
  have hc := rest r A l cap 0 w h
  have b1 : (t == 1) = false := by simpa using e1
  have b2 : (t == 2) = false := by simpa using fun h => e25 (.inl h)
  have b3 : (t == 5) = false := by simpa using fun h => e25 (.inr h)
  have b4 : (t == 28) = false := by simpa using e28
  have b5 : (t == 15) = false := by simpa using e15
  have b6 : (t == 16) = false := by simpa using e16
  have b7 : (t == 43) = false := by simpa using e43
  have b8 : (t == 51) = false := by simpa using e51
  clear e1 e25 e28 e15 e16 e43 e51
  go_enter Tryz.func110, Tryz.ntmps110
  go_wp2_with fail
  refine hc.mono ?_
  rintro e w2 ⟨hk2, hr2, v, rfl, hown⟩
  go_wp2_with fail
  go_end0
  exact ⟨hk2, .inl ⟨_, rfl, hr2, by rw [HS.out]; simp⟩⟩
end Nm
end Go.Proofs.YtkeimgamjnpcbaaGreat

/- Contracts of package rdata: read[int], Check. -/
namespace Go.Proofs.YtkeimgamjnpcbaaGreat
open Go.RowKit
set_option linter.unusedVariables false
namespace Nm
/-- no error, or the data's -/
def code50 (b : Bool) : Int := if b then 0 else 50
theorem asserted_must (W : World) : (Instr.typeAssert (.iface 198 (.agg #[])) 20 198 true).run Tryz.prog W = .ok (.tuple #[.agg #[], .bool true]) W := by kernel_rfl
def mustR : FrameMode := .panicking [{ v := .iface 198 (.agg #[]), recovered := true }]
/-- two cells written, a block laid -/
theorem two {w : World} {a b : Nat} {x0 x1 : Value} (h0 : w.cell? ⟨a, 0, none⟩ = some x0) (h1 : w.cell? ⟨b, 0, none⟩ = some x1) (hab : a < b) (v0 v1 : Value) {w' : World}
    (hw : w' = (w.setCell ⟨a, 0, none⟩ v0).setCell ⟨b, 0, none⟩ v1) :
    w'.cell? ⟨a, 0, none⟩ = some v0 ∧ w'.cell? ⟨b, 0, none⟩ = some v1 ∧ Kept (fun k => a ≤ k ∧ k ≤ b) w w' := by
  have a1 := setc_same (v := v0) h0
  have b1 := (setc_far (o := 0) (v := v0) (show a ≠ b by omega)).trans h1
  have a2 := (setc_far (o := 0) (v := v1) (show b ≠ a by omega)).trans a1
  have b2 := setc_same (v := v1) b1
  subst hw
  exact ⟨a2, b2, ((Kept.refl _ _).setCell (p := ⟨a, 0, none⟩) (fun _ => (show a ≤ a ∧ a ≤ b by omega)) _).setCell (p := ⟨b, 0, none⟩) (fun _ => (show a ≤ b ∧ b ≤ b by omega)) _⟩
set_option maxRecDepth 100000 in
set_option maxHeartbeats 1000000 in
theorem readI1_panic (a b : Nat) (x0 x1 : Value) (w : World) (h0 : w.cell? ⟨a, 0, none⟩ = some x0) (h1 : w.cell? ⟨b, 0, none⟩ = some x1)
    (f0 : w.frozen? ⟨a, 0, none⟩ = false) (f1 : w.frozen? ⟨b, 0, none⟩ = false) (l0 : a < w.heap.size) (l1 : b < w.heap.size) (hab : a < b) :
    CallsD Tryz.prog 148 #[.pointer (some ⟨a, 0, none⟩), .pointer (some ⟨b, 0, none⟩)] (.panicking mustP) w fun e u' w' =>
      e = .returned (.tuple #[]) ∧ u' = mustR ∧ w'.cell? ⟨a, 0, none⟩ = some (.int .i64 0) ∧ w'.cell? ⟨b, 0, none⟩ = some (.int .i64 50) ∧ Below a w w' := by
  have hta := asserted_must
  refine callsD_of_wpS Tryz.func148 rfl fun c₀ cs hu => ?_
  apply wpS_seq
  apply wpS_region
  simp [wpOpsS, go_sem, recoverD, mustP, hu, Tryz.ntmps148, Exit.thenS]
  refine wpS_of_wp ?_
  simp only [Array.replicate_succ, Array.replicate_zero, List.push_toArray, List.append_toArray, List.nil_append, List.cons_append, List.setIfInBounds_toArray, List.set_cons_succ, List.set_cons_zero]
  have n0 : ¬ a = w.heap.size := by omega
  have n1 : ¬ b = w.heap.size := by omega
  have m0 : ¬ w.heap.size = a := by omega
  have m1 : ¬ w.heap.size = b := by omega
  have d0 : ¬ a = b := by omega
  have d1 : ¬ b = a := by omega
  go_wp2_with fail
  obtain ⟨z0, z1, hk⟩ := two h0 h1 hab (.int .i64 0) (.int .i64 50) rfl
  exact ⟨rfl, _, rfl, _, results_none rfl _ _ _, rfl, rfl, alloc_cell _ z0, alloc_cell _ z1, (hk.below (B := a) (by omega) (fun k hk => by omega)).alloc (by have := hk.size; omega) _⟩
theorem readI1_idle (a b : Addr) (w : World) : CallsD Tryz.prog 148 #[.pointer (some a), .pointer (some b)] .returning w fun e u' w' => e = .returned (.tuple #[]) ∧ u' = .returning ∧ w' = w := by
  refine callsD_of_wpS Tryz.func148 rfl fun c₀ cs hu => ?_
  apply wpS_seq
  apply wpS_region
  simp [wpOpsS, go_sem, recoverD, hu, Tryz.ntmps148, Exit.thenS]
  refine wpS_of_wp ?_
  simp only [Array.replicate_succ, Array.replicate_zero, List.push_toArray, List.append_toArray, List.nil_append, List.cons_append, List.setIfInBounds_toArray, List.set_cons_succ, List.set_cons_zero]
  go_wp2_with fail
  exact ⟨rfl, .returning, by cases c₀; simp_all, _, results_none rfl _ _ _, rfl, rfl, rfl⟩
theorem Check1 (p : Addr) (t : Int) (r : Nat) (A : Option Addr) (l : Lab) (cap : Nat) (w : World) (hp : w.cell? p = some (.int .u16 t)) (h : Rdr w r A l cap 0) :
    Calls Tryz.prog 109 #[.pointer (some ⟨r, 0, none⟩), .pointer (some p)] w fun e w' =>
      Kept (fun b => b = r) w w' ∧ ((∃ j, e = .returned (.int .i64 0) ∧ Rdr w' r A l cap j ∧ shp t l = decide (j = l.length)) ∨ (shp t l = false ∧ e = .panicked mustP)) := by
  go_enter Tryz.func109, Tryz.ntmps109
  go_wp2_with fail
  refine (shape r A l cap t w h).mono ?_
  rintro e w' ⟨hk, ⟨j, rfl, hr, hs⟩ | ⟨hs, rfl⟩⟩
  · have HS := Lib.hid hs
    clear hs
    go_wp2_with fail
    go_ret
    exact ⟨hk, .inl ⟨_, rfl, hr, HS.out⟩⟩
  · have HS := Lib.hid hs
    clear hs
    go_wp2_with fail
    exact ⟨rfl, hk, .inr ⟨HS.out, rfl⟩⟩
set_option maxRecDepth 100000 in
set_option maxHeartbeats 2000000 in
theorem readI (p : Addr) (t : Int) (A : Option Addr) (l : Lab) (cap : Nat) (w : World) (hp : w.cell? p = some (.int .u16 t)) (hpb : p.block < w.heap.size) (hc : Cs w A (l.map byteV)) (hl : l.length ≤ 100000) (hcap : l.length ≤ cap) (hcap2 : cap ≤ maxLen) :
    Calls Tryz.prog 108 #[.slice A l.length cap, .func (.func 109) #[] #[.pointer (some p)]] w fun e w' =>
      Below w.heap.size w w' ∧ e = .returned (.tuple #[.int .i64 0, .int .i64 (code50 (shp t l))]) := by
  have hmf : ∀ (fn : Fn) (first cap : Array Value) (w : World), (Instr.makeFunc fn first cap).run Tryz.prog w = .ok (.func fn first cap) w := fun _ _ _ _ => rfl
  go_enter_defers Tryz.func108, Tryz.ntmps108
  go_wp2_with fail
  generalize hw3 : (((w.alloc (Obj.cells #[Value.int IntKind.i64 0] 3)).alloc (Obj.cells #[Value.int IntKind.i64 0] 52)).alloc (Obj.cells #[Value.slice A l.length cap, Value.int IntKind.i64 0] 201)) = w3
  have hb3 : Below w.heap.size w w3 := by rw [← hw3]; exact (((Below.refl _ _).alloc (Nat.le_refl _) _).alloc (by simp) _).alloc (by simp; omega) _
  have hsz3 : w3.heap.size = w.heap.size + 3 := by rw [← hw3]; simp
  have c0 : w3.cell? ⟨w.heap.size, 0, none⟩ = some (.int .i64 0) := by rw [← hw3]; simp [go_sem]
  have c1 : w3.cell? ⟨w.heap.size + 1, 0, none⟩ = some (.int .i64 0) := by rw [← hw3]; simp [go_sem]
  have f0 : w3.frozen? ⟨w.heap.size, 0, none⟩ = false := by rw [← hw3]; simp [go_sem]
  have f1 : w3.frozen? ⟨w.heap.size + 1, 0, none⟩ = false := by rw [← hw3]; simp [go_sem]
  have hR : Rdr w3 (w.heap.size + 1 + 1) A l cap 0 := by
    refine ⟨by rw [← hw3]; simp [go_sem], by rw [← hw3]; simp [go_sem], by rw [← hw3]; simp [go_sem], by omega, hc.below hb3, ?_, hl, hcap, hcap2, Nat.zero_le _⟩
    intro a ha hx
    have := hc.where ha hx
    omega
  have hp3 := (hb3.cell hpb).trans hp
  clear hw3
  refine (Check1 p t (w.heap.size + 1 + 1) A l cap w3 hp3 hR).mono ?_
  rintro e w4 ⟨hk4, hcase⟩
  have d0 := (hk4.cell (b := w.heap.size) (o := 0) (by omega) (by omega)).trans c0
  have d1 := (hk4.cell (b := w.heap.size + 1) (o := 0) (by omega) (by omega)).trans c1
  have g0 := (hk4.frozen (b := w.heap.size) (o := 0) (by omega) (by omega)).trans f0
  have g1 := (hk4.frozen (b := w.heap.size + 1) (o := 0) (by omega) (by omega)).trans f1
  have hsz4 := hk4.size
  have hb4 : Below w.heap.size w w4 := hb3.trans (hk4.below (by omega) (fun k hk => by omega))
  clear c0 c1 f0 f1 hR hp3 hk4
  have door : ∀ W : World, Below w.heap.size w W → W.cell? ⟨w.heap.size, 0, none⟩ = some (.int .i64 0) → W.cell? ⟨w.heap.size + 1, 0, none⟩ = some (.int .i64 0) → W.frozen? ⟨w.heap.size, 0, none⟩ = false → W.frozen? ⟨w.heap.size + 1, 0, none⟩ = false → w.heap.size + 3 ≤ W.heap.size →
      CallsD Tryz.prog 148 #[.pointer (some ⟨w.heap.size, 0, none⟩), .pointer (some ⟨w.heap.size + 1, 0, none⟩)] (.panicking mustP) W fun e u' w' =>
      e = .returned (.tuple #[]) ∧ u' = mustR ∧ w'.cell? ⟨w.heap.size, 0, none⟩ = some (.int .i64 0) ∧ w'.cell? ⟨w.heap.size + 1, 0, none⟩ = some (.int .i64 50) ∧ Below w.heap.size w w' := fun W hb k0 k1 j0 j1 hs =>
    (readI1_panic w.heap.size (w.heap.size + 1) _ _ W k0 k1 j0 j1 (by omega) (by omega) (by omega)).mono fun e u' w' ⟨h1, h2, h3, h4, h5⟩ => ⟨h1, h2, h3, h4, hb.trans h5⟩
  have HD := Lib.hid door
  clear door
  rcases hcase with ⟨j, rfl, hr, hs⟩ | ⟨hs, rfl⟩
  · have HS := Lib.hid hs
    have e1 := hr.c1
    have hlj := hr.le
    clear hs hr
    have n0 : ¬ w.heap.size = w.heap.size + 1 := by omega
    have n1 : ¬ w.heap.size = w.heap.size + 1 + 1 := by omega
    have n2 : ¬ w.heap.size + 1 = w.heap.size := by omega
    have n3 : ¬ w.heap.size + 1 = w.heap.size + 1 + 1 := by omega
    by_cases hj : j = l.length
    · have hjb : ((j : Int) == (l.length : Int)) = true := by simp [hj]
      have HT : Hid (shp t l = true) := Lib.hid (by rw [HS.out]; simpa using hj)
      clear hj HS
      go_wp2_with fail
      refine (must_yes _).mono ?_
      rintro e w' ⟨rfl, rfl⟩
      go_wp2_with fail
      have hk5 : Kept (fun b => b = w.heap.size) w4 (w4.setCell ⟨w.heap.size, 0, none⟩ (.int .i64 0)) := Kept.setCell (S := fun b => b = w.heap.size) (Kept.refl _ _) (p := ⟨w.heap.size, 0, none⟩) (fun _ => rfl) _
      have k0 := setc_same (v := .int .i64 0) d0
      have k1 := (hk5.cell (b := w.heap.size + 1) (o := 0) (by omega) (by omega)).trans d1
      have hs5 := hk5.size
      obtain ⟨z0, z1, hk6⟩ := two k0 k1 (by omega) (.int .i64 0) (.int .i64 0) rfl
      have hb6 := (hb4.trans (hk5.below (B := w.heap.size) (by omega) (fun k hk => by omega))).trans (hk6.below (B := w.heap.size) (by omega) (fun k hk => by omega))
      clear hk6
      generalize ((w4.setCell { block := w.heap.size, off := 0 } (Value.int IntKind.i64 0)).setCell { block := w.heap.size, off := 0 } (Value.int IntKind.i64 0)).setCell { block := w.heap.size + 1, off := 0 } (Value.int IntKind.i64 0) = w6 at *
      refine leaves_cons (f := 148) (args := #[.pointer (some ⟨w.heap.size, 0, none⟩), .pointer (some ⟨w.heap.size + 1, 0, none⟩)]) (by simp) (by simp [go_sem]) ?_
      refine (readI1_idle _ _ _).mono ?_
      rintro e u' w9 ⟨rfl, rfl, rfl⟩
      simp [Leaves, settle, results, Tryz.results108, go_sem, z0, z1]
      exact ⟨hb6, by rw [HT.out]; rfl⟩
    · have hjb : ((j : Int) == (l.length : Int)) = false := by simp; omega
      have HT : Hid (shp t l = false) := Lib.hid (by rw [HS.out]; simpa using hj)
      clear hj HS
      go_wp2_with fail
      refine (must_no _).mono ?_
      rintro e w' ⟨rfl, rfl⟩
      have hk5 : Kept (fun b => b = w.heap.size) w4 (w4.setCell ⟨w.heap.size, 0, none⟩ (.int .i64 0)) := Kept.setCell (S := fun b => b = w.heap.size) (Kept.refl _ _) (p := ⟨w.heap.size, 0, none⟩) (fun _ => rfl) _
      have hb5 := hb4.trans (hk5.below (B := w.heap.size) (by omega) (fun k hk => by omega))
      have k0 := setc_same (v := .int .i64 0) d0
      have k1 := (hk5.cell (b := w.heap.size + 1) (o := 0) (by omega) (by omega)).trans d1
      have j0 := (setc_frozen (p := ⟨w.heap.size, 0, none⟩) (v := .int .i64 0)).trans g0
      have j1 := (setc_frozen (p := ⟨w.heap.size, 0, none⟩) (v := .int .i64 0)).trans g1
      have hs5 := hk5.size
      go_wp2_with fail
      refine leaves_cons (f := 148) (args := #[.pointer (some ⟨w.heap.size, 0, none⟩), .pointer (some ⟨w.heap.size + 1, 0, none⟩)]) (by simp) (by simp [go_sem]) ?_
      refine (HD.out _ hb5 k0 k1 j0 j1 (by omega)).mono ?_
      rintro e u' w5 ⟨rfl, rfl, z0, z1, hb6⟩
      simp [Leaves, settle, mustR, results, Tryz.results108, go_sem, z0, z1]
      exact ⟨hb6, by rw [HT.out]; rfl⟩
  · have HS := Lib.hid hs
    clear hs
    go_wp2_with fail
    refine leaves_cons (f := 148) (args := #[.pointer (some ⟨w.heap.size, 0, none⟩), .pointer (some ⟨w.heap.size + 1, 0, none⟩)]) (by simp) (by simp [go_sem]) ?_
    refine (HD.out w4 hb4 d0 d1 g0 g1 (by omega)).mono ?_
    rintro e u' w5 ⟨rfl, rfl, z0, z1, hb5⟩
    simp [Leaves, settle, mustR, results, Tryz.results108, go_sem, z0, z1]
    exact ⟨hb5, by rw [HS.out]; rfl⟩
set_option maxRecDepth 100000 in
set_option maxHeartbeats 2000000 in
/-- rdata.Check at types whose shape alone is asked -/
theorem CheckS (t : Int) (A : Option Addr) (l : Lab) (cap : Nat) (w : World) (h1 : t ≠ 6) (h2 : t ≠ 46) (h3 : t ≠ 48) (h4 : t ≠ 50) (hc : Cs w A (l.map byteV)) (hl : l.length ≤ 100000) (hcap : l.length ≤ cap) (hcap2 : cap ≤ maxLen) :
    Calls Tryz.prog 67 #[.int .u16 t, .slice A l.length cap] w fun e w' => Below w.heap.size w w' ∧ e = .returned (.int .i64 (code50 (chk t l))) := by
  have HC := Lib.hid (chk_shp h1 h2 h3 l)
  have b1 : (t == 6) = false := by simpa using h1
  have b2 : (t == 46) = false := by simpa using h2
  have b3 : (t == 48) = false := by simpa using h3
  have b4 : (t == 50) = false := by simpa using h4
  have hmf : ∀ (fn : Fn) (first cap : Array Value) (w : World), (Instr.makeFunc fn first cap).run Tryz.prog w = .ok (.func fn first cap) w := fun _ _ _ _ => rfl
  have hb1 : Below w.heap.size w (w.alloc (.cells #[.int .u16 t] 24)) := (Below.refl _ _).alloc (Nat.le_refl _) _
  clear h1 h2 h3 h4
  by_cases h8 : 8192 < l.length
  · have HE : Hid (chk t l = false) := Lib.hid (by rw [HC.out]; simp; omega)
    go_enter Tryz.func67, Tryz.ntmps67
    go_wp2_with fail
    go_ret
    exact ⟨hb1, by rw [HE.out]; rfl⟩
  · have HE : Hid (chk t l = shp t l) := Lib.hid (by rw [HC.out]; simp; omega)
    have hr := readI ⟨w.heap.size, 0, none⟩ t A l cap (w.alloc (.cells #[.int .u16 t] 24)) (by simp [go_sem]) (by simp) (hc.below hb1) hl hcap hcap2
    have HR := Lib.hid hr
    clear hr hc
    go_enter Tryz.func67, Tryz.ntmps67
    go_wp2_with fail
    refine HR.out.mono ?_
    rintro e w2 ⟨hb2, rfl⟩
    go_wp2_with fail
    go_ret
    exact ⟨hb1.trans (hb2.mono (by simp)), by rw [HE.out]; rfl⟩
end Nm
end Go.Proofs.YtkeimgamjnpcbaaGreat

/- Contracts of package rdata: Target. -/
namespace Go.Proofs.YtkeimgamjnpcbaaGreat
open Go.RowKit
set_option linter.unusedVariables false
namespace Nm
set_option maxRecDepth 100000 in
set_option maxHeartbeats 1000000 in
theorem readN1_panic (a b : Nat) (x0 x1 : Value) (w : World) (h0 : w.cell? ⟨a, 0, none⟩ = some x0) (h1 : w.cell? ⟨b, 0, none⟩ = some x1)
    (f0 : w.frozen? ⟨a, 0, none⟩ = false) (f1 : w.frozen? ⟨b, 0, none⟩ = false) (l0 : a < w.heap.size) (l1 : b < w.heap.size) (hab : a < b) :
    CallsD Tryz.prog 209 #[.pointer (some ⟨a, 0, none⟩), .pointer (some ⟨b, 0, none⟩)] (.panicking mustP) w fun e u' w' =>
      e = .returned (.tuple #[]) ∧ u' = mustR ∧ w'.cell? ⟨a, 0, none⟩ = some (.slice none 0 0) ∧ w'.cell? ⟨b, 0, none⟩ = some (.int .i64 50) ∧ Below a w w' := by
  have hta := asserted_must
  refine callsD_of_wpS Tryz.func209 rfl fun c₀ cs hu => ?_
  apply wpS_seq
  apply wpS_region
  simp [wpOpsS, go_sem, recoverD, mustP, hu, Tryz.ntmps209, Exit.thenS]
  refine wpS_of_wp ?_
  simp only [Array.replicate_succ, Array.replicate_zero, List.push_toArray, List.append_toArray, List.nil_append, List.cons_append, List.setIfInBounds_toArray, List.set_cons_succ, List.set_cons_zero]
  have n0 : ¬ a = w.heap.size := by omega
  have n1 : ¬ b = w.heap.size := by omega
  have m0 : ¬ w.heap.size = a := by omega
  have m1 : ¬ w.heap.size = b := by omega
  have d0 : ¬ a = b := by omega
  have d1 : ¬ b = a := by omega
  go_wp2_with fail
  obtain ⟨z0, z1, hk⟩ := two h0 h1 hab (.slice none 0 0) (.int .i64 50) rfl
  exact ⟨rfl, _, rfl, _, results_none rfl _ _ _, rfl, rfl, alloc_cell _ z0, alloc_cell _ z1, (hk.below (B := a) (by omega) (fun k hk => by omega)).alloc (by have := hk.size; omega) _⟩
theorem readN1_idle (a b : Addr) (w : World) : CallsD Tryz.prog 209 #[.pointer (some a), .pointer (some b)] .returning w fun e u' w' => e = .returned (.tuple #[]) ∧ u' = .returning ∧ w' = w := by
  refine callsD_of_wpS Tryz.func209 rfl fun c₀ cs hu => ?_
  apply wpS_seq
  apply wpS_region
  simp [wpOpsS, go_sem, recoverD, hu, Tryz.ntmps209, Exit.thenS]
  refine wpS_of_wp ?_
  simp only [Array.replicate_succ, Array.replicate_zero, List.push_toArray, List.append_toArray, List.nil_append, List.cons_append, List.setIfInBounds_toArray, List.set_cons_succ, List.set_cons_zero]
  go_wp2_with fail
  exact ⟨rfl, .returning, by cases c₀; simp_all, _, results_none rfl _ _ _, rfl, rfl, rfl⟩
/-- how many bytes stand ahead of a name -/
def ahd (t : Int) : Nat := if t = 15 then 2 else 0
theorem ahead (t : Int) (w : World) : Calls Tryz.prog 130 #[.int .u16 t] w fun e w' => e = .returned (.int .i64 (ahd t)) ∧ w = w' := by
  unfold ahd
  by_cases h : t = 15
  · subst h
    go_enter Tryz.func130, Tryz.ntmps130
    go_wp2_with fail
    go_ret
    exact ⟨rfl, rfl⟩
  · have hb : (t == 15) = false := by simpa using h
    go_enter Tryz.func130, Tryz.ntmps130
    go_wp2_with fail
    go_ret
    exact ⟨rfl, rfl⟩
def isN (t : Int) : Prop := t = 2 ∨ t = 5 ∨ t = 15
theorem shp_name {t : Int} (ht : isN t) (l : Lab) : shp t l = (decide (ahd t ≤ l.length) && wholeB (l.drop (ahd t))) := by
  rcases ht with rfl | rfl | rfl
  · rfl
  · rfl
  · rfl
set_option maxRecDepth 100000 in
set_option maxHeartbeats 2000000 in
theorem Target1 (p : Addr) (t : Int) (ht : isN t) (r : Nat) (A : Option Addr) (l : Lab) (cap : Nat) (w : World) (hp : w.cell? p = some (.int .u16 t)) (h : Rdr w r A l cap 0) (hpr : p.block ≠ r) (hpw : p.block < w.heap.size) (hps : p.spot = none) :
    Calls Tryz.prog 174 #[.pointer (some ⟨r, 0, none⟩), .pointer (some p)] w fun e w' =>
      Kept (fun b => b = r) w w' ∧ ((∃ j v, e = .returned v ∧ Rdr w' r A l cap j ∧ shp t l = decide (j = l.length) ∧ w'.ownsRow w.heap.size 9 1 v (openN (l.drop (ahd t))).length ((openN (l.drop (ahd t))).map strV)) ∨ (shp t l = false ∧ e = .panicked mustP)) := by
  have HS := Lib.hid (shp_name ht l)
  have hah : ahd t ≤ 2 := by unfold ahd; split <;> omega
  have hat := ahead t w
  generalize ahd t = a at *
  clear ht
  go_enter Tryz.func174, Tryz.ntmps174
  go_wp2_with fail
  refine hat.mono ?_
  rintro e w' ⟨rfl, rfl⟩
  go_wp2_with fail
  by_cases ha : 0 + a ≤ l.length
  · refine (take_yes r A l cap 0 a w h ha).mono ?_
    rintro e w1 ⟨rfl, hr1, hk1⟩
    rw [Nat.zero_add] at hr1
    have hc := name r A l cap a w1 hr1
    have hd : (l.drop a).length = l.length - a := List.length_drop
    have HD := Lib.hid hd
    clear hd
    go_wp2_with fail
    refine hc.mono ?_
    rintro e w2 ⟨hk2, ⟨n, j, v, ho, rfl, hr2, hown⟩ | ⟨ho, rfl⟩⟩
    · have HO := Lib.hid ho
      clear ho
      go_wp2_with fail
      go_ret
      refine ⟨hk1.trans hk2, .inl ⟨_, _, rfl, hr2, ?_, ?_⟩⟩
      · rw [HS.out, wholeB_some HO.out, HD.out, Bool.eq_iff_iff]
        simp
        omega
      · rw [(openO_some HO.out).2.2.2.1]
        exact own_base hown hk1.size
    · have HO := Lib.hid ho
      clear ho
      go_wp2_with fail
      exact ⟨rfl, hk1.trans hk2, .inr ⟨by rw [HS.out, wholeB_none HO.out]; simp, rfl⟩⟩
  · refine (take_no r A l cap 0 a w h ha (by omega)).mono ?_
    rintro e w1 ⟨rfl, hk1⟩
    go_wp2_with fail
    exact ⟨rfl, hk1, .inr ⟨by rw [HS.out]; simp; omega, rfl⟩⟩
/-- the name that data of some types ends with -/
def tgt (t : Int) (l : Lab) : List Lab := if shp t l then openN (l.drop (ahd t)) else []
set_option maxRecDepth 100000 in
set_option maxHeartbeats 2000000 in
theorem readN (p : Addr) (t : Int) (ht : isN t) (A : Option Addr) (l : Lab) (cap : Nat) (w : World) (hp : w.cell? p = some (.int .u16 t)) (hpb : p.block < w.heap.size) (hps : p.spot = none) (hc : Cs w A (l.map byteV)) (hl : l.length ≤ 100000) (hcap : l.length ≤ cap) (hcap2 : cap ≤ maxLen) :
    Calls Tryz.prog 173 #[.slice A l.length cap, .func (.func 174) #[] #[.pointer (some p)]] w fun e w' =>
      Below w.heap.size w w' ∧ ∃ v, e = .returned (.tuple #[v, .int .i64 (code50 (shp t l))]) ∧ w'.ownsRow w.heap.size 9 1 v (tgt t l).length ((tgt t l).map strV) := by
  have hmf : ∀ (fn : Fn) (first cap : Array Value) (w : World), (Instr.makeFunc fn first cap).run Tryz.prog w = .ok (.func fn first cap) w := fun _ _ _ _ => rfl
  go_enter_defers Tryz.func173, Tryz.ntmps173
  go_wp2_with fail
  generalize hw3 : (((w.alloc (Obj.cells #[Value.slice none 0 0] 23)).alloc (Obj.cells #[Value.int IntKind.i64 0] 52)).alloc (Obj.cells #[Value.slice A l.length cap, Value.int IntKind.i64 0] 201)) = w3
  have hb3 : Below w.heap.size w w3 := by rw [← hw3]; exact (((Below.refl _ _).alloc (Nat.le_refl _) _).alloc (by simp) _).alloc (by simp; omega) _
  have hsz3 : w3.heap.size = w.heap.size + 3 := by rw [← hw3]; simp
  have c0 : w3.cell? ⟨w.heap.size, 0, none⟩ = some (.slice none 0 0) := by rw [← hw3]; simp [go_sem]
  have c1 : w3.cell? ⟨w.heap.size + 1, 0, none⟩ = some (.int .i64 0) := by rw [← hw3]; simp [go_sem]
  have f0 : w3.frozen? ⟨w.heap.size, 0, none⟩ = false := by rw [← hw3]; simp [go_sem]
  have f1 : w3.frozen? ⟨w.heap.size + 1, 0, none⟩ = false := by rw [← hw3]; simp [go_sem]
  have hR : Rdr w3 (w.heap.size + 1 + 1) A l cap 0 := by
    refine ⟨by rw [← hw3]; simp [go_sem], by rw [← hw3]; simp [go_sem], by rw [← hw3]; simp [go_sem], by omega, hc.below hb3, ?_, hl, hcap, hcap2, Nat.zero_le _⟩
    intro a ha hx
    have := hc.where ha hx
    omega
  have hp3 := (hb3.cell hpb).trans hp
  clear hw3
  refine (Target1 p t ht (w.heap.size + 1 + 1) A l cap w3 hp3 hR (by omega) (by omega) hps).mono ?_
  rintro e w4 ⟨hk4, hcase⟩
  have d0 := (hk4.cell (b := w.heap.size) (o := 0) (by omega) (by omega)).trans c0
  have d1 := (hk4.cell (b := w.heap.size + 1) (o := 0) (by omega) (by omega)).trans c1
  have g0 := (hk4.frozen (b := w.heap.size) (o := 0) (by omega) (by omega)).trans f0
  have g1 := (hk4.frozen (b := w.heap.size + 1) (o := 0) (by omega) (by omega)).trans f1
  have hsz4 := hk4.size
  have hb4 : Below w.heap.size w w4 := hb3.trans (hk4.below (by omega) (fun k hk => by omega))
  clear c0 c1 f0 f1 hR hp3 hk4
  have door : ∀ W : World, Below w.heap.size w W → (∃ x, W.cell? ⟨w.heap.size, 0, none⟩ = some x) → W.cell? ⟨w.heap.size + 1, 0, none⟩ = some (.int .i64 0) → W.frozen? ⟨w.heap.size, 0, none⟩ = false → W.frozen? ⟨w.heap.size + 1, 0, none⟩ = false → w.heap.size + 3 ≤ W.heap.size →
      CallsD Tryz.prog 209 #[.pointer (some ⟨w.heap.size, 0, none⟩), .pointer (some ⟨w.heap.size + 1, 0, none⟩)] (.panicking mustP) W fun e u' w' =>
      e = .returned (.tuple #[]) ∧ u' = mustR ∧ w'.cell? ⟨w.heap.size, 0, none⟩ = some (.slice none 0 0) ∧ w'.cell? ⟨w.heap.size + 1, 0, none⟩ = some (.int .i64 50) ∧ Below w.heap.size w w' := fun W hb ⟨x, k0⟩ k1 j0 j1 hs =>
    (readN1_panic w.heap.size (w.heap.size + 1) _ _ W k0 k1 j0 j1 (by omega) (by omega) (by omega)).mono fun e u' w' ⟨h1, h2, h3, h4, h5⟩ => ⟨h1, h2, h3, h4, hb.trans h5⟩
  have HD := Lib.hid door
  clear door
  rcases hcase with ⟨j, v, rfl, hr, hs, hown⟩ | ⟨hs, rfl⟩
  · obtain ⟨A5, c5, rfl, _, _⟩ := Cs.of_own hown
    have HS := Lib.hid hs
    have e1 := hr.c1
    have hlj := hr.le
    clear hs hr
    have n0 : ¬ w.heap.size = w.heap.size + 1 := by omega
    have n1 : ¬ w.heap.size = w.heap.size + 1 + 1 := by omega
    have n2 : ¬ w.heap.size + 1 = w.heap.size := by omega
    have n3 : ¬ w.heap.size + 1 = w.heap.size + 1 + 1 := by omega
    by_cases hj : j = l.length
    · have hjb : ((j : Int) == (l.length : Int)) = true := by simp [hj]
      have HT : Hid (shp t l = true) := Lib.hid (by rw [HS.out]; simpa using hj)
      clear hj HS
      go_wp2_with fail
      refine (must_yes _).mono ?_
      rintro e w' ⟨rfl, rfl⟩
      go_wp2_with fail
      have hk5 : Kept (fun b => b = w.heap.size) w4 (w4.setCell ⟨w.heap.size, 0, none⟩ (Value.slice A5 (openN (l.drop (ahd t))).length c5)) := Kept.setCell (S := fun b => b = w.heap.size) (Kept.refl _ _) (p := ⟨w.heap.size, 0, none⟩) (fun _ => rfl) _
      have k0 := setc_same (v := (Value.slice A5 (openN (l.drop (ahd t))).length c5)) d0
      have k1 := (hk5.cell (b := w.heap.size + 1) (o := 0) (by omega) (by omega)).trans d1
      have hs5 := hk5.size
      obtain ⟨z0, z1, hk6⟩ := two k0 k1 (by omega) (Value.slice A5 (openN (l.drop (ahd t))).length c5) (.int .i64 0) rfl
      have hb6 := (hb4.trans (hk5.below (B := w.heap.size) (by omega) (fun k hk => by omega))).trans (hk6.below (B := w.heap.size) (by omega) (fun k hk => by omega))
      have hown6 := Kept.row (Kept.row hown hk5 (fun k hk => by have := (hown.lt k hk).1; omega)) hk6 (fun k hk => by have := (hown.lt k hk).1; omega)
      clear hk6
      generalize ((w4.setCell { block := w.heap.size, off := 0 } (Value.slice A5 (openN (l.drop (ahd t))).length c5)).setCell { block := w.heap.size, off := 0 } (Value.slice A5 (openN (l.drop (ahd t))).length c5)).setCell { block := w.heap.size + 1, off := 0 } (Value.int IntKind.i64 0) = w6 at *
      refine leaves_cons (f := 209) (args := #[.pointer (some ⟨w.heap.size, 0, none⟩), .pointer (some ⟨w.heap.size + 1, 0, none⟩)]) (by simp) (by simp [go_sem]) ?_
      refine (readN1_idle _ _ _).mono ?_
      rintro e u' w9 ⟨rfl, rfl, rfl⟩
      simp [Leaves, settle, results, Tryz.results173, go_sem, z0, z1]
      have HTg : tgt t l = openN (l.drop (ahd t)) := by unfold tgt; rw [HT.out]; rfl
      exact ⟨hb6, _, ⟨rfl, by rw [HT.out]; rfl⟩, by rw [HTg]; exact own_base hown6 (by omega)⟩
    · have hjb : ((j : Int) == (l.length : Int)) = false := by simp; omega
      have HT : Hid (shp t l = false) := Lib.hid (by rw [HS.out]; simpa using hj)
      clear hj HS
      go_wp2_with fail
      refine (must_no _).mono ?_
      rintro e w' ⟨rfl, rfl⟩
      have hk5 : Kept (fun b => b = w.heap.size) w4 (w4.setCell ⟨w.heap.size, 0, none⟩ (Value.slice A5 (openN (l.drop (ahd t))).length c5)) := Kept.setCell (S := fun b => b = w.heap.size) (Kept.refl _ _) (p := ⟨w.heap.size, 0, none⟩) (fun _ => rfl) _
      have hb5 := hb4.trans (hk5.below (B := w.heap.size) (by omega) (fun k hk => by omega))
      have k0 := setc_same (v := (Value.slice A5 (openN (l.drop (ahd t))).length c5)) d0
      have k1 := (hk5.cell (b := w.heap.size + 1) (o := 0) (by omega) (by omega)).trans d1
      have j0 := (setc_frozen (p := ⟨w.heap.size, 0, none⟩) (v := (Value.slice A5 (openN (l.drop (ahd t))).length c5))).trans g0
      have j1 := (setc_frozen (p := ⟨w.heap.size, 0, none⟩) (v := (Value.slice A5 (openN (l.drop (ahd t))).length c5))).trans g1
      have hs5 := hk5.size
      go_wp2_with fail
      refine leaves_cons (f := 209) (args := #[.pointer (some ⟨w.heap.size, 0, none⟩), .pointer (some ⟨w.heap.size + 1, 0, none⟩)]) (by simp) (by simp [go_sem]) ?_
      refine (HD.out _ hb5 ⟨_, k0⟩ k1 j0 j1 (by omega)).mono ?_
      rintro e u' w5 ⟨rfl, rfl, z0, z1, hb6⟩
      simp [Leaves, settle, mustR, results, Tryz.results173, go_sem, z0, z1]
      have HTg : tgt t l = [] := by unfold tgt; rw [HT.out]; rfl
      exact ⟨hb6, _, ⟨rfl, by rw [HT.out]; rfl⟩, by rw [HTg]; exact World.ownsRow_nil _ _ _ _⟩
  · have HS := Lib.hid hs
    clear hs
    go_wp2_with fail
    refine leaves_cons (f := 209) (args := #[.pointer (some ⟨w.heap.size, 0, none⟩), .pointer (some ⟨w.heap.size + 1, 0, none⟩)]) (by simp) (by simp [go_sem]) ?_
    refine (HD.out w4 hb4 ⟨_, d0⟩ d1 g0 g1 (by omega)).mono ?_
    rintro e u' w5 ⟨rfl, rfl, z0, z1, hb5⟩
    simp [Leaves, settle, mustR, results, Tryz.results173, go_sem, z0, z1]
    have HTg : tgt t l = [] := by unfold tgt; rw [HS.out]; rfl
    exact ⟨hb5, _, ⟨rfl, by rw [HS.out]; rfl⟩, by rw [HTg]; exact World.ownsRow_nil _ _ _ _⟩
end Nm
end Go.Proofs.YtkeimgamjnpcbaaGreat

/- Contracts of package rdata: Target, Canon at all types but SOA, RRSIG, DNSKEY, NSEC3. -/
namespace Go.Proofs.YtkeimgamjnpcbaaGreat
open Go.RowKit
set_option linter.unusedVariables false
namespace Nm
theorem isN_bools {t : Int} (ht : isN t) : (t == 2) = true ∨ (t == 2) = false ∧ (t == 5) = true ∨ (t == 2) = false ∧ (t == 5) = false ∧ (t == 15) = true := by
  rcases ht with rfl | rfl | rfl
  · exact .inl rfl
  · exact .inr (.inl ⟨rfl, rfl⟩)
  · exact .inr (.inr ⟨rfl, rfl, rfl⟩)
set_option maxRecDepth 100000 in
set_option maxHeartbeats 2000000 in
theorem Target (t : Int) (ht : isN t) (A : Option Addr) (l : Lab) (cap : Nat) (w : World) (hc : Cs w A (l.map byteV)) (hl : l.length ≤ 100000) (hcap : l.length ≤ cap) (hcap2 : cap ≤ maxLen) :
    Calls Tryz.prog 129 #[.int .u16 t, .slice A l.length cap] w fun e w' =>
      Below w.heap.size w w' ∧ ∃ v, e = .returned (.tuple #[v, .int .i64 (code50 (shp t l))]) ∧ w'.ownsRow w.heap.size 9 1 v (tgt t l).length ((tgt t l).map strV) := by
  have hmf : ∀ (fn : Fn) (first cap : Array Value) (w : World), (Instr.makeFunc fn first cap).run Tryz.prog w = .ok (.func fn first cap) w := fun _ _ _ _ => rfl
  have hb1 : Below w.heap.size w (w.alloc (.cells #[.int .u16 t] 24)) := (Below.refl _ _).alloc (Nat.le_refl _) _
  have hr := readN ⟨w.heap.size, 0, none⟩ t ht A l cap (w.alloc (.cells #[.int .u16 t] 24)) (by simp [go_sem]) (by simp) rfl (hc.below hb1) hl hcap hcap2
  have HR := Lib.hid hr
  have hbs := isN_bools ht
  clear hr hc ht
  rcases hbs with h1 | ⟨h1, h2⟩ | ⟨h1, h2, h3⟩
  all_goals
    go_enter Tryz.func129, Tryz.ntmps129
    go_wp2_with fail
    refine HR.out.mono ?_
    rintro e w2 ⟨hb2, v, rfl, hown⟩
    go_wp2_with fail
    go_ret2
    exact ⟨hb1.trans (hb2.mono (by simp)), _, rfl, own_base hown (by simp)⟩
/-- what rdata.Canon hands back -/
def canonR (t : Int) (l : Lab) : Lab := if chk t l then canonO t l else []
theorem canonR_yes {t : Int} {l : Lab} (h : chk t l = true) : canonR t l = canonO t l := by unfold canonR; rw [h]; rfl
theorem canonR_no {t : Int} {l : Lab} (h : chk t l = false) : canonR t l = [] := by unfold canonR; rw [h]; rfl
theorem canonO_name {t : Int} (ht : isN t) (l : Lab) : canonO t l = l.take (ahd t) ++ wire (lower (openN (l.drop (ahd t)))) := by
  rcases ht with rfl | rfl | rfl
  · rfl
  · rfl
  · rfl
theorem shp_of_chk {t : Int} (h1 : t ≠ 6) (h2 : t ≠ 46) (h3 : t ≠ 48) {l : Lab} (h : chk t l = true) : shp t l = true ∧ l.length ≤ 8192 := by
  rw [chk_shp h1 h2 h3] at h
  simp at h
  exact ⟨h.2, h.1⟩
theorem openN_small (b : Lab) : Small (openN b) := by
  cases hO : openO b with
  | none => rw [(openO_none hO).2.1]; exact ⟨by simp, by simp⟩
  | some p =>
    obtain ⟨n, k⟩ := p
    obtain ⟨_, h2, _, h4, _⟩ := openO_some hO
    obtain ⟨g1, g2, g3, g4⟩ := openO_le hO
    rw [h4]
    exact ⟨by omega, fun l hl => by have := (g3 l hl).2; omega⟩
theorem wire_small {n : List Lab} (h : Small n) : (wire n).length ≤ 1001001 := by
  have := wires_few h
  unfold wire; simp; omega
set_option maxRecDepth 100000 in
set_option maxHeartbeats 4000000 in
theorem CanonN (t : Int) (ht : isN t) (A : Option Addr) (l : Lab) (cap : Nat) (w : World) (hc : Cs w A (l.map byteV)) (hl : l.length ≤ 100000) (hcap : l.length ≤ cap) (hcap2 : cap ≤ maxLen) :
    Calls Tryz.prog 97 #[.int .u16 t, .slice A l.length cap] w fun e w' =>
      Below w.heap.size w w' ∧ ∃ v, e = .returned (.tuple #[v, .int .i64 (code50 (chk t l))]) ∧ w'.ownsRow w.heap.size 5 1 v (canonR t l).length ((canonR t l).map byteV) := by
  have q1 : t ≠ 6 := by rcases ht with rfl | rfl | rfl <;> decide
  have q2 : t ≠ 46 := by rcases ht with rfl | rfl | rfl <;> decide
  have q3 : t ≠ 48 := by rcases ht with rfl | rfl | rfl <;> decide
  have q4 : t ≠ 50 := by rcases ht with rfl | rfl | rfl <;> decide
  have hC := CheckS t A l cap w q1 q2 q3 q4 hc hl hcap hcap2
  have HC := Lib.hid hC
  clear hC
  cases hk : chk t l with
  | false =>
    have HE := Lib.hid (canonR_no hk)
    have HK := Lib.hid hk
    clear hk hc
    rw [HK.out] at HC
    go_enter Tryz.func97, Tryz.ntmps97
    go_wp2_with fail
    refine HC.out.mono ?_
    rintro e w1 ⟨hb1, rfl⟩
    unfold code50
    go_wp2_with fail
    go_ret2
    exact ⟨hb1, _, rfl, by rw [HE.out]; exact World.ownsRow_nil _ _ _ _⟩
  | true =>
    obtain ⟨hs, hl8⟩ := shp_of_chk q1 q2 q3 hk
    have HE := Lib.hid ((canonR_yes hk).trans (canonO_name ht l))
    have HTg : Hid (tgt t l = openN (l.drop (ahd t))) := Lib.hid (by unfold tgt; rw [hs]; rfl)
    have hsm := openN_small (l.drop (ahd t))
    have HK := Lib.hid hk
    have hbs := isN_bools ht
    have ha2 : ahd t ≤ l.length := by
      have := shp_name ht l
      rw [hs] at this
      simp at this
      exact this.1
    have hC2 : Cs w A ((l.take (ahd t)).map byteV) := by rw [List.map_take]; exact hc.take' _
    have HT : Hid (∀ W, Below w.heap.size w W → Calls Tryz.prog 129 #[.int .u16 t, .slice A l.length cap] W fun e w' =>
      Below W.heap.size W w' ∧ ∃ v, e = .returned (.tuple #[v, .int .i64 (code50 (shp t l))]) ∧ w'.ownsRow W.heap.size 9 1 v (tgt t l).length ((tgt t l).map strV)) := Lib.hid fun W hW => Target t ht A l cap W (hc.below hW) hl hcap hcap2
    rw [HK.out] at HC
    rw [hs, HTg.out] at HT
    have HC2 := Lib.hid hC2
    have htl : (l.take (ahd t)).length = ahd t := by rw [List.length_take]; omega
    have HTL := Lib.hid htl
    have HA : Hid (∀ W, Calls Tryz.prog 130 #[.int .u16 t] W fun e w' => e = .returned (.int .i64 (ahd t)) ∧ W = w') := Lib.hid (ahead t)
    have HE2 : Hid (canonR t l = l.take (ahd t) ++ wire (lower (openN (l.drop (ahd t))))) := HE
    clear hk hs ht hc HE hC2 htl HTg q1 q2 q3 q4
    generalize canonR t l = cr at *
    generalize openN (l.drop (ahd t)) = nm at *
    generalize hpre : l.take (ahd t) = pr at *
    clear hpre
    generalize ahd t = a at *
    unfold maxLen at hcap2
    unfold code50 at *
    rcases hbs with h1 | ⟨h1, h2⟩ | ⟨h1, h2, h3⟩
    all_goals
      go_enter Tryz.func97, Tryz.ntmps97
      go_wp2_with fail
      refine HC.out.mono ?_
      rintro e w1 ⟨hb1, rfl⟩
      go_wp2_with fail
      refine (HT.out w1 hb1).mono ?_
      rintro e w2 ⟨hb2, v, rfl, hown⟩
      obtain ⟨A5, c5, rfl, _, hcs5⟩ := Cs.of_own hown
      have hb12 := hb1.trans (hb2.mono hb1.size)
      clear hown
      have HCS := Lib.hid hcs5
      clear hcs5
      go_wp2_with fail
      refine (HA.out _).mono ?_
      rintro e w3 ⟨rfl, rfl⟩
      have hcl := CloneB A pr cap w2 (HC2.out.below hb12) (by rw [HTL.out]; omega)
      rw [HTL.out] at hcl
      go_wp2_with fail
      refine hcl.mono ?_
      rintro e w3 ⟨v3, rfl, hown3, hb3⟩
      have hb123 := hb12.trans (hb3.mono hb12.size)
      go_wp2_with fail
      refine (Lower A5 nm c5 w3 (HCS.out.below hb3) hsm.few).mono ?_
      rintro e w4 ⟨v4, rfl, hown4, hb4⟩
      obtain ⟨A6, c6, rfl, _, hcs6⟩ := Cs.of_own hown4
      have hb1234 := hb123.trans (hb4.mono hb123.size)
      have hown34 := own_below hown3 hb4
      have HCS6 : Hid (Cs w4 A6 ((lower nm).map strV)) := Lib.hid (by exact hcs6)
      have hll : (lower nm).length = nm.length := lower_len nm
      have hwi := Wire A6 (lower nm) c6 w4 HCS6.out hsm.lower
      rw [hll] at hwi
      have HWI := Lib.hid hwi
      have hwl := wire_small hsm.lower
      clear hcs6 hwi hll hown3 hown4
      go_wp2_with fail
      refine HWI.out.mono ?_
      rintro e w5 ⟨v5, rfl, hown5, hb5⟩
      obtain ⟨A7, c7, rfl, _, hcs7⟩ := Cs.of_own hown5
      have hb12345 := hb1234.trans (hb5.mono hb1234.size)
      have hown35 := own_below hown34 hb5
      have hz1 := hb12.size
      have hz2 := hb12345.size
      have hz3 := hb123.size
      have hz4 := hb1234.size
      clear hown5 hown34
      have HCS7 := Lib.hid hcs7
      clear hcs7
      generalize wire (lower nm) = wl at *
      have hown36 := own_base hown35 hz1
      clear hown35
      go_wp2_with (first | (at_builtin; refine wpList_bytes hown36 hz2 HCS7.out rfl _ _ Tryz.underlying31 rfl rfl rfl (by omega) ?_; intro v8 w8 hown8 hbw8; have hbw9 := hb12345.trans hbw8))
      go_ret2
      refine ⟨hbw9, _, rfl, ?_⟩
      rw [HE2.out, List.length_append, HTL.out]
      exact hown8
set_option maxRecDepth 100000 in
set_option maxHeartbeats 4000000 in
theorem CanonP (t : Int) (p1 : t ≠ 2) (p2 : t ≠ 5) (p3 : t ≠ 15) (q1 : t ≠ 6) (q2 : t ≠ 46) (q3 : t ≠ 48) (q4 : t ≠ 50) (A : Option Addr) (l : Lab) (cap : Nat) (w : World) (hc : Cs w A (l.map byteV)) (hl : l.length ≤ 100000) (hcap : l.length ≤ cap) (hcap2 : cap ≤ maxLen) :
    Calls Tryz.prog 97 #[.int .u16 t, .slice A l.length cap] w fun e w' =>
      Below w.heap.size w w' ∧ ∃ v, e = .returned (.tuple #[v, .int .i64 (code50 (chk t l))]) ∧ w'.ownsRow w.heap.size 5 1 v (canonR t l).length ((canonR t l).map byteV) := by
  have hC := CheckS t A l cap w q1 q2 q3 q4 hc hl hcap hcap2
  have HC := Lib.hid hC
  have b1 : (t == 2) = false := by simpa using p1
  have b2 : (t == 5) = false := by simpa using p2
  have b3 : (t == 15) = false := by simpa using p3
  have b4 : (t == 6) = false := by simpa using q1
  have b5 : (t == 46) = false := by simpa using q2
  clear hC
  cases hk : chk t l with
  | false =>
    have HE := Lib.hid (canonR_no hk)
    have HK := Lib.hid hk
    clear hk hc
    rw [HK.out] at HC
    go_enter Tryz.func97, Tryz.ntmps97
    go_wp2_with fail
    refine HC.out.mono ?_
    rintro e w1 ⟨hb1, rfl⟩
    unfold code50
    go_wp2_with fail
    go_ret2
    exact ⟨hb1, _, rfl, by rw [HE.out]; exact World.ownsRow_nil _ _ _ _⟩
  | true =>
    have HE : Hid (canonR t l = l) := Lib.hid ((canonR_yes hk).trans (by
      unfold canonO
      rw [if_neg (fun h => h.elim p1 p2), if_neg p3, if_neg q1, if_neg q2]))
    have HK := Lib.hid hk
    clear hk
    rw [HK.out] at HC
    have HCs := Lib.hid hc
    clear hc p1 p2 p3 q1 q2 q3 q4
    unfold code50 at *
    go_enter Tryz.func97, Tryz.ntmps97
    go_wp2_with fail
    refine HC.out.mono ?_
    rintro e w1 ⟨hb1, rfl⟩
    go_wp2_with fail
    refine (CloneB A l cap w1 (HCs.out.below hb1) (by omega)).mono ?_
    rintro e w3 ⟨v3, rfl, hown3, hb3⟩
    go_wp2_with fail
    go_ret2
    exact ⟨hb1.trans (hb3.mono hb1.size), _, rfl, by rw [HE.out]; exact own_base hown3 hb1.size⟩
end Nm
end Go.Proofs.YtkeimgamjnpcbaaGreat

/- Contracts of package canon: data and Message, of sets of one datum. -/
namespace Go.Proofs.YtkeimgamjnpcbaaGreat
open Go.RowKit
set_option linter.unusedVariables false
namespace Nm
theorem info_bytes : (Tryz.prog.info? 31).map (fun i => (i.zero, i.size, i.bytes)) = some (some (.slice none 0 0), 1, 24) := by kernel_rfl
theorem Compact1 (A : Option Addr) (cap : Nat) (f : Value) (w : World) : Calls Tryz.prog 100 #[.slice A 1 cap, f] w fun e w' => e = .returned (.slice A 1 cap) ∧ w = w' := by
  go_enter Tryz.func100, Tryz.ntmps100
  go_wp2_with fail
  go_ret
  exact ⟨rfl, rfl⟩
/-- a row of one -/
theorem row_one {w : World} {B : Nat} {e : TypeId} {v u : Value} (h : w.ownsRow B e 1 v 1 [u]) : ∃ g cap, v = .slice (some ⟨g, 0, none⟩) 1 cap ∧ B ≤ g ∧ g < w.heap.size ∧ w.cell? ⟨g, 0, none⟩ = some u ∧ w.frozen? ⟨g, 0, none⟩ = false := by
  rcases h.2 with ⟨_, hn⟩ | ⟨g, cap, cur, rfl, hg, hh, hn, hcap, hsz, htake⟩
  · omega
  · refine ⟨g, cap, rfl, hg, lt_block hh, ?_, by simp [World.frozen?, hh]⟩
    rw [cell_of_row w g 0 _ _ _ hh]
    have h0 : (cur.toList.take (1 * 1))[0]? = some u := by rw [htake]; rfl
    simpa using h0
/-- the types that are checked by their shape, and hold no name -/
def plainT (t : Int) : Prop := t ≠ 2 ∧ t ≠ 5 ∧ t ≠ 15 ∧ t ≠ 6 ∧ t ≠ 46 ∧ t ≠ 48 ∧ t ≠ 50
theorem canonD_plain {t : Int} (h : plainT t) (l : Lab) : canonD t l = l := by
  obtain ⟨p1, p2, p3, q1, q2, q3, q4⟩ := h
  unfold canonD
  split
  · unfold canonO
    rw [if_neg (fun h => h.elim p1 p2), if_neg p3, if_neg q1, if_neg q2]
  · rfl
set_option maxRecDepth 100000 in
set_option maxHeartbeats 4000000 in
/-- data of a set of one datum that is of its type -/
theorem data1 (A D : Option Addr) (n : List Lab) (cap dcap : Nat) (t ttl : Int) (b : Blob) (w : World) (ht : plainT t) (hok : chk t b.l = true) (hD : Cs w D [b.v]) (hb : b.ok w) (hcap : b.l.length ≤ b.cap) (hcap2 : b.cap ≤ maxLen) :
    Calls Tryz.prog 62 #[.agg #[.slice A n.length cap, .int .u16 t, .int .u32 ttl, .slice D 1 dcap]] w fun e w' =>
      ∃ A' x c, e = .returned (.slice A' 1 c) ∧ Cs w' A' [Blob.v x] ∧ x.l = b.l ∧ x.ok w' ∧ Below w.heap.size w w' := by
  obtain ⟨i0, hi, hz0, hz1, hz2⟩ := info_parts info_bytes
  have hl8 : b.l.length ≤ 8192 := (shp_of_chk ht.2.2.2.1 ht.2.2.2.2.1 ht.2.2.2.2.2.1 hok).2
  obtain ⟨p1, p2, p3, q1, q2, q3, q4⟩ := ht
  have HE : Hid (canonR t b.l = b.l) := Lib.hid ((canonR_yes hok).trans (by
    unfold canonO
    rw [if_neg (fun h => h.elim p1 p2), if_neg p3, if_neg q1, if_neg q2]))
  obtain ⟨db, doff, rfl, hdb, hdc⟩ := hD 0 _ rfl
  rw [Nat.add_zero] at hdc
  have hb1 : Below w.heap.size w (w.alloc (.cells #[.slice A n.length cap, .int .u16 t, .int .u32 ttl, .slice (some ⟨db, doff, none⟩) 1 dcap] 28)) := (Below.refl _ _).alloc (Nat.le_refl _) _
  have hd1 := (bcl hb1 (o := doff) hdb).trans hdc
  have hCn := CanonP t p1 p2 p3 q1 q2 q3 q4 b.A b.l b.cap (w.alloc (.cells #[.slice A n.length cap, .int .u16 t, .int .u32 ttl, .slice (some ⟨db, doff, none⟩) 1 dcap] 28)) (Cs.below hb hb1) (by omega) hcap hcap2
  rw [hok] at hCn
  have HC := Lib.hid hCn
  have hbv : b.v = .slice b.A b.l.length b.cap := rfl
  rw [hbv] at hdc hd1
  clear hCn hok p1 p2 p3 q1 q2 q3 q4 hbv hD
  unfold code50 at HC
  go_enter Tryz.func62, Tryz.ntmps62
  go_wp2_with fail
  refine wp_loop_rounds 2 ?_
  rw [rounds_succ]
  go_wp2_with fail
  refine HC.out.mono ?_
  rintro e w1 ⟨hbw1, v, rfl, hown⟩
  rw [HE.out] at hown
  obtain ⟨A5, c5, rfl, _, hcs5⟩ := Cs.of_own hown
  have hb2 := hb1.trans (hbw1.mono hb1.size)
  have HO := Lib.hid hown
  have hz1' := hb1.size
  have hz2' := hbw1.size
  clear hown hcs5
  go_wp2_with (first | (at_builtin; refine wpList_push2 (B := w1.heap.size) (v := .slice none 0 0) (n := 0) (xs := []) (World.ownsRow_nil _ _ 31 1) (Nat.le_refl _) [.slice A5 b.l.length c5] rfl (by simp [Value.oneCell']) hi hz0 hz1 hz2 rfl (by decide) rfl _ _ 26 Tryz.underlying26 rfl rfl rfl (by unfold maxLen; omega) (by omega) ?_; intro v4 w4 hown4 hbw4))
  rw [rounds_succ]
  go_wp2_with fail
  obtain ⟨g, cap4, hv4, hg1, hg2, hcell, hfr⟩ := row_one hown4
  subst hv4
  have hb4 : Below w.heap.size w w4 := hb2.trans (hbw4.mono (by omega))
  have hz4 := hbw4.size
  have hcs4 : Cs w4 A5 (b.l.map byteV) := by
    obtain ⟨A6, c6, e6, _, h6⟩ := Cs.of_own (own_below HO.out hbw4)
    cases e6
    exact h6
  have hne : ∀ a, A5 = some a → b.l.map byteV ≠ [] → a.block ≠ g := fun a ha hx => by
    obtain ⟨A6, c6, e6, _, h6⟩ := Cs.of_own HO.out
    cases e6
    have := h6.where ha hx
    omega
  have HN := Lib.hid hne
  have HC4 := Lib.hid hcs4
  clear hcs4 hne hown4
  refine (SortB1 g cap4 c5 A5 b.l w4 hcell hfr hg2 HC4.out HN.out).mono ?_
  rintro e w5 ⟨rfl, hk5, hc5⟩
  go_wp2_with fail
  refine (Compact1 _ _ _ _).mono ?_
  rintro e w6 ⟨rfl, rfl⟩
  go_wp2_with fail
  go_ret
  refine ⟨_, ⟨A5, b.l, c5⟩, _, rfl, ?_, rfl, ?_, hb4.trans (hk5.below (by omega) (fun k hk => by omega))⟩
  · intro i u hu
    cases i with
    | zero =>
      simp at hu
      exact ⟨g, 0, rfl, by have := hk5.size; omega, by rw [← hu]; exact hc5⟩
    | succ i => simp at hu
  · exact Kept.cs HC4.out hk5 HN.out
end Nm
end Go.Proofs.YtkeimgamjnpcbaaGreat

/- Contracts of package canon: Message, of sets of one datum under a name that is no longer than the signature says. -/
namespace Go.Proofs.YtkeimgamjnpcbaaGreat
open Go.RowKit
set_option linter.unusedVariables false
namespace Nm
def SigM.low (g : SigM) : SigM := { g with n := lower g.n, s := [] }
def headB (n : List Lab) (t ttl : Nat) : Lab := wire (Nm.lower n) ++ (be2 t ++ [0, 1] ++ be4 ttl)
def msg1 (n : List Lab) (t : Nat) (b : Lab) (g : SigM) : Lab := g.low.bytes ++ headB n t g.ttl ++ be2 b.length ++ b
def tailV (t ttl : Nat) : List Value := [.int .u8 ((t : Int) / 256), .int .u8 ((t : Int) % 256), .int .u8 0, .int .u8 1, .int .u8 ((ttl : Int) / 16777216), .int .u8 ((ttl : Int) / 65536 % 256), .int .u8 ((ttl : Int) / 256 % 256), .int .u8 ((ttl : Int) % 256)]
theorem map_tail {t ttl : Nat} (ht : t < 65536) (hl : ttl < 4294967296) : (be2 t ++ [0, 1] ++ be4 ttl).map byteV = tailV t ttl := by
  have a1 : byteV (UInt8.ofNat (t / 256)) = .int .u8 ((t : Int) / 256) := by rw [byteV_mod]; congr 1; omega
  have a2 : byteV (UInt8.ofNat t) = .int .u8 ((t : Int) % 256) := by rw [byteV_mod]
  have b1 : byteV (UInt8.ofNat (ttl / 16777216)) = .int .u8 ((ttl : Int) / 16777216) := by rw [byteV_mod]; congr 1; omega
  have b2 : byteV (UInt8.ofNat (ttl / 65536)) = .int .u8 ((ttl : Int) / 65536 % 256) := by rw [byteV_mod]; congr 1
  have b3 : byteV (UInt8.ofNat (ttl / 256)) = .int .u8 ((ttl : Int) / 256 % 256) := by rw [byteV_mod]; congr 1
  have b4 : byteV (UInt8.ofNat ttl) = .int .u8 ((ttl : Int) % 256) := by rw [byteV_mod]
  show [byteV (UInt8.ofNat (t / 256)), byteV (UInt8.ofNat t), byteV 0, byteV 1, byteV (UInt8.ofNat (ttl / 16777216)), byteV (UInt8.ofNat (ttl / 65536)), byteV (UInt8.ofNat (ttl / 256)), byteV (UInt8.ofNat ttl)] = _
  rw [a1, a2, b1, b2, b3, b4]
  rfl
theorem SigM.low_fits {g : SigM} (h : g.fits) : g.low.fits := ⟨h.t, h.al, h.lb, h.ttl, h.ex, h.bg, h.tg, h.n.lower, by simp [SigM.low]⟩
theorem setc_near {w : World} {b o k : Nat} {v : Value} (h : o ≠ k) : (w.setCell ⟨b, o, none⟩ v).cell? ⟨b, k, none⟩ = w.cell? ⟨b, k, none⟩ := World.cell?_setCell_other (w := w) (a := ⟨b, o, none⟩) (b := ⟨b, k, none⟩) (v := v) (by intro e; cases e; exact h rfl)
theorem kept_set2 (w : World) (b o k : Nat) (u v : Value) : Kept (fun i => i = b) w ((w.setCell ⟨b, o, none⟩ u).setCell ⟨b, k, none⟩ v) := ((Kept.refl (fun i => i = b) w).setCell (p := ⟨b, o, none⟩) (fun _ => rfl) u).setCell (p := ⟨b, k, none⟩) (fun _ => rfl) v
theorem concat4 (W : World) (A B C : Option Addr) (la bs cs : Lab) (ca cb cc : Nat) (hA : Cs W A (la.map byteV)) (hB : Cs W B (bs.map byteV)) (hC : Cs W C (cs.map byteV)) (h1 : la.length ≤ 10000000) (h2 : bs.length ≤ 10000000) (h3 : cs.length < 65536) :
    Calls Tryz.prog 63 #[.slice (some ⟨W.heap.size + 1, 0, none⟩) 4 4] ((W.alloc (.cells #[.int .u8 ((cs.length : Int) / 256), .int .u8 ((cs.length : Int) % 256)] 5)).alloc (.cells #[.slice A la.length ca, .slice B bs.length cb, .slice (some ⟨W.heap.size, 0, none⟩) 2 2, .slice C cs.length cc] 31)) fun e w' =>
      ∃ v, e = .returned v ∧ w'.ownsRow W.heap.size 5 1 v (la ++ bs ++ be2 cs.length ++ cs).length ((la ++ bs ++ be2 cs.length ++ cs).map byteV) ∧ Below W.heap.size W w' := by
  have e2 : (be2 cs.length).map byteV = [.int .u8 ((cs.length : Int) / 256), .int .u8 ((cs.length : Int) % 256)] := by
    have a1 : byteV (UInt8.ofNat (cs.length / 256)) = .int .u8 ((cs.length : Int) / 256) := by rw [byteV_mod]; congr 1; omega
    have a2 : byteV (UInt8.ofNat cs.length) = .int .u8 ((cs.length : Int) % 256) := by rw [byteV_mod]
    show [byteV (UInt8.ofNat (cs.length / 256)), byteV (UInt8.ofNat cs.length)] = _
    rw [a1, a2]
  have b1 : Below W.heap.size W (W.alloc (.cells #[.int .u8 ((cs.length : Int) / 256), .int .u8 ((cs.length : Int) % 256)] 5)) := (Below.refl _ _).alloc (Nat.le_refl _) _
  have hq : Cs (W.alloc (.cells #[.int .u8 ((cs.length : Int) / 256), .int .u8 ((cs.length : Int) % 256)] 5)) (some ⟨W.heap.size, 0, none⟩) ((be2 cs.length).map byteV) := by
    rw [e2]
    exact cs_new W 5 [.int .u8 ((cs.length : Int) / 256), .int .u8 ((cs.length : Int) % 256)] (0, 0)
  have hs1 : (W.alloc (.cells #[.int .u8 ((cs.length : Int) / 256), .int .u8 ((cs.length : Int) % 256)] 5)).heap.size = W.heap.size + 1 := by simp
  generalize W.alloc (.cells #[.int .u8 ((cs.length : Int) / 256), .int .u8 ((cs.length : Int) % 256)] 5) = W1 at *
  have b2 : Below W1.heap.size W1 (W1.alloc (.cells #[.slice A la.length ca, .slice B bs.length cb, .slice (some ⟨W.heap.size, 0, none⟩) 2 2, .slice C cs.length cc] 31)) := (Below.refl _ _).alloc (Nat.le_refl _) _
  have hr := cs_new W1 31 [.slice A la.length ca, .slice B bs.length cb, .slice (some ⟨W.heap.size, 0, none⟩) 2 2, .slice C cs.length cc] (0, 0)
  rw [hs1] at hr
  have b3 := b1.trans (b2.mono (by omega))
  have hcc := Concat (some ⟨W.heap.size + 1, 0, none⟩) [⟨A, la, ca⟩, ⟨B, bs, cb⟩, ⟨some ⟨W.heap.size, 0, none⟩, be2 cs.length, 2⟩, ⟨C, cs, cc⟩] 4 _ hr (by
    intro b hb
    rcases List.mem_cons.1 hb with rfl | hb
    · exact Cs.below (w := W) hA b3
    · rcases List.mem_cons.1 hb with rfl | hb
      · exact Cs.below (w := W) hB b3
      · rcases List.mem_cons.1 hb with rfl | hb
        · exact Cs.below (w := W1) hq b2
        · rcases List.mem_cons.1 hb with rfl | hb
          · exact Cs.below (w := W) hC b3
          · cases hb) (by simp) (by simp [join, be2]; omega)
  have hj : join [⟨A, la, ca⟩, ⟨B, bs, cb⟩, ⟨some ⟨W.heap.size, 0, none⟩, be2 cs.length, 2⟩, ⟨C, cs, cc⟩] = la ++ bs ++ be2 cs.length ++ cs := by simp [join]
  refine hcc.mono fun e w' h => ?_
  obtain ⟨v, he, ho, hb⟩ := h
  rw [hj] at ho
  exact ⟨v, he, own_base ho (by have := b3.size; simpa using this), b3.trans (hb.mono (by have := b3.size; simpa using this))⟩
set_option maxRecDepth 100000 in
set_option maxHeartbeats 20000000 in
theorem Message1 (A D : Option Addr) (n : List Lab) (cap dcap t sttl : Nat) (b : Blob) (g : SigM) (SA SS : Option Addr) (sc ssc : Nat) (w : World) (ht : plainT t) (ht2 : t < 65536) (hok : chk t b.l = true) (hA : Cs w A (n.map strV)) (hn : Small n) (hD : Cs w D [b.v]) (hb : b.ok w) (hcap : b.l.length ≤ b.cap) (hcap2 : b.cap ≤ maxLen)
    (hg : g.fits) (hSA : Cs w SA (g.n.map strV)) (hle : n.length ≤ g.lb) :
    Calls Tryz.prog 20 #[.agg #[.slice A n.length cap, .int .u16 t, .int .u32 sttl, .slice D 1 dcap], g.v SA sc SS ssc] w fun e w' =>
      ∃ v, e = .returned v ∧ w'.ownsRow w.heap.size 5 1 v (msg1 n t b.l g).length ((msg1 n t b.l g).map byteV) ∧ Below w.heap.size w w' := by
  obtain ⟨i0, hi, hz0, hz1, hz2⟩ := info_parts info_u8
  unfold SigM.v
  generalize hw2 : (w.alloc (.cells #[.slice A n.length cap, .int .u16 t, .int .u32 sttl, .slice D 1 dcap] 28)).alloc (.cells #[.int .u16 g.t, .int .u8 g.al, .int .u8 g.lb, .int .u32 g.ttl, .int .u32 g.ex, .int .u32 g.bg, .int .u16 g.tg, .slice SA g.n.length sc, .slice SS g.s.length ssc] 33) = w2
  have hb2 : Below w.heap.size w w2 := by rw [← hw2]; exact ((Below.refl _ _).alloc (Nat.le_refl _) _).alloc (by simp) _
  have hsz2 : w2.heap.size = w.heap.size + 2 := by rw [← hw2]; simp
  have hs : w2.heap[w.heap.size]? = some (.cells #[.slice A n.length cap, .int .u16 t, .int .u32 sttl, .slice D 1 dcap] 28 (0, 0)) := by
    rw [← hw2]
    have := heap_alloc_new w (.cells #[.slice A n.length cap, .int .u16 t, .int .u32 sttl, .slice D 1 dcap] 28)
    rw [Below.heap_alloc _ _ _ (by simp)]
    exact this
  have hgq : w2.heap[w.heap.size + 1]? = some (.cells #[.int .u16 g.t, .int .u8 g.al, .int .u8 g.lb, .int .u32 g.ttl, .int .u32 g.ex, .int .u32 g.bg, .int .u16 g.tg, .slice SA g.n.length sc, .slice SS g.s.length ssc] 33 (0, 0)) := by
    have := heap_alloc_new (w.alloc (.cells #[.slice A n.length cap, .int .u16 t, .int .u32 sttl, .slice D 1 dcap] 28)) (.cells #[.int .u16 g.t, .int .u8 g.al, .int .u8 g.lb, .int .u32 g.ttl, .int .u32 g.ex, .int .u32 g.bg, .int .u16 g.tg, .slice SA g.n.length sc, .slice SS g.s.length ssc] 33)
    rw [World.size_alloc] at this
    rw [← hw2]; exact this
  have s0 : w2.cell? ⟨w.heap.size, 0, none⟩ = some (.slice A n.length cap) := by rw [cell_of_row _ _ 0 _ _ _ hs]; rfl
  have s1 : w2.cell? ⟨w.heap.size, 1, none⟩ = some (.int .u16 t) := by rw [cell_of_row _ _ 1 _ _ _ hs]; rfl
  have s2 : w2.cell? ⟨w.heap.size, 2, none⟩ = some (.int .u32 sttl) := by rw [cell_of_row _ _ 2 _ _ _ hs]; rfl
  have s3 : w2.cell? ⟨w.heap.size, 3, none⟩ = some (.slice D 1 dcap) := by rw [cell_of_row _ _ 3 _ _ _ hs]; rfl
  obtain ⟨k0, k1, k2, k3, k4, k5, k6, k7, k8, kf⟩ := cells9 hgq
  have HA := Lib.hid (hA.below hb2)
  have HA0 := Lib.hid hA
  have HD0 := Lib.hid hD
  have HB0 := Lib.hid hb
  have HD := Lib.hid (hD.below hb2)
  have HB : Hid (b.ok w2) := Lib.hid (Cs.below hb hb2)
  have HSA := Lib.hid (hSA.below hb2)
  go_enter Tryz.func20, Tryz.ntmps20
  go_wp2_with fail
  clear hw2 hA hD hb hSA hs hgq HA HD HB
  refine (Lower SA g.n sc w2 HSA.out hg.n.few).mono ?_
  rintro e w3 ⟨v3, rfl, hown3, hb3⟩
  obtain ⟨A3, c3, rfl, _, hcs3⟩ := Cs.of_own hown3
  have hz3 := hb3.size
  have t0 := (bcl (o := 0) hb3 (show w.heap.size < _ by omega)).trans s0
  have t1 := (bcl (o := 1) hb3 (show w.heap.size < _ by omega)).trans s1
  have t2 := (bcl (o := 2) hb3 (show w.heap.size < _ by omega)).trans s2
  have t3 := (bcl (o := 3) hb3 (show w.heap.size < _ by omega)).trans s3
  have r0 := (bcl (o := 0) hb3 (show w.heap.size + 1 < _ by omega)).trans k0
  have r1 := (bcl (o := 1) hb3 (show w.heap.size + 1 < _ by omega)).trans k1
  have r2 := (bcl (o := 2) hb3 (show w.heap.size + 1 < _ by omega)).trans k2
  have r3 := (bcl (o := 3) hb3 (show w.heap.size + 1 < _ by omega)).trans k3
  have r4 := (bcl (o := 4) hb3 (show w.heap.size + 1 < _ by omega)).trans k4
  have r5 := (bcl (o := 5) hb3 (show w.heap.size + 1 < _ by omega)).trans k5
  have r6 := (bcl (o := 6) hb3 (show w.heap.size + 1 < _ by omega)).trans k6
  have r7 := (bcl (o := 7) hb3 (show w.heap.size + 1 < _ by omega)).trans k7
  have r8 := (bcl (o := 8) hb3 (show w.heap.size + 1 < _ by omega)).trans k8
  have f7 := (bfr (o := 7) hb3 (show w.heap.size + 1 < _ by omega)).trans (kf 7)
  have f8 := (bfr (o := 8) hb3 (show w.heap.size + 1 < _ by omega)).trans (kf 8)
  have hb23 := hb2.trans (hb3.mono (by omega))
  have HG := Lib.hid hg
  have HC3 := Lib.hid hcs3
  have hw3 : ∀ a, A3 = some a → (lower g.n).map strV ≠ [] → w2.heap.size ≤ a.block := fun a ha hx => (hown3.lt a.block (by rw [ha]; rfl)).1
  have HW3 := Lib.hid hw3
  clear k0 k1 k2 k3 k4 k5 k6 k7 k8 kf s0 s1 s2 s3 hb2 hown3 hcs3 hg hw3
  go_wp2_with fail
  generalize hw4 : (w3.setCell ⟨w.heap.size + 1, 8, none⟩ (.slice none 0 0)).setCell ⟨w.heap.size + 1, 7, none⟩ (.slice A3 g.n.length c3) = w4
  have hk4 : Kept (fun k => k = w.heap.size + 1) w3 w4 := by rw [← hw4]; exact kept_set2 _ _ _ _ _ _
  have hz4 := hk4.size
  have u0 := (hk4.cell (o := 0) (show w.heap.size < _ by omega) (by omega)).trans t0
  have u1 := (hk4.cell (o := 1) (show w.heap.size < _ by omega) (by omega)).trans t1
  have u2 := (hk4.cell (o := 2) (show w.heap.size < _ by omega) (by omega)).trans t2
  have u3 := (hk4.cell (o := 3) (show w.heap.size < _ by omega) (by omega)).trans t3
  have x2 : w4.cell? ⟨w.heap.size + 1, 2, none⟩ = some (.int .u8 g.lb) := by
    rw [← hw4, setc_near (by decide), setc_near (by decide)]
    exact r2
  have x3 : w4.cell? ⟨w.heap.size + 1, 3, none⟩ = some (.int .u32 g.ttl) := by
    rw [← hw4, setc_near (by decide), setc_near (by decide)]
    exact r3
  have hb4 : Below w.heap.size w w4 := hb23.trans (hk4.below (by omega) (fun k hk => by omega))
  have hcs4 : Cs w4 A3 ((lower g.n).map strV) := Kept.cs HC3.out hk4 (fun a ha hx => by have := HW3.out a ha hx; omega)
  have hsb := SigBytes g.low (SigM.low_fits HG.out) A3 none c3 0 w4 hcs4 (Cs.nil _ _)
  have hll := lower_len g.n
  unfold SigM.v SigM.low at hsb
  simp only [hll, List.length_nil] at hsb
  have HS := Lib.hid hsb
  clear hsb hcs4 r0 r1 r2 r3 r4 r5 r6 r7 r8 f7 f8 t0 t1 t2 t3 hw4
  refine HS.out.mono ?_
  rintro e w5 ⟨v5, rfl, hown5, hb5⟩
  have hz5 := hb5.size
  have y0 := (bcl (o := 0) hb5 (show w.heap.size < _ by omega)).trans u0
  have y1 := (bcl (o := 1) hb5 (show w.heap.size < _ by omega)).trans u1
  have y2 := (bcl (o := 2) hb5 (show w.heap.size < _ by omega)).trans u2
  have y3 := (bcl (o := 3) hb5 (show w.heap.size < _ by omega)).trans u3
  have z2 := (bcl (o := 2) hb5 (show w.heap.size + 1 < _ by omega)).trans x2
  have z3 := (bcl (o := 3) hb5 (show w.heap.size + 1 < _ by omega)).trans x3
  have H5 : Hid (w5.ownsRow w.heap.size 5 1 v5 g.low.bytes.length (g.low.bytes.map byteV)) := Lib.hid (own_base hown5 hb4.size)
  have hb5' := hb4.trans (hb5.mono hb4.size)
  clear hown5 u0 u1 u2 u3 x2 x3 HS HC3 HW3 hb3 hk4 hb23
  go_wp2_with fail
  have hA5 : Cs w5 A (n.map strV) := HA0.out.below hb5'
  refine (Lower A n cap w5 hA5 hn.few).mono ?_
  rintro e w7 ⟨v7, rfl, hown7, hb7⟩
  have hz7 := hb7.size
  have u0 := (bcl (o := 0) hb7 (show w.heap.size < _ by omega)).trans y0
  have u1 := (bcl (o := 1) hb7 (show w.heap.size < _ by omega)).trans y1
  have u2 := (bcl (o := 2) hb7 (show w.heap.size < _ by omega)).trans y2
  have u3 := (bcl (o := 3) hb7 (show w.heap.size < _ by omega)).trans y3
  have x2 := (bcl (o := 2) hb7 (show w.heap.size + 1 < _ by omega)).trans z2
  have x3 := (bcl (o := 3) hb7 (show w.heap.size + 1 < _ by omega)).trans z3
  have H7 := Lib.hid (own_below H5.out hb7)
  have hb8 := hb5'.trans (hb7.mono (by omega))
  obtain ⟨A7, c7, rfl, _, hcs7⟩ := Cs.of_own hown7
  have HC7 := Lib.hid hcs7
  have hglb := HG.out.lb
  have hgtl := HG.out.ttl
  have hsz7 : w.heap.size + 1 < w7.heap.size := by omega
  have hfew := hn.few
  have hnl : n.length ≤ 1000 := by have := hn.1; omega
  clear hown7 y0 y1 y2 y3 z2 z3 H5 hb5' hA5 hcs7 hz3 hz4 hz5 hsz2
  go_wp2_with fail
  have hlt := hz7
  have hn2 := hn.lower
  have hwl := wire_len_few hn2
  have hll2 := lower_len n
  have HWi : Hid (∀ W, Below w7.heap.size w7 W → Calls Tryz.prog 61 #[.slice A7 n.length c7] W fun e w' => ∃ v, e = .returned v ∧ w'.ownsRow W.heap.size 5 1 v (wire (lower n)).length ((wire (lower n)).map byteV) ∧ Below W.heap.size W w') := Lib.hid fun W hW => by
    have := Wire A7 (lower n) c7 W (HC7.out.below hW) hn2
    rw [hll2] at this
    exact this
  have hNB : w.heap.size + 1 < w7.heap.size := hsz7
  generalize hwn : wire (lower n) = wn at *
  refine wp_region_gen mixed0 (by kernel_rfl) w7.heap.size (Nat.le_refl _) [.is (.slice A7 n.length c7), .own w7.heap.size 5 1 wn.length (wn.map byteV),
    .is (.pointer (some ⟨w.heap.size, 1, none⟩)), .is (.int .u16 t), .is (.int .u16 ((t : Int) / 256)), .is (.int .u8 ((t : Int) / 256)),
    .is (.pointer (some ⟨w.heap.size, 1, none⟩)), .is (.int .u16 t), .is (.int .u8 ((t : Int) % 256)),
    .is (.pointer (some ⟨w.heap.size + 1, 3, none⟩)), .is (.int .u32 g.ttl), .is (.int .u32 ((g.ttl : Int) / 16777216)), .is (.int .u8 ((g.ttl : Int) / 16777216)),
    .is (.pointer (some ⟨w.heap.size + 1, 3, none⟩)), .is (.int .u32 g.ttl), .is (.int .u32 ((g.ttl : Int) / 65536)), .is (.int .u8 ((g.ttl : Int) / 65536 % 256)),
    .is (.pointer (some ⟨w.heap.size + 1, 3, none⟩)), .is (.int .u32 g.ttl), .is (.int .u32 ((g.ttl : Int) / 256)), .is (.int .u8 ((g.ttl : Int) / 256 % 256)),
    .is (.pointer (some ⟨w.heap.size + 1, 3, none⟩)), .is (.int .u32 g.ttl), .is (.int .u8 ((g.ttl : Int) % 256)),
    .own w7.heap.size 5 1 8 (tailV t g.ttl), .own w7.heap.size 5 1 (wn.length + 8) (wn.map byteV ++ tailV t g.ttl), .own w7.heap.size 5 1 (wn.length + 8) (wn.map byteV ++ tailV t g.ttl)]
    (fun i => if i = 25 then 2 else 0) (fun j => if j = 1 ∨ j = 24 ∨ j = 25 ∨ j = 26 then 1 else 0) (by kernel_rfl) ?_ ?_ ?_
  · intro j
    rcases j with _ | _ | _ | _ | _ | _ | _ | _ | _ | _ | _ | _ | _ | _ | _ | _ | _ | _ | _ | _ | _ | _ | _ | _ | _ | _ | _ | j
    all_goals first
      | exact kind_is _ _
      | exact kind_own _ _ _ _ _ _ (Nat.le_refl _)
      | (have hx : ¬ (j + 27 = 1 ∨ j + 27 = 24 ∨ j + 27 = 25 ∨ j + 27 = 26) := by omega
         rw [if_neg hx]
         exact kind_any _)
  · intro i o hio vals W hE haf
    have e1 := (bcl (o := 1) hE (show w.heap.size < _ by omega)).trans u1
    have e3 := (bcl (o := 3) hE (show w.heap.size + 1 < _ by omega)).trans x3
    have q1 : IntKind.u8.wrap ((t : Int) / 256) = (t : Int) / 256 := by simp [IntKind.wrap, IntKind.bits, IntKind.signed]; omega
    have q2 : IntKind.u8.wrap (t : Int) = (t : Int) % 256 := by simp [IntKind.wrap, IntKind.bits, IntKind.signed]
    have q3 : IntKind.u8.wrap ((g.ttl : Int) / 16777216) = (g.ttl : Int) / 16777216 := by simp [IntKind.wrap, IntKind.bits, IntKind.signed]; omega
    have q4 : IntKind.u8.wrap ((g.ttl : Int) / 65536) = (g.ttl : Int) / 65536 % 256 := by simp [IntKind.wrap, IntKind.bits, IntKind.signed]
    have q5 : IntKind.u8.wrap ((g.ttl : Int) / 256) = (g.ttl : Int) / 256 % 256 := by simp [IntKind.wrap, IntKind.bits, IntKind.signed]
    have q6 : IntKind.u8.wrap (g.ttl : Int) = (g.ttl : Int) % 256 := by simp [IntKind.wrap, IntKind.bits, IntKind.signed]
    rcases i with _ | _ | _ | _ | _ | _ | _ | _ | _ | _ | _ | _ | _ | _ | _ | _ | _ | _ | _ | _ | _ | _ | _ | _ | _ | _ | _ | i
    all_goals first
      | (exfalso; simp at hio; done)
      | (simp at hio; subst hio; simp [bindD, rdB, Region.binds, factAt] at haf; simp [opYield_def, yieldUpon, relAct, dstAt, Act.put, Region.wanted, go_sem, haf, e1, e3, Ext.refl, factAt, kindT, q1, q2, q3, q4, q5, q6]; done)
      | skip
    all_goals
      simp at hio
      subst hio
      simp [bindD, rdB, Region.binds, factAt] at haf
    · simp [opYield_def, yieldUpon, relAct, dstAt, Act.put, Region.wanted, go_sem, haf, factAt, kindT]
      refine (HWi.out W hE).mono fun e W' h5 => ?_
      obtain ⟨v, he, ho, hb⟩ := h5
      exact ⟨v, he, hb, own_base ho hE.size⟩
    · simp [opYield_def, yieldUpon, relAct, dstAt, Act.put, Region.wanted, go_sem, haf, factAt, kindT]
      exact ⟨(Below.refl _ _).alloc (Nat.le_refl _) _, own_rowC W w7.heap.size 5 (tailV t g.ttl) hE.size (by simp [tailV])⟩
    · obtain ⟨h1, h24⟩ := haf
      obtain ⟨A8, c8, e8, _, hcs8⟩ := Cs.of_own h24
      refine yield_bytes rfl (.tmp 37) (.tmp 60) Tryz.underlying31 rfl (v := vals 1) (by simp [relAct, dstAt, Act.put, Act.eval]) h1 hE.size (us := tailV t g.ttl) (A := A8) (c := c8) (by simp [relAct, dstAt, Act.put, Act.eval, e8, tailV]) hcs8 (by simp [tailV, Value.oneCell']) (by simp [tailV]; omega) ?_
      intro v' W' h4 h5
      exact ⟨h5, h4⟩
  · intro vals W hE hF
    have h26 := hF 26 (by show 26 < 27; omega) (by kernel_rfl)
    simp [relAct, dstAt, Act.put]
    clear hF
    have hzW := hE.size
    have y0 := (bcl (o := 0) hE (show w.heap.size < _ by omega)).trans u0
    have y1 := (bcl (o := 1) hE (show w.heap.size < _ by omega)).trans u1
    have y2 := (bcl (o := 2) hE (show w.heap.size < _ by omega)).trans u2
    have y3 := (bcl (o := 3) hE (show w.heap.size < _ by omega)).trans u3
    have h27 : W.ownsRow w.heap.size 5 1 (vals 26) (headB n t g.ttl).length ((headB n t g.ttl).map byteV) := by
      have he : (headB n t g.ttl).map byteV = wn.map byteV ++ tailV t g.ttl := by
        unfold headB
        rw [hwn, List.map_append, map_tail ht2 hgtl]
      rw [he, show (headB n t g.ttl).length = wn.length + 8 by unfold headB; rw [hwn]; simp [be2, be4]]
      exact own_base h26 (by omega)
    have hbW := hb8.trans (hE.mono (by omega))
    have HH := Lib.hid h27
    have H5 := Lib.hid (own_below (H7.out) hE)
    clear h26 h27 u0 u1 u2 u3 x2 x3 hb4 hb5 hb7 hb8 H7 HWi hwn
    generalize vals 26 = vh at *
    have hDW : Cs W D [b.v] := HD0.out.below hbW
    have hBW : b.ok W := Cs.below HB0.out hbW
    have hl8 : b.l.length ≤ 8192 := (shp_of_chk ht.2.2.2.1 ht.2.2.2.2.1 ht.2.2.2.2.2.1 hok).2
    have hgl : g.low.bytes.length ≤ 1001100 := by
      have := wire_len_few (HG.out.n).lower
      simp [SigM.bytes, SigM.low, be2, be4]; omega
    have hhl : (headB n t g.ttl).length ≤ 1001100 := by
      have := wire_len_few hn2
      simp [headB, be2, be4]; omega
    clear hwl
    generalize hgb : g.low.bytes = gb at *
    generalize hhb : headB n t g.ttl = hb at *
    go_wp2_with fail
    refine (data1 A D n cap dcap t sttl b W ht hok hDW hBW hcap hcap2).mono ?_
    rintro e W1 ⟨A1, x, cx, rfl, hA1, hxl, hxo, hbW1⟩
    have hzW1 := hbW1.size
    obtain ⟨bk, off, rfl, hbk, hcell⟩ := hA1 0 _ rfl
    rw [Nat.add_zero] at hcell
    have hxv : x.v = .slice x.A b.l.length x.cap := by unfold Blob.v; rw [hxl]
    rw [hxv] at hcell
    have HX := Lib.hid hxo
    have hbWW1 := hbW.trans (hbW1.mono (by omega))
    have H5' := Lib.hid (own_below H5.out hbW1)
    have HH' := Lib.hid (own_below HH.out hbW1)
    obtain ⟨Ag, cg, rfl, _, hcg⟩ := Cs.of_own H5'.out
    obtain ⟨Ah, ch, rfl, _, hch⟩ := Cs.of_own HH'.out
    have HCg := Lib.hid hcg
    have HCh := Lib.hid hch
    clear hA1 hxo y0 y1 y2 y3 hcg hch hDW hBW hE hbW
    go_wp2_with fail
    refine wp_loop_rounds 2 ?_
    rw [rounds_succ]
    go_wp2_with fail
    have hc4 := concat4 W1 Ag Ah x.A gb hb b.l cg ch x.cap HCg.out HCh.out (by have := HX.out; unfold Blob.ok at this; rw [hxl] at this; exact this) (by omega) (by omega) (by omega)
    refine hc4.mono ?_
    rintro e W3 ⟨v, rfl, hown, hbl⟩
    have hbF := hbWW1.trans (hbl.mono (by omega))
    have HR := Lib.hid (own_base hown (show w.heap.size ≤ W1.heap.size by omega))
    clear hown hc4
    go_wp2_with fail
    rw [rounds_succ]
    go_wp2_with fail
    go_ret
    refine ⟨v, rfl, ?_, hbF⟩
    unfold msg1
    rw [hgb, hhb]
    exact HR.out
end Nm
end Go.Proofs.YtkeimgamjnpcbaaGreat
