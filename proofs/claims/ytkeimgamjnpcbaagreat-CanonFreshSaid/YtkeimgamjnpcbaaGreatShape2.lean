/-
  Contracts of package rdata: shape, Check's closure.
-/
import Derived.Test.YtkeimgamjnpcbaaGreatShape
namespace Go.Proofs.YtkeimgamjnpcbaaGreat
open Go.RowKit
set_option linter.unusedVariables false
namespace Nm
def shp (t : Int) (l : Lab) : Bool :=
  if t = 1 then l.length == 4 else if t = 28 then l.length == 16 else if t = 2 ∨ t = 5 then wholeB l else if t = 15 then decide (2 ≤ l.length) && wholeB (l.drop 2)
  else if t = 16 then !l.isEmpty && txt l 0 else if t = 43 then decide (5 ≤ l.length) else if t = 51 then decide (5 ≤ l.length) && l.length == 5 + (l.getD 4 0).toNat else true
theorem chk_shp {t : Int} (h1 : t ≠ 6) (h2 : t ≠ 46) (h3 : t ≠ 48) (l : Lab) : chk t l = (decide (l.length ≤ 8192) && shp t l) := by
  unfold chk shp
  congr 1
  rw [txt_zero]
  simp only [h1, h2, h3, if_false]
def ShapeP (r : Nat) (A : Option Addr) (l : Lab) (cap : Nat) (t : Int) (w : World) (e : Ending) (w' : World) : Prop :=
  Kept (fun b => b = r) w w' ∧ ((∃ j, e = .returned (.tuple #[]) ∧ Rdr w' r A l cap j ∧ shp t l = decide (j = l.length)) ∨ (shp t l = false ∧ e = .panicked mustP))
theorem wholeB_some {l : Lab} {n : List Lab} {j : Nat} (h : openO l = some (n, j)) : wholeB l = decide (j = l.length) := by
  unfold wholeB; rw [h]; simp only []; rw [Bool.eq_iff_iff]; simp
theorem wholeB_none {l : Lab} (h : openO l = none) : wholeB l = false := by unfold wholeB; rw [h]
/-- so many bytes, and no more -/
theorem shape_take (t : Int) (n : Nat) (hn2 : n ≤ 100000) (r : Nat) (A : Option Addr) (l : Lab) (cap : Nat) (w : World) (h : Rdr w r A l cap 0) (hs : shp t l = (l.length == n)) :
    Calls Tryz.prog 149 #[.pointer (some ⟨r, 0, none⟩), .int .i64 n] w fun e w' => Kept (fun b => b = r) w w' ∧ ((∃ v, e = .returned v ∧ Rdr w' r A l cap n ∧ shp t l = decide (n = l.length)) ∨ (shp t l = false ∧ e = .panicked mustP)) := by
  by_cases hn : 0 + n ≤ l.length
  · refine (take_yes r A l cap 0 n w h hn).mono ?_
    rintro e w' ⟨rfl, h1, h2⟩
    rw [Nat.zero_add] at h1
    refine ⟨h2, .inl ⟨_, rfl, h1, ?_⟩⟩
    rw [hs, Bool.eq_iff_iff]; simp; omega
  · refine (take_no r A l cap 0 n w h hn hn2).mono ?_
    rintro e w' ⟨rfl, h1⟩
    refine ⟨h1, .inr ⟨?_, rfl⟩⟩
    rw [hs]; simp; omega
set_option maxRecDepth 100000 in
set_option maxHeartbeats 4000000 in
theorem shape (r : Nat) (A : Option Addr) (l : Lab) (cap : Nat) (t : Int) (w : World) (h : Rdr w r A l cap 0) :
    Calls Tryz.prog 110 #[.pointer (some ⟨r, 0, none⟩), .int .u16 t] w (ShapeP r A l cap t w) := by
  have hlen := h.len
  by_cases e1 : t = 1
  · subst e1
    have hc := shape_take 1 4 (by omega) r A l cap w h rfl
    go_enter Tryz.func110, Tryz.ntmps110
    go_wp2_with fail
    refine hc.mono ?_
    rintro e w' ⟨hk, ⟨v, rfl, hr, hs⟩ | ⟨hs, rfl⟩⟩
    · go_wp2_with fail
      go_end0
      exact ⟨hk, .inl ⟨_, rfl, hr, hs⟩⟩
    · go_wp2_with fail
      exact ⟨rfl, hk, .inr ⟨hs, rfl⟩⟩
  by_cases e28 : t = 28
  · subst e28
    have hc := shape_take 28 16 (by omega) r A l cap w h rfl
    go_enter Tryz.func110, Tryz.ntmps110
    go_wp2_with fail
    refine hc.mono ?_
    rintro e w' ⟨hk, ⟨v, rfl, hr, hs⟩ | ⟨hs, rfl⟩⟩
    · go_wp2_with fail
      go_end0
      exact ⟨hk, .inl ⟨_, rfl, hr, hs⟩⟩
    · go_wp2_with fail
      exact ⟨rfl, hk, .inr ⟨hs, rfl⟩⟩
  by_cases e25 : t = 2 ∨ t = 5
  · have hs0 : shp t l = wholeB l := by unfold shp; rw [if_neg e1, if_neg e28, if_pos e25]
    have hc := name r A l cap 0 w h
    rw [List.drop_zero] at hc
    rcases e25 with rfl | rfl
    all_goals
      go_enter Tryz.func110, Tryz.ntmps110
      go_wp2_with fail
      refine hc.mono ?_
      rintro e w' ⟨hk, ⟨n, j, v, ho, rfl, hr, _⟩ | ⟨ho, rfl⟩⟩
      · have HO := Lib.hid ho
        clear ho
        rw [Nat.zero_add] at hr
        go_wp2_with fail
        go_end0
        exact ⟨hk, .inl ⟨_, rfl, hr, by rw [hs0, wholeB_some HO.out]⟩⟩
      · have HO := Lib.hid ho
        clear ho
        go_wp2_with fail
        exact ⟨rfl, hk, .inr ⟨by rw [hs0, wholeB_none HO.out], rfl⟩⟩
  by_cases e15 : t = 15
  · subst e15
    have hs0 : shp 15 l = (decide (2 ≤ l.length) && wholeB (l.drop 2)) := rfl
    go_enter Tryz.func110, Tryz.ntmps110
    go_wp2_with fail
    by_cases h2 : 0 + 2 ≤ l.length
    · refine (num_yes r A l cap 0 2 w h h2).mono ?_
      rintro e w1 ⟨rfl, hr1, hk1⟩
      rw [Nat.zero_add] at hr1
      have hc := name r A l cap 2 w1 hr1
      have HS : Hid (shp 15 l = wholeB (l.drop 2)) := Lib.hid (by rw [hs0]; simp; omega)
      have hd : (l.drop 2).length = l.length - 2 := List.length_drop
      have HD := Lib.hid hd
      clear hs0 hd
      go_wp2_with fail
      refine hc.mono ?_
      rintro e w' ⟨hk, ⟨n, j, v, ho, rfl, hr, _⟩ | ⟨ho, rfl⟩⟩
      · have HO := Lib.hid ho
        clear ho
        go_wp2_with fail
        go_end0
        exact ⟨hk1.trans hk, .inl ⟨_, rfl, hr, by rw [HS.out, wholeB_some HO.out, HD.out, decide_eq_decide]; omega⟩⟩
      · have HO := Lib.hid ho
        clear ho
        go_wp2_with fail
        exact ⟨rfl, hk1.trans hk, .inr ⟨by rw [HS.out, wholeB_none HO.out], rfl⟩⟩
    · refine (num_no r A l cap 0 2 w h h2 (by omega)).mono ?_
      rintro e w1 ⟨rfl, hk1⟩
      go_wp2_with fail
      exact ⟨rfl, hk1, .inr ⟨by rw [hs0]; simp; omega, rfl⟩⟩
  by_cases e16 : t = 16
  · subst e16
    have hs0 : shp 16 l = (!l.isEmpty && txt l 0) := rfl
    have hc := texts r A l cap 0 w h
    go_enter Tryz.func110, Tryz.ntmps110
    go_wp2_with fail
    refine hc.mono ?_
    rintro e w' ⟨hk, ⟨h1, h2, rfl, hr⟩ | ⟨h1, rfl⟩⟩
    · have HO : Hid (shp 16 l = true) := Lib.hid (by rw [hs0, h2]; simpa using List.length_pos_iff.1 h1)
      clear h2 hs0
      go_wp2_with fail
      go_end0
      exact ⟨hk, .inl ⟨_, rfl, hr, by rw [HO.out]; simp⟩⟩
    · have HO : Hid (shp 16 l = false) := Lib.hid (by
        rw [hs0]
        rcases h1 with h1 | h1
        · have : l = [] := List.length_eq_zero_iff.1 (by omega)
          subst this; rfl
        · rw [h1]; simp)
      clear h1 hs0
      go_wp2_with fail
      exact ⟨rfl, hk, .inr ⟨HO.out, rfl⟩⟩
  by_cases e43 : t = 43
  · subst e43
    have hs0 : shp 43 l = decide (5 ≤ l.length) := rfl
    have HS := Lib.hid hs0
    clear hs0
    go_enter Tryz.func110, Tryz.ntmps110
    go_wp2_with fail
    by_cases h2 : 0 + 4 ≤ l.length
    · refine (take_yes r A l cap 0 4 w h h2).mono ?_
      rintro e w1 ⟨rfl, hr1, hk1⟩
      rw [Nat.zero_add] at hr1
      have hc := rest r A l cap 4 w1 hr1
      go_wp2_with fail
      refine hc.mono ?_
      rintro e w2 ⟨hk2, hr2, v, rfl, hown⟩
      obtain ⟨A5, c5, rfl, _, _⟩ := Cs.of_own hown
      by_cases h5 : 5 ≤ l.length
      · have h6 : decide (0 < l.length - 4) = true := by simp; omega
        go_wp2_with fail
        refine (must_yes _).mono ?_
        rintro e w' ⟨rfl, rfl⟩
        go_wp2_with fail
        go_end0
        exact ⟨hk1.trans hk2, .inl ⟨_, rfl, hr2, by rw [HS.out]; simpa using h5⟩⟩
      · have h6 : decide (0 < l.length - 4) = false := by simp; omega
        go_wp2_with fail
        refine (must_no _).mono ?_
        rintro e w' ⟨rfl, rfl⟩
        go_wp2_with fail
        exact ⟨rfl, hk1.trans hk2, .inr ⟨by rw [HS.out]; simpa using h5, rfl⟩⟩
    · refine (take_no r A l cap 0 4 w h h2 (by omega)).mono ?_
      rintro e w1 ⟨rfl, hk1⟩
      go_wp2_with fail
      exact ⟨rfl, hk1, .inr ⟨by rw [HS.out]; simp; omega, rfl⟩⟩
  by_cases e51 : t = 51
  · subst e51
    have hs0 : shp 51 l = (decide (5 ≤ l.length) && l.length == 5 + (l.getD 4 0).toNat) := rfl
    have HS := Lib.hid hs0
    clear hs0
    go_enter Tryz.func110, Tryz.ntmps110
    go_wp2_with fail
    by_cases h2 : 0 + 4 ≤ l.length
    · refine (take_yes r A l cap 0 4 w h h2).mono ?_
      rintro e w1 ⟨rfl, hr1, hk1⟩
      rw [Nat.zero_add] at hr1
      by_cases h5 : 4 < l.length
      · have HG : Hid (l.getD 4 0 = l[4]) := Lib.hid (by simp [List.getD_eq_getElem?_getD, h5])
        by_cases h6 : 4 + 1 + l[4].toNat ≤ l.length
        · have hc := text_yes r A l cap 4 w1 hr1 h5 h6
          have HE : Hid (shp 51 l = decide (4 + 1 + l[4].toNat = l.length)) := Lib.hid (by rw [HS.out, HG.out, Bool.eq_iff_iff]; simp; omega)
          clear HS HG
          generalize 4 + 1 + l[4].toNat = j at *
          have HC := Lib.hid hc
          clear hc
          go_wp2_with fail
          refine HC.out.mono ?_
          rintro e w2 ⟨hk2, hr2, v, rfl, _⟩
          go_wp2_with fail
          go_end0
          exact ⟨hk1.trans hk2, .inl ⟨_, rfl, hr2, HE.out⟩⟩
        · have hc := text_no r A l cap 4 w1 hr1 (fun ⟨_, h⟩ => h6 h)
          have HE : Hid (shp 51 l = false) := Lib.hid (by rw [HS.out, HG.out]; simp; omega)
          clear HS HG
          go_wp2_with fail
          refine hc.mono ?_
          rintro e w2 ⟨hk2, rfl⟩
          go_wp2_with fail
          exact ⟨rfl, hk1.trans hk2, .inr ⟨HE.out, rfl⟩⟩
      · have hc := text_no r A l cap 4 w1 hr1 (fun ⟨h, _⟩ => h5 h)
        have HE : Hid (shp 51 l = false) := Lib.hid (by rw [HS.out]; simp; omega)
        go_wp2_with fail
        refine hc.mono ?_
        rintro e w2 ⟨hk2, rfl⟩
        go_wp2_with fail
        exact ⟨rfl, hk1.trans hk2, .inr ⟨HE.out, rfl⟩⟩
    · refine (take_no r A l cap 0 4 w h h2 (by omega)).mono ?_
      rintro e w1 ⟨rfl, hk1⟩
      go_wp2_with fail
      exact ⟨rfl, hk1, .inr ⟨by rw [HS.out]; simp; omega, rfl⟩⟩
  have HS : Hid (shp t l = true) := Lib.hid (by unfold shp; rw [if_neg e1, if_neg e28, if_neg e25, if_neg e15, if_neg e16, if_neg e43, if_neg e51])
  have hc := rest r A l cap 0 w h
  have b1 : (t == 1) = false := by simpa using e1
  have b2 : (t == 2) = false := by simpa using fun h => e25 (.inl h)
  have b3 : (t == 5) = false := by simpa using fun h => e25 (.inr h)
  have b4 : (t == 28) = false := by simpa using e28
  have b5 : (t == 15) = false := by simpa using e15
  have b6 : (t == 16) = false := by simpa using e16
  have b7 : (t == 43) = false := by simpa using e43
  have b8 : (t == 51) = false := by simpa using e51
  clear e1 e25 e28 e15 e16 e43 e51
  go_enter Tryz.func110, Tryz.ntmps110
  go_wp2_with fail
  refine hc.mono ?_
  rintro e w2 ⟨hk2, hr2, v, rfl, hown⟩
  go_wp2_with fail
  go_end0
  exact ⟨hk2, .inl ⟨_, rfl, hr2, by rw [HS.out]; simp⟩⟩
end Nm
end Go.Proofs.YtkeimgamjnpcbaaGreat
