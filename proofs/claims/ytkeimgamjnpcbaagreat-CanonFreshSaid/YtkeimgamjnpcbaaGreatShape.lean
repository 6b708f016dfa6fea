/-
  Contracts of package rdata: texts, shape, Check's closure.
-/
import Derived.Test.YtkeimgamjnpcbaaGreatReader2
namespace Go.Proofs.YtkeimgamjnpcbaaGreat
open Go.RowKit
set_option linter.unusedVariables false
namespace Nm
theorem textsB_fuel : ∀ (f g : Nat) (b : Lab), b.length < f → b.length < g → textsB f b = textsB g b
  | 0, _, b, h, _ => by omega
  | _ + 1, 0, b, _, h => by omega
  | f + 1, g + 1, [], _, _ => rfl
  | f + 1, g + 1, c :: r, h1, h2 => by
    unfold textsB
    rw [textsB_fuel f g (r.drop c.toNat) (by simp at *; omega) (by simp at *; omega)]
/-- the texts from a place on -/
def txt (l : Lab) (k : Nat) : Bool := textsB ((l.drop k).length + 1) (l.drop k)
theorem txt_step {l : Lab} {k : Nat} (h : k < l.length) : txt l k = (decide (k + 1 + l[k].toNat ≤ l.length) && txt l (k + 1 + l[k].toNat)) := by
  unfold txt
  rw [List.drop_eq_getElem_cons h]
  conv => lhs; unfold textsB
  rw [List.drop_drop, textsB_fuel _ ((l.drop (k + 1 + l[k].toNat)).length + 1) _ (by simp; omega) (by omega)]
  have : (l.drop (k + 1)).length = l.length - (k + 1) := List.length_drop
  rw [this]
  have e : decide (l[k].toNat ≤ l.length - (k + 1)) = decide (k + 1 + l[k].toNat ≤ l.length) := by
    rw [decide_eq_decide]; omega
  rw [e]
theorem txt_end {l : Lab} {k : Nat} (h : ¬ k < l.length) : txt l k = true := by
  unfold txt
  rw [List.drop_eq_nil_of_le (by omega)]
  rfl
theorem txt_zero (l : Lab) : textsB (l.length + 1) l = txt l 0 := rfl
def TextsR (r : Nat) (A : Option Addr) (l : Lab) (cap k : Nat) (w wr : World) : Prop := ∃ j : Nat, Rdr wr r A l cap j ∧ Kept (fun b => b = r) w wr ∧ txt l k = txt l j
set_option maxRecDepth 100000 in
set_option maxHeartbeats 2000000 in
theorem texts (r : Nat) (A : Option Addr) (l : Lab) (cap k : Nat) (w : World) (h : Rdr w r A l cap k) :
    Calls Tryz.prog 150 #[.pointer (some ⟨r, 0, none⟩)] w fun e w' => Kept (fun b => b = r) w w' ∧
      ((k < l.length ∧ txt l k = true ∧ e = .returned (.tuple #[]) ∧ Rdr w' r A l cap l.length) ∨ ((¬ k < l.length ∨ txt l k = false) ∧ e = .panicked mustP)) := by
  have hlen := h.len
  have hle := h.le
  go_enter Tryz.func150, Tryz.ntmps150
  go_wp2_with fail
  by_cases hk : k < l.length
  · have HS := Lib.hid (txt_step hk)
    by_cases hn : k + 1 + l[k].toNat ≤ l.length
    · refine (text_yes r A l cap k w h hk hn).mono ?_
      rintro e w1 ⟨hk1, hr1, v, rfl, _⟩
      have HT : Hid (txt l k = txt l (k + 1 + l[k].toNat)) := Lib.hid (by rw [HS.out]; simp [hn])
      clear h
      generalize k + 1 + l[k].toNat = j0 at *
      go_wp2_with fail
      go_loopw [] (TextsR r A l cap k w) (fun wr => l.length - (intOf ((wr.cell? ⟨r, 1, none⟩).getD (.int .i64 0))).toNat)
      case atStart => exact ⟨j0, hr1, hk1, HT.out⟩
      case round =>
        obtain ⟨j, hr, hkk, ht⟩ := hrel
        have c0 := hr.c0
        have c1 := hr.c1
        have hjl := hr.le
        have HR := Lib.hid hr
        have HT2 := Lib.hid ht
        clear ht HT HS hr1 hr
        by_cases hj : j < l.length
        · have HS := Lib.hid (txt_step hj)
          go_wp2_with fail
          go_region
          by_cases hn2 : j + 1 + l[j].toNat ≤ l.length
          · have hT3 := text_yes r A l cap j wr.drew HR.out.drew hj hn2
            have HT3 := Lib.hid hT3
            have HT : Hid (txt l j = txt l (j + 1 + l[j].toNat)) := Lib.hid (by rw [HS.out]; simp [hn2])
            have hj1 : j < j + 1 + l[j].toNat := by omega
            clear hT3 HS
            generalize j + 1 + l[j].toNat = j1 at *
            go_wp2_with fail
            refine HT3.out.mono ?_
            rintro e w2 ⟨hk2, hr2, v2, rfl, _⟩
            have d1 := hr2.c1
            go_wp2_with fail
            refine ⟨⟨j1, hr2, (hkk.drew).trans hk2, by rw [HT2.out, HT.out]⟩, ?_⟩
            rw [d1, c1]
            simp [intOf]
            omega
          · have hT3 := text_no r A l cap j wr.drew HR.out.drew (fun ⟨_, h⟩ => hn2 h)
            have HT3 := Lib.hid hT3
            clear hT3
            go_wp2_with fail
            refine HT3.out.mono ?_
            rintro e w2 ⟨hk2, rfl⟩
            go_wp2_with fail
            exact ⟨rfl, (hkk.drew).trans hk2, .inr ⟨.inr (by rw [HT2.out, HS.out]; simp [hn2]), rfl⟩⟩
        · have hje : j = l.length := by omega
          have HE := Lib.hid (txt_end hj)
          have HJ := Lib.hid hje
          clear hje
          go_wp2_with fail
          go_region
          go_wp2_with fail
          go_end0
          have hr5 := HR.out.drew
          rw [HJ.out] at hr5
          exact ⟨hkk.drew, .inl ⟨hk, by rw [HT2.out, HE.out], rfl, hr5⟩⟩
    · refine (text_no r A l cap k w h (fun ⟨_, h⟩ => hn h)).mono ?_
      rintro e w1 ⟨hk1, rfl⟩
      go_wp2_with fail
      exact ⟨rfl, hk1, .inr ⟨.inr (by rw [HS.out]; simp [hn]), rfl⟩⟩
  · refine (text_no r A l cap k w h (fun ⟨h, _⟩ => hk h)).mono ?_
    rintro e w1 ⟨hk1, rfl⟩
    go_wp2_with fail
    exact ⟨rfl, hk1, .inr ⟨.inl hk, rfl⟩⟩
end Nm
end Go.Proofs.YtkeimgamjnpcbaaGreat
