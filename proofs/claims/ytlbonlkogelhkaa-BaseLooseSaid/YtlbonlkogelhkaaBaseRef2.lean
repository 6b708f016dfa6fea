/-
  Contract of the reference's OpenHex (signetref1).
-/
import Derived.Test.YtlbonlkogelhkaaBaseRef
namespace Go.Proofs.Ytlbonlkogelhkaa
open Go.RowKit
set_option linter.unusedVariables false
namespace Base

theorem refvalue_quiet (c : Nat) (hc : c < 256) (w : World) : Calls Try.prog 35 #[.int .u8 c] w fun e w' => e = .returned (.int .i64 (rval c)) ∧ w' = w :=
  (refvalue c hc w).mono fun e w' ⟨h1, h2⟩ => ⟨h1, h2.symm⟩
theorem dval16_eq : ∀ c : Fin 256, BaseM.dval 16 c.val = if 0 ≤ rval c.val ∧ rval c.val ≤ 15 then some (rval c.val).toNat else none := by decide +kernel
theorem dval16_none {c : Nat} (hc : c < 256) (h : rval c < 0 ∨ 15 < rval c) : BaseM.dval 16 c = none := by
  have := dval16_eq ⟨c, hc⟩
  rw [if_neg (by simp only; omega)] at this
  exact this
theorem dval16_some {c d : Nat} (hc : c < 256) (h : rval c = d) (hd : d < 16) : BaseM.dval 16 c = some d := by
  have := dval16_eq ⟨c, hc⟩
  rw [if_pos (by simp only; omega)] at this
  rw [this]; simp only; rw [h]; simp
theorem rval_le (c : Nat) : rval c ≤ 31 := by
  unfold rval
  split
  · rename_i d h; have := BaseM.dval_lt h; omega
  · omega
theorem rval_ge (c : Nat) : -1 ≤ rval c := by
  unfold rval
  split <;> omega
theorem ownsRow_drewN {w : World} {B : Nat} {e : TypeId} {size : Nat} {v : Value} {n : Nat} {xs : List Value} (h : w.ownsRow B e size v n xs) (k : Nat) : (w.drewN k).ownsRow B e size v n xs := h
def Oh4R (str : ByteArray) (w : World) (v i : Value) (wr : World) : Prop :=
  ∃ (m j : Nat) (ds : List Nat), j ≤ str.size ∧ i = .int .i64 (j : Int) ∧ j = 2 * m ∧
    BaseM.vals (2 ^ 4) ((strN str).take j) = some ds ∧ wr.ownsRow w.heap.size 5 1 v m (natsV (BaseM.digs 256 m (BaseM.num (2 ^ 4) ds))) ∧ Below w.heap.size w wr

set_option maxHeartbeats 1000000 in
theorem refOpenHex (str : ByteArray) (hs : str.size ≤ 1000000) (w : World) :
    Calls Try.prog 31 #[.string str] w (Opened (BaseM.dec 4 (strN str)) w) := by
  obtain ⟨i0, hi, hz0, hz1, hz2⟩ := info_parts info_u8
  by_cases hodd : str.size % 2 = 1
  · have hod : (((str.size : Int) % 2) != 0) = true := by simp; omega
    have HO := Lib.hid hodd
    clear hodd
    go_enter Try.func31, Try.ntmps31
    go_wp2
    go_ret2
    refine opened_bad ?_ (Below.refl _ _)
    cases hv : BaseM.vals (2 ^ 4) (strN str) with
    | none => unfold BaseM.dec; rw [hv]; rfl
    | some ds =>
      rw [dec_vals hv]
      have hl := BaseM.vals_length hv
      rw [strN_length] at hl
      exact decD_bad (k := str.size) (m := str.size / 2) (r := 4) hl (by have := HO.out; omega) (by omega) rfl (.inl (by omega))
  · have hod : (((str.size : Int) % 2) != 0) = false := by simp; omega
    have HO := Lib.hid hodd
    clear hodd
    go_enter Try.func31, Try.ntmps31
    go_wp2
    go_loopw [4, 5] (Oh4R str w) (fun _ i _ => str.size - (intOf i).toNat)
    case atStart => exact ⟨0, 0, [], by omega, rfl, rfl, rfl, World.ownsRow_nil _ _ _ _, Below.refl _ _⟩
    case round =>
      obtain ⟨m, j, ds, hk, rfl, hj, hvals, hown, hbw⟩ := hrel
      have HJ := Lib.hid hj
      have HV := Lib.hid hvals
      clear hj hvals
      by_cases hp : j + 1 < str.size
      · have hq : j < str.size := by omega
        have hc1 : (str[j]'hq).toNat < 256 := UInt8.toNat_lt _
        have hc2 : (str[j + 1]'hp).toNat < 256 := UInt8.toNat_lt _
        have HT1 := Lib.hid (strN_take str j hq)
        have HT2 := Lib.hid (strN_take str (j + 1) hp)
        generalize hce1 : (str[j]'hq).toNat = c1 at *
        generalize hce2 : (str[j + 1]'hp).toNat = c2 at *
        have hp' : (j : Int) + 1 < (str.size : Int) := by omega
        have hq' : (j : Int) < (str.size : Int) := by omega
        have e1 : IntKind.i64.wrap ((j : Int) + 1) = (j : Int) + 1 := IntWalk.i64_in _ (by omega)
        have e2 : 0 ≤ (j : Int) + 1 := by omega
        have e3 : ((j : Int) + 1).toNat = j + 1 := by omega
        by_cases hbad : (rval c1 < 0 ∨ 15 < rval c1) ∨ (rval c2 < 0 ∨ 15 < rval c2)
        · have hnone : BaseM.dec 4 (strN str) = none := by
            refine BaseM.dec_none (j + 1 + 1) ?_
            rw [HT2.out, BaseM.vals_snoc, HT1.out, BaseM.vals_snoc, HV.out, show 2 ^ 4 = 16 from rfl]
            rcases hbad with h | h
            · rw [dval16_none hc1 h]; rfl
            · rw [dval16_none hc2 h]
              cases BaseM.dval 16 c1 <;> rfl
          have HNO := Lib.hid hnone
          clear hnone
          rcases hbad with (h | h) | (h | h)
          all_goals
            go_wp2_with fail
            go_quiet (((go_at_call 35; exact Calls.quiet_of_same (refvalue_quiet _ (by omega) _))))
            go_wp2_with fail
          all_goals
            go_ret2
            exact opened_bad HNO.out (below_drewN hbw _)
        · obtain ⟨d1, hd1⟩ : ∃ d : Nat, rval c1 = d := ⟨(rval c1).toNat, by omega⟩
          obtain ⟨d2, hd2⟩ : ∃ d : Nat, rval c2 = d := ⟨(rval c2).toNat, by omega⟩
          have hb1 : d1 < 16 := by omega
          have hb2 : d2 < 16 := by omega
          have HX1 := Lib.hid (dval16_some hc1 hd1 hb1)
          have HX2 := Lib.hid (dval16_some hc2 hd2 hb2)
          obtain ⟨b8, hb8, h8⟩ : ∃ b : UInt8, b = UInt8.ofNat (16 * d1 + d2) ∧ 16 * (d1 : Int) + (d2 : Int) = (b.toNat : Int) := ⟨_, rfl, by simp; omega⟩
          have HB := Lib.hid hb8
          have hm : m ≤ 2000000 := by have := HJ.out; omega
          clear hbad hb8
          have h01 : 0 ≤ (d1 : Int) := by omega
          have h02 : 0 ≤ (d2 : Int) := by omega
          have h03 : (d1 : Int) ≤ 15 := by omega
          have h04 : (d2 : Int) ≤ 15 := by omega
          go_wp2_with fail
          go_quiet (((go_at_call 35; exact Calls.quiet_of_same (refvalue_quiet _ (by omega) _))))
          go_wp2_with (at_builtin; refine wpList_push2 (ownsRow_drewN hown _) hbw.size [byteV b8] rfl (by simp [byteV, Value.oneCell']) hi hz0 hz1 hz2 rfl (by decide) rfl _ _ 33 Try.underlying33 rfl rfl rfl (by unfold maxLen; omega) (by omega) ?_; intro v4 w4 hown4 hbw4; have hbw5 := (below_drewN hbw _).trans hbw4)
          refine ⟨⟨m + 1, j + 2, ds ++ [d1] ++ [d2], by omega, rfl, by have := HJ.out; omega, ?_, ?_, hbw5⟩, by simp [intOf]; omega⟩
          · rw [HT2.out, BaseM.vals_snoc, HT1.out, BaseM.vals_snoc, HV.out, show 2 ^ 4 = 16 from rfl, HX1.out, HX2.out]; rfl
          · rw [← natsV_succ, BaseM.num_snoc, BaseM.num_snoc, show (2 : Nat) ^ 4 = 16 from rfl, show ((BaseM.num 16 ds * 16 + d1) * 16 + d2) / 256 = BaseM.num 16 ds from by omega, show ((BaseM.num 16 ds * 16 + d1) * 16 + d2) % 256 = 16 * d1 + d2 from by omega, ← HB.out]
            exact hown4
      · have hje : j = str.size := by have := HJ.out; have := HO.out; omega
        have hkk : j = (strN str).length := by rw [strN_length]; exact hje
        have hvf : BaseM.vals (2 ^ 4) (strN str) = some ds := by have := HV.out; rwa [hkk, List.take_length] at this
        have hdl : ds.length = j := by rw [BaseM.vals_length hvf, hkk]
        have HVF := Lib.hid hvf
        have HDL := Lib.hid hdl
        have hq' : (str.size : Int) ≤ (j : Int) := by omega
        clear hvf hdl hkk hje
        go_wp2
        go_ret2
        exact opened_ok ((dec_vals HVF.out).trans (decD_ok (r := 0) (m := m) HDL.out (by have := HJ.out; omega) (by omega) rfl (by omega))) (BaseM.digs_lt (by omega) _ _) hbw (by rw [Nat.pow_zero, Nat.div_one]; exact hown)


end Base
end Go.Proofs.Ytlbonlkogelhkaa
