/-
  The walks of the laws of layer 2 (signetlaw2), continued.
-/
import Derived.Test.YtlbonlkogelhkaaBaseLaws
import Derived.Test.YtlbonlkogelhkaaQuiet
namespace Go.Proofs.Ytlbonlkogelhkaa
open Go.RowKit
set_option linter.unusedVariables false
namespace Base

theorem less_lex : ∀ a b : List UInt8, Op.bytesLess a b = BaseM.lexLt (a.map UInt8.toNat) (b.map UInt8.toNat)
  | [], [] => rfl
  | [], _ :: _ => rfl
  | _ :: _, [] => rfl
  | x :: a, y :: b => by
    simp only [Op.bytesLess, List.map_cons, BaseM.lexLt, less_lex a b]
    congr 1
    congr 1
    rw [Bool.eq_iff_iff]
    simp [UInt8.toNat_inj]
theorem encB_list (s : Nat) (l : List UInt8) : (encB s l).toList = (BaseM.enc s (l.map UInt8.toNat)).map UInt8.ofNat := by unfold encB; rw [ByteArray.toList_mk]
theorem less_enc {s : Nat} (hs : s = 4 ∨ s = 5) (a b : List UInt8) (h : a.length = b.length) : (Op.bytesLess (encB s a).toList (encB s b).toList == Op.bytesLess a b) = true := by
  have e : ∀ l : List UInt8, (((BaseM.enc s (l.map UInt8.toNat)).map UInt8.ofNat).map UInt8.toNat) = BaseM.enc s (l.map UInt8.toNat) := fun l => by
    have := strN_encB hs l
    unfold strN encB at this
    simpa using this
  rw [less_lex, less_lex, encB_list, encB_list, e, e, BaseM.lexLt_enc hs _ _ (by simpa using h) (bytes_lt a) (bytes_lt b)]
  simp

set_option maxHeartbeats 1000000 in
theorem BaseOrder (A B : Option Addr) (a b : List UInt8) (c d : Nat) (w : World) (ha : Cs w A (a.map byteV)) (hb : Cs w B (b.map byteV)) :
    Calls Try.prog 9 #[.slice A a.length c, .slice B b.length d] w fun e w' => e = .returned (.bool true) ∧ Below w.heap.size w w' := by
  by_cases hlen : 200 < a.length
  · have hlen' : (200 : Int) < (a.length : Int) := by omega
    go_enter Try.func9, Try.ntmps9
    go_wp2_with (go_at_call 22; refine (known _).mono ?_; rintro e w1 ⟨rfl, hb1⟩)
    go_ret
    exact ⟨rfl, hb1⟩
  · have hlen' : (a.length : Int) ≤ 200 := by omega
    by_cases hne : a.length ≠ b.length
    · have hne' : ((a.length : Int) != (b.length : Int)) = true := by simp; omega
      clear hne
      go_enter Try.func9, Try.ntmps9
      go_wp2_with (go_at_call 22; refine (known _).mono ?_; rintro e w1 ⟨rfl, hb1⟩)
      go_ret
      exact ⟨rfl, hb1⟩
    · have hne' : ((a.length : Int) != (b.length : Int)) = false := by simp; omega
      have HNE := Lib.hid hne
      clear hne
      go_enter Try.func9, Try.ntmps9
      go_wp2_with (go_at_call 22; refine (known _).mono ?_; rintro e w1 ⟨rfl, hb1⟩)
      have ha1 := ha.below hb1
      have hb2 := hb.below hb1
      have hall := ext_all w1
      refine wp_region_ext (by kernel_rfl) (by kernel_rfl) ?_
      have hla : a.length ≤ 1000000 := by omega
      have hlb : b.length ≤ 1000000 := by have := HNE.out; omega
      have k5 := less_enc (.inr rfl : (5 : Nat) = 4 ∨ 5 = 5) a b (by have := HNE.out; omega)
      have k4 := less_enc (.inl rfl : (4 : Nat) = 4 ∨ 4 = 5) a b (by have := HNE.out; omega)
      have hcA : ∀ W, Ext w1 W → (convert 33 9 (.slice A a.length c)).run Try.prog W = .ok (.string ⟨a.toArray⟩) W := fun W hW => run_str W Try.underlying33 Try.underlying5 Try.underlying9 c (ha1.below hW)
      have hcB : ∀ W, Ext w1 W → (convert 33 9 (.slice B b.length d)).run Try.prog W = .ok (.string ⟨b.toArray⟩) W := fun W hW => run_str W Try.underlying33 Try.underlying5 Try.underlying9 d (hb2.below hW)
      refine wpQuiet_step (fun K hK => ?_)
      go_simp
      refine hK _ ?_
      clear hK K
      refine wpQuiet_step (fun K hK => ?_)
      go_simp
      refine ⟨_, fun W hW => (Hex32 _ _ _ _ (ha1.below hW) hla).mono fun e W' h => ⟨h.1, hW.trans h.2⟩, hK _ ?_⟩
      clear hK K
      refine wpQuiet_step (fun K hK => ?_)
      go_simp
      refine hK _ ?_
      clear hK K
      refine wpQuiet_step (fun K hK => ?_)
      go_simp
      refine ⟨_, fun W hW => (Hex32 _ _ _ _ (hb2.below hW) hlb).mono fun e W' h => ⟨h.1, hW.trans h.2⟩, hK _ ?_⟩
      clear hK K
      refine wpQuiet_step (fun K hK => ?_)
      go_simp
      refine hK _ ?_
      clear hK K
      refine wpQuiet_step (fun K hK => ?_)
      go_simp
      refine hK _ ?_
      clear hK K
      refine wpQuiet_step (fun K hK => ?_)
      rw [if_pos (by rfl)]
      refine quiet_val (.string ⟨a.toArray⟩) (fun W hW => ?_) (hK _ ?_)
      · have hcv := hcA W hW
        go_simp
      clear hK K
      refine wpQuiet_step (fun K hK => ?_)
      go_simp
      refine hK _ ?_
      clear hK K
      refine wpQuiet_step (fun K hK => ?_)
      rw [if_pos (by rfl)]
      refine quiet_val (.string ⟨b.toArray⟩) (fun W hW => ?_) (hK _ ?_)
      · have hcv := hcB W hW
        go_simp
      clear hK K
      refine wpQuiet_step (fun K hK => ?_)
      go_simp
      refine hK _ ?_
      clear hK K
      refine wpQuiet_step (fun K hK => ?_)
      go_simp
      refine hK _ ?_
      clear hK K
      refine wpQuiet_step (fun K hK => ?_)
      go_simp
      refine hK _ ?_
      clear hK K
      refine wpQuiet_step (fun K hK => ?_)
      go_simp
      refine hK _ ?_
      clear hK K
      refine wpQuiet_step (fun K hK => ?_)
      go_simp
      refine ⟨_, fun W hW => (Hex _ _ _ _ (ha1.below hW) hla).mono fun e W' h => ⟨h.1, hW.trans h.2⟩, hK _ ?_⟩
      clear hK K
      refine wpQuiet_step (fun K hK => ?_)
      go_simp
      refine hK _ ?_
      clear hK K
      refine wpQuiet_step (fun K hK => ?_)
      go_simp
      refine ⟨_, fun W hW => (Hex _ _ _ _ (hb2.below hW) hlb).mono fun e W' h => ⟨h.1, hW.trans h.2⟩, hK _ ?_⟩
      clear hK K
      refine wpQuiet_step (fun K hK => ?_)
      go_simp
      refine hK _ ?_
      clear hK K
      refine wpQuiet_step (fun K hK => ?_)
      go_simp
      refine hK _ ?_
      clear hK K
      refine wpQuiet_step (fun K hK => ?_)
      rw [if_pos (by rfl)]
      refine quiet_val (.string ⟨a.toArray⟩) (fun W hW => ?_) (hK _ ?_)
      · have hcv := hcA W hW
        go_simp
      clear hK K
      refine wpQuiet_step (fun K hK => ?_)
      go_simp
      refine hK _ ?_
      clear hK K
      refine wpQuiet_step (fun K hK => ?_)
      rw [if_pos (by rfl)]
      refine quiet_val (.string ⟨b.toArray⟩) (fun W hW => ?_) (hK _ ?_)
      · have hcv := hcB W hW
        go_simp
      clear hK K
      refine wpQuiet_step (fun K hK => ?_)
      go_simp
      refine hK _ ?_
      clear hK K
      refine wpQuiet_step (fun K hK => ?_)
      go_simp
      refine hK _ ?_
      clear hK K
      refine wpQuiet_step (fun K hK => ?_)
      go_simp
      refine hK _ ?_
      clear hK K
      refine wpQuiet_step (fun K hK => ?_)
      go_simp
      refine hK _ ?_
      clear hK K
      refine wpQuiet_nil ?_
      intro W hW
      go_wp2
      go_ret
      exact ⟨rfl, hb1.trans (Below.mono hW hb1.size)⟩

end Base
end Go.Proofs.Ytlbonlkogelhkaa
