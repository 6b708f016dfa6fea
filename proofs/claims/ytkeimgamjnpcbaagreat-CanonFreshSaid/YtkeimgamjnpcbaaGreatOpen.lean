/-
  Contracts of package name: Open (its closure, what catches).
-/
import Derived.Test.YtkeimgamjnpcbaaGreatCheck
import Derived.Defers
import Derived.Recover
namespace Go.Proofs.YtkeimgamjnpcbaaGreat
open Go.RowKit
set_option linter.unusedVariables false
namespace Nm
def failP (e : Int) : List PanicEntry := [{ v := .iface 267 (.agg #[.int .i64 e]), recovered := false }]
set_option maxHeartbeats 1000000 in
theorem fail (e : Int) (w : World) : Calls Tryz.prog 215 #[.int .i64 e] w fun r w' => r = .panicked (failP e) ∧ w = w' := by
  go_enter Tryz.func215, Tryz.ntmps215
  go_wp2_with fail
  exact ⟨rfl, rfl, rfl⟩
def Open1R (b : Lab) (w : World) (v at_ : Value) (wr : World) : Prop :=
  ∃ (k : Nat) (n : List Lab), k ≤ b.length ∧ at_ = .int .i64 k ∧ n.length ≤ k ∧ wr.ownsRow w.heap.size 9 1 v n.length (n.map strV) ∧ parse b = pre n k (parse (b.drop k)) ∧ Below w.heap.size w wr
set_option maxRecDepth 100000 in
set_option maxHeartbeats 1000000 in
theorem Open1 (p : Addr) (A : Option Addr) (b : Lab) (cap : Nat) (w : World) (hp : w.cell? p = some (.slice A b.length cap)) (hpb : p.block < w.heap.size) (hc : Cs w A (b.map byteV)) (hb : b.length ≤ 100000) (hcap : b.length ≤ cap) (hcap2 : cap ≤ maxLen) :
    Calls Tryz.prog 214 #[.pointer (some p)] w fun e w' => Below w.heap.size w w' ∧
      ((∃ n k v, parse b = some (n, k) ∧ e = .returned (.tuple #[v, .int .i64 k]) ∧ w'.ownsRow w.heap.size 9 1 v n.length (n.map strV)) ∨ (parse b = none ∧ e = .panicked (failP 30))) := by
  obtain ⟨i0, hi, hz0, hz1, hz2⟩ := info_parts info_str
  unfold maxLen at hcap2
  go_enter Tryz.func214, Tryz.ntmps214
  go_wp2_with fail
  go_loopw [3, 4] (Open1R b w) (fun _ i _ => b.length - (intOf i).toNat)
  case atStart => exact ⟨0, [], Nat.zero_le _, rfl, Nat.zero_le _, World.ownsRow_nil _ _ _ _, by rw [pre_nil]; rfl, Below.refl _ _⟩
  case round =>
    obtain ⟨k, n, hk, rfl, hnk, hown, hpre, hbel⟩ := hrel
    have hp1 := (hbel.cell hpb).trans hp
    have HP := Lib.hid hpre
    clear hpre
    by_cases hlt : k < b.length
    · obtain ⟨bk, off, rfl, hbl, hc0⟩ := Cs.byte hc hlt
      have hc1 := (hbel.cell (p := ⟨bk, off + k, none⟩) hbl).trans hc0
      have HL := Lib.hid (pre_long (n := n) hlt)
      have HE := Lib.hid (pre_end (n := n) hlt)
      have HO := Lib.hid (pre_short (n := n) hlt)
      have HS := Lib.hid (pre_step (n := n) hlt)
      have hcc : b[k].toNat < 256 := UInt8.toNat_lt _
      generalize b[k].toNat = c at *
      by_cases h63 : 63 < c
      · go_wp2_with fail
        refine (fail 30 _).mono ?_
        rintro e w' ⟨rfl, rfl⟩
        go_wp2_with fail
        exact ⟨rfl, hbel, .inr ⟨by rw [HP.out, HL.out h63], rfl⟩⟩
      · by_cases h0 : c = 0
        · have h0b : ((c : Int) == 0) = true := by simp [h0]
          have H0 := Lib.hid h0
          clear h0
          go_wp2_with fail
          go_ret2
          exact ⟨hbel, .inl ⟨n, k + 1, _, by rw [HP.out, HE.out H0.out], rfl, hown⟩⟩
        · have h0b : ((c : Int) == 0) = false := by simp [h0]
          by_cases h2 : k + 1 + c ≤ b.length
          · have hlab : ((b.drop (k + 1)).take c).length = c := by rw [List.length_take, List.length_drop]; omega
            have hcs := ((hc.below (hbel.trans (Below.refl _ _))).drop' (k + 1) cap (by simpa using hcap)).take' c
            rw [if_neg (by omega), ← List.map_drop, ← List.map_take] at hcs
            have hcv : (convert 31 9 (.slice (some ⟨bk, off + (k + 1), none⟩) c (cap - (k + 1)))).run Tryz.prog wr = .ok (.string (strB ((b.drop (k + 1)).take c))) wr := by
              have := run_str (P := Tryz.prog) wr Tryz.underlying31 Tryz.underlying5 Tryz.underlying9 (cap - (k + 1)) hcs
              rw [hlab] at this
              exact this
            have HS2 := Lib.hid (HS.out h0 h63 h2)
            have HLab := Lib.hid hlab
            clear hlab hcs HS HO HL HE
            generalize (b.drop (k + 1)).take c = lab at *
            go_wp2_with (first | (at_builtin; refine wpList_push2 hown hbel.size [strV lab] rfl (by simp [strV, Value.oneCell']) hi hz0 hz1 hz2 rfl (by decide) rfl _ _ 23 Tryz.underlying23 rfl rfl rfl (by unfold maxLen; omega) (by omega) ?_; intro v4 w4 hown4 hbw4; have hbw5 := hbel.trans hbw4))
            refine ⟨⟨k + 1 + c, n ++ [lab], h2, by go_num, by simp; omega, by rw [List.map_append, List.length_append]; exact hown4, by rw [HP.out, HS2.out], hbw5⟩, by simp [intOf]; omega⟩
          · go_wp2_with fail
            refine (fail 30 _).mono ?_
            rintro e w' ⟨rfl, rfl⟩
            go_wp2_with fail
            exact ⟨rfl, hbel, .inr ⟨by rw [HP.out, HO.out h0 h2], rfl⟩⟩
    · have hkl : k = b.length := by omega
      have HO : Hid (pre n k (parse (b.drop k)) = none) := Lib.hid (pre_out hlt)
      clear hkl
      go_wp2_with fail
      refine (fail 30 _).mono ?_
      rintro e w' ⟨rfl, rfl⟩
      go_wp2_with fail
      exact ⟨rfl, hbel, .inr ⟨by rw [HP.out, HO.out], rfl⟩⟩
end Nm
end Go.Proofs.YtkeimgamjnpcbaaGreat
