/-
  Contracts of package name: small, Lower, Wire, Wild; the reference's likewise.
-/
import Derived.Test.YtkeimgamjnpcbaaGreatStr
namespace Go.Proofs.YtkeimgamjnpcbaaGreat
open Go.RowKit
set_option linter.unusedVariables false
namespace Nm

def lowB (c : UInt8) : UInt8 := if 65 ≤ c.toNat ∧ c.toNat ≤ 90 then c + 32 else c
def low (l : Lab) : Lab := l.map lowB
def lower (n : List Lab) : List Lab := n.map low
def wire1 (l : Lab) : List UInt8 := UInt8.ofNat l.length :: l
def wires (n : List Lab) : List UInt8 := n.flatMap wire1
def wire (n : List Lab) : List UInt8 := wires n ++ [0]
theorem low_len (l : Lab) : (low l).length = l.length := by simp [low]
theorem lower_len (n : List Lab) : (lower n).length = n.length := by simp [lower]
theorem lowB_idem (c : UInt8) : lowB (lowB c) = lowB c := by
  unfold lowB
  by_cases h : 65 ≤ c.toNat ∧ c.toNat ≤ 90
  · rw [if_pos h, if_neg]
    rw [UInt8.toNat_add]
    have : (32 : UInt8).toNat = 32 := rfl
    omega
  · rw [if_neg h, if_neg h]
theorem low_idem (l : Lab) : low (low l) = low l := by unfold low; rw [List.map_map]; congr 1; funext c; exact lowB_idem c
theorem lower_idem (n : List Lab) : lower (lower n) = lower n := by unfold lower; rw [List.map_map]; congr 1; funext c; exact low_idem c

/-- a text under way to small letters -/
def half (l : Lab) (k : Nat) : Lab := (l.take k).map lowB ++ l.drop k
theorem half_len (l : Lab) (k : Nat) : (half l k).length = l.length := by simp [half]; omega
theorem half_zero (l : Lab) : half l 0 = l := by simp [half]
theorem half_all (l : Lab) : half l l.length = low l := by simp [half, low]
theorem half_at {l : Lab} {k : Nat} (h : k < l.length) (h2 : k < (half l k).length) : (half l k)[k] = l[k] := by
  have e : (half l k)[k]? = l[k]? := by
    unfold half
    rw [List.getElem?_append_right (by simp; omega), List.length_map, List.length_take, Nat.min_eq_left (by omega), Nat.sub_self, List.getElem?_drop, Nat.add_zero]
  rw [List.getElem?_eq_getElem h2, List.getElem?_eq_getElem h] at e
  exact Option.some.inj e
theorem half_set {l : Lab} {k : Nat} (h : k < l.length) (c : UInt8) (hc : c = lowB l[k]) : (half l k).set k c = half l (k + 1) := by
  unfold half
  rw [List.set_append_right _ _ (by simp; omega)]
  rw [List.take_succ_eq_append_getElem h, List.map_append, List.append_assoc]
  congr 1
  rw [List.length_map, List.length_take, Nat.min_eq_left (by omega), Nat.sub_self, List.drop_eq_getElem_cons h, List.set_cons_zero, hc]
  rfl
theorem half_keep {l : Lab} {k : Nat} (h : k < l.length) (hc : lowB l[k] = l[k]) : half l k = half l (k + 1) := by
  rw [← half_set h _ rfl, hc]
  have h2 : k < (half l k).length := by rw [half_len]; exact h
  conv => lhs; rw [← List.set_getElem_self h2]
  rw [half_at h]

/-- the state of small's loop -/
def SmallR (l : Lab) (w : World) (fr : Nat × Nat) (i : Value) (wr : World) : Prop :=
  ∃ (k : Nat) (cs : Array Value), k ≤ l.length ∧ i = .int .i64 k ∧ wr.heap[w.heap.size]? = some (.cells cs 5 fr) ∧ cs.toList.take l.length = (half l k).map byteV ∧ Below w.heap.size w wr
set_option maxHeartbeats 1000000 in
theorem small (l : Lab) (w : World) (hl : l.length ≤ 1000000) : Calls Tryz.prog 95 #[.string (strB l)] w fun e w' => e = .returned (.string (strB (low l))) ∧ Below w.heap.size w w' := by
  obtain ⟨w1, cap, cs, fr, hrun, hcap, hb1, hs1, hblk, htake, hfr⟩ := bytes_of w l
  go_enter Tryz.func95, Tryz.ntmps95
  go_wp2_with fail
  have HB := Lib.hid hblk
  have HT := Lib.hid htake
  clear hblk htake hrun
  go_loopw [10] (SmallR l w fr) (fun i _ => l.length - (intOf i).toNat)
  case atStart => exact ⟨0, cs, Nat.zero_le _, rfl, HB.out, by rw [half_zero]; exact HT.out, hb1⟩
  case round =>
    obtain ⟨k, cs, hk, rfl, hblk, htake, hbw⟩ := hrel
    have HB := Lib.hid hblk
    have HT := Lib.hid htake
    have ht2 : cs.toList.take (half l k).length = (half l k).map byteV := by rw [half_len]; exact htake
    by_cases hlt : k < l.length
    · have hk2 : k < (half l k).length := by rw [half_len]; exact hlt
      have hc := blk_cell hblk ht2 hk2
      rw [half_at hlt] at hc
      have hz := blk_frozen (i := k) hblk (by omega)
      clear hblk htake
      generalize hce : l[k] = c at *
      have HCE := Lib.hid hce
      have HT2 := Lib.hid ht2
      clear hce ht2
      by_cases hu : 65 ≤ c.toNat ∧ c.toNat ≤ 90
      · obtain ⟨hu1, hu2⟩ := hu
        have hset := blk_set (i := k) HB.out HT2.out (lowB c)
        rw [half_set hlt (lowB c) (by rw [HCE.out])] at hset
        have hbl : byteV (lowB c) = .int .u8 ((c.toNat : Int) + 32) := by
          unfold byteV lowB
          rw [if_pos ⟨hu1, hu2⟩, UInt8.toNat_add]
          have : (32 : UInt8).toNat = 32 := rfl
          congr 1; omega
        rw [hbl] at hset
        have HS := Lib.hid hset
        clear hset hbl
        have hu1' : (65 : Int) ≤ (c.toNat : Int) := by omega
        have hu2' : (c.toNat : Int) ≤ 90 := by omega
        go_wp2_with fail
        refine ⟨⟨k + 1, cs.setIfInBounds k (.int .u8 ((c.toNat : Int) + 32)), by omega, by go_num, ?_, ?_, hbw.setCell (Nat.le_refl _) _⟩, by simp [intOf]; omega⟩
        · have e : (c.toNat : Int) + 97 - 65 = (c.toNat : Int) + 32 := by omega
          rw [e]; exact HS.out.1
        · have := HS.out.2; rw [half_len] at this; exact this
      · have hkeep := half_keep hlt (by rw [HCE.out]; unfold lowB; rw [if_neg hu])
        have HK := Lib.hid hkeep
        have hc256 : c.toNat < 256 := UInt8.toNat_lt c
        clear hkeep
        by_cases h1 : 65 ≤ c.toNat
        · have hu1' : (65 : Int) ≤ (c.toNat : Int) := by omega
          have hu2' : (90 : Int) < (c.toNat : Int) := by omega
          clear hu
          go_wp2_with fail
          exact ⟨⟨k + 1, cs, by omega, by go_num, HB.out, by rw [← HK.out]; exact HT.out, hbw⟩, by simp [intOf]; omega⟩
        · have hu1' : (c.toNat : Int) < 65 := by omega
          clear hu h1
          go_wp2_with fail
          exact ⟨⟨k + 1, cs, by omega, by go_num, HB.out, by rw [← HK.out]; exact HT.out, hbw⟩, by simp [intOf]; omega⟩
    · have hkl : k = l.length := by omega
      subst hkl
      have hcs := blk_cs hblk ht2
      rw [half_all] at hcs
      have hcv := run_str (P := Tryz.prog) wr Tryz.underlying31 Tryz.underlying5 Tryz.underlying9 cap hcs
      rw [low_len] at hcv
      clear hblk htake ht2 hcs
      go_wp2_with fail
      go_ret
      exact ⟨rfl, hbw⟩

end Nm
end Go.Proofs.YtkeimgamjnpcbaaGreat
