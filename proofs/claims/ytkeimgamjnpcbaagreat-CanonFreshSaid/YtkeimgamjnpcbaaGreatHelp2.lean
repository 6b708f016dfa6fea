/-
  Contracts of the laws' help: signatures held against one another; light names, light sets.
-/
import Derived.Test.YtkeimgamjnpcbaaGreatHelp
namespace Go.Proofs.YtkeimgamjnpcbaaGreat
open Go.RowKit
set_option linter.unusedVariables false
namespace Nm
set_option maxRecDepth 100000 in
set_option maxHeartbeats 4000000 in
theorem HSig (t al lb ttl ex bg tg : Int) (A B : Option Addr) (a b : List Lab) (ca cb : Nat) (u v : Value) (hu : u.oneCell' = true) (hv : v.oneCell' = true) (w : World) (hca : Cs w A (a.map strV)) (hcb : Cs w B (b.map strV)) (hla : a.length ≤ 1000000) (hlb : b.length ≤ 1000000) :
    Calls Tryz.prog 15 #[.agg #[.int .u16 t, .int .u8 al, .int .u8 lb, .int .u32 ttl, .int .u32 ex, .int .u32 bg, .int .u16 tg, .slice A a.length ca, u], .agg #[.int .u16 t, .int .u8 al, .int .u8 lb, .int .u32 ttl, .int .u32 ex, .int .u32 bg, .int .u16 tg, .slice B b.length cb, v]] w fun e w' =>
      Below w.heap.size w w' ∧ e = .returned (.bool (decide (a = b))) := by
  have hb2 : ∀ o1 o2, Below w.heap.size w ((w.alloc o1).alloc o2) := fun o1 o2 => ((Below.refl _ _).alloc (Nat.le_refl _) _).alloc (by simp) _
  have hN : ∀ o1 o2, Calls Tryz.prog 32 #[.slice A a.length ca, .slice B b.length cb] ((w.alloc o1).alloc o2) fun e w' => Below w.heap.size w w' ∧ e = .returned (.bool (decide (a = b))) := fun o1 o2 =>
    (HName A B a b ca cb ((w.alloc o1).alloc o2) (hca.below (hb2 _ _)) (hcb.below (hb2 _ _)) hla hlb).mono fun e w' ⟨h1, h2⟩ => ⟨(hb2 o1 o2).trans (h1.mono (by simp; omega)), h2⟩
  have HN := Lib.hid hN
  clear hN hb2 hca hcb
  generalize decide (a = b) = r at *
  go_enter Tryz.func15, Tryz.ntmps15
  go_wp2_with fail
  refine (HN.out _ _).mono ?_
  rintro e w' ⟨hb, rfl⟩
  go_wp2_with fail
  go_ret
  exact ⟨hb, rfl⟩
def lens (n : List Lab) : Nat := (n.map List.length).sum
theorem lens_take {n : List Lab} {k : Nat} (h : k < n.length) : lens (n.take (k + 1)) = lens (n.take k) + n[k].length := by
  unfold lens
  rw [List.take_succ_eq_append_getElem h, List.map_append, List.sum_append]
  rfl
def lightN (n : List Lab) : Bool := decide (n.length ≤ 200) && n.all (fun l => decide (l.length ≤ 300)) && decide (lens n ≤ 2000)
theorem lightN_true {n : List Lab} (h : lightN n = true) : n.length ≤ 200 ∧ (∀ l ∈ n, l.length ≤ 300) ∧ lens n ≤ 2000 := by
  unfold lightN at h
  simp at h
  exact ⟨h.1.1, h.1.2, h.2⟩
theorem lightN_small {n : List Lab} (h : lightN n = true) : Small n := by
  obtain ⟨h1, h2, _⟩ := lightN_true h
  exact ⟨by omega, fun l hl => by have := h2 l hl; omega⟩
def LightR (n : List Lab) (w : World) (all i : Value) (wr : World) : Prop :=
  ∃ k : Nat, k ≤ n.length ∧ i = .int .i64 k ∧ all = .int .i64 (lens (n.take k)) ∧ (∀ l ∈ n.take k, l.length ≤ 300) ∧ lens (n.take k) ≤ k * 300 ∧ w = wr
set_option maxRecDepth 100000 in
set_option maxHeartbeats 4000000 in
theorem HLight (A : Option Addr) (n : List Lab) (cap : Nat) (w : World) (hc : Cs w A (n.map strV)) (hl : n.length ≤ maxLen) (hs : ∀ l ∈ n, l.length ≤ maxLen) :
    Calls Tryz.prog 42 #[.slice A n.length cap] w fun e w' => e = .returned (.bool (lightN n)) ∧ w = w' := by
  have HS := Lib.hid hs
  clear hs
  unfold maxLen at hl HS
  by_cases h2 : 200 < n.length
  · have HV : Hid (lightN n = false) := Lib.hid (by unfold lightN; simp; intro h; omega)
    go_enter Tryz.func42, Tryz.ntmps42
    go_wp2_with fail
    go_ret
    exact ⟨ret_bool HV.out.symm, rfl⟩
  · go_enter Tryz.func42, Tryz.ntmps42
    go_wp2_with fail
    go_loopw [3, 4] (LightR n w) (fun _ i _ => n.length - (intOf i).toNat)
    case atStart => exact ⟨0, Nat.zero_le _, rfl, rfl, by simp, by simp [lens], rfl⟩
    case round =>
      obtain ⟨k, hk, rfl, rfl, hall, hsum, rfl⟩ := hrel
      have HA := Lib.hid hall
      clear hall
      by_cases hlt : k < n.length
      · obtain ⟨bk, off, rfl, hbl, hc0⟩ := Cs.str hc hlt
        have hl6 := HS.out n[k] (List.getElem_mem hlt)
        have HL := Lib.hid (lens_take hlt)
        have hsz := strB_size n[k]
        have HM : Hid (n[k] ∈ n) := Lib.hid (List.getElem_mem hlt)
        have HN : Hid (∀ l ∈ n.take (k + 1), l ∈ n.take k ∨ l = n[k]) := Lib.hid (by
          intro l hl
          rw [List.take_succ_eq_append_getElem hlt, List.mem_append] at hl
          simpa only [List.mem_singleton] using hl)
        generalize n[k] = l at *
        generalize lens (n.take k) = s at *
        by_cases h3 : 300 < l.length
        · have HV : Hid (lightN n = false) := Lib.hid (by
            unfold lightN
            have : n.all (fun l => decide (l.length ≤ 300)) = false := by
              rw [List.all_eq_false]
              exact ⟨l, HM.out, by simp; omega⟩
            rw [this]; simp)
          go_wp2_with fail
          go_ret
          exact ⟨ret_bool HV.out.symm, rfl⟩
        · go_wp2_with fail
          refine ⟨⟨k + 1, by omega, by go_num, by rw [HL.out]; go_num, ?_, by rw [HL.out]; omega, rfl⟩, by simp [intOf]; omega⟩
          intro x hx
          rcases HN.out x hx with h | h
          · exact HA.out x h
          · rw [h]; omega
      · have hkn : k = n.length := by omega
        rw [hkn, List.take_length] at HA hsum ⊢
        clear hkn
        have HV : Hid (lightN n = decide (lens n ≤ 2000)) := Lib.hid (by
          unfold lightN
          have : n.all (fun l => decide (l.length ≤ 300)) = true := by
            rw [List.all_eq_true]
            intro l hl
            simpa using HA.out l hl
          rw [this]; simp; omega)
        go_wp2_with fail
        go_ret
        exact ⟨ret_bool (by rw [HV.out]; simp; omega), rfl⟩
end Nm
end Go.Proofs.YtkeimgamjnpcbaaGreat
