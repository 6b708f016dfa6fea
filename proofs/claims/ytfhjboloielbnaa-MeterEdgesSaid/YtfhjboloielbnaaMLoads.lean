/-
  The walk of signetlaw10.MeterLoads.
-/
import Derived.Test.YtfhjboloielbnaaMKnow2
namespace Go.Proofs.Ytfhjboloielbnaa
open Go.RowKit
set_option linter.unusedVariables false
namespace Meter
open Flt

theorem stepV_lt {p v x : Nat} (hx : W64 x) : W64 (stepV p v x) := by
  unfold stepV
  split
  · exact hx
  · split
    · exact hx
    · split
      · exact hx
      · rename_i r h
        split
        · have := floatBits_wf h
          simpa [Lit.wf, W64] using this
        · exact hx
theorem newV_lt {p v n x : Nat} (hx : W64 x) : W64 (newV p v n x) := by
  unfold newV
  split
  · exact hx
  · split
    · exact stepV_lt hx
    · exact hx
theorem LoadAt.ref {w : World} {T g p v n : Nat} (h : LoadAt w T g p v n) : w.cell? ⟨g, 0 + 1, none⟩ = some (.float .f64 v) := h.cells.2.1

/-- two of them, alike -/
def Twin (w : World) (g1 g2 p v n : Nat) : Prop := LoadAt w 58 g1 p v n ∧ LoadAt w 48 g2 p v n
def addV (p v n x : Nat) : Nat := if isNaN x then v else newV p v n x
def addN (n x : Nat) : Nat := if isNaN x then n else n + 1
theorem Added.at {w : World} {T g p v n x : Nat} {w' : World} (h : Added w T g p v n x w') : LoadAt w' T g p (addV p v n x) (addN n x) ∧ w.grownBy w' (some g) := by
  unfold Added at h
  unfold addV addN
  cases hx : isNaN x
  · rw [hx] at h; exact ⟨by simpa using h.1, h.2⟩
  · rw [hx] at h; exact ⟨by simpa using h.1, h.2⟩
theorem addV_lt {p v n x : Nat} (hv : W64 v) (hx : W64 x) : W64 (addV p v n x) := by
  unfold addV
  split
  · exact hv
  · exact newV_lt hx
theorem addN_le (n x : Nat) : addN n x ≤ n + 1 := by unfold addN; split <;> omega

def LoadsR (l : List Nat) (w : World) (g1 g2 p : Nat) (i : Value) (wr : World) : Prop :=
  ∃ k v n : Nat, k ≤ l.length ∧ i = .int .i64 k ∧ n ≤ k ∧ W64 v ∧ Twin wr g1 g2 p v n ∧ Below w.heap.size w wr
set_option maxHeartbeats 2000000 in
theorem MeterLoads (A : Option Addr) (l : List Nat) (cap part : Nat) (w : World) (hc : Cs w A (l.map word64)) (hw : ∀ x ∈ l, W64 x) (hq : W64 part) :
    Calls Try.prog 7 #[.int .u64 part, .slice A l.length cap] w fun e w' => e = .returned (.bool true) ∧ Below w.heap.size w w' := by
  have HW := Lib.hid hw
  clear hw
  by_cases hlen : 100 < l.length
  · have hlen' : (100 : Int) < (l.length : Int) := by omega
    go_enter Try.func7, Try.ntmps7
    go_wp2_with (go_at_call 10; refine (known _).mono ?_; rintro e w1 ⟨rfl, hb1⟩)
    go_ret
    exact ⟨rfl, hb1⟩
  · have hlen' : (l.length : Int) ≤ 100 := by omega
    go_enter Try.func7, Try.ntmps7
    go_wp2_with (first | (go_at_call 10; refine (known _).mono ?_; rintro e w1 ⟨rfl, hb1⟩) | (go_at_call 12; refine (at_ _ _).mono ?_; rintro e w' ⟨rfl, rfl⟩))
    refine (New part _).mono ?_
    rintro e w2 ⟨g1, rfl, hg1, hL1, hb2⟩
    go_wp2_with (first | (go_at_call 12; refine (at_ _ _).mono ?_; rintro e w' ⟨rfl, rfl⟩))
    refine (RefNew part _).mono ?_
    rintro e w3 ⟨g2, rfl, hg2, hL2, hb3⟩
    generalize partV part = p at hL1 hL2
    have hg12 : g1 < g2 := by have := lt_block hL1; omega
    have hg1w : w.heap.size ≤ g1 := by have := hb1.size; omega
    have hg2w : w.heap.size ≤ g2 := by omega
    have hT : Twin w3 g1 g2 p 9221120237041090561 0 := ⟨hL1.below hb3, hL2⟩
    have hbel : Below w.heap.size w w3 := (hb1.trans (hb2.mono hb1.size)).trans (hb3.mono (Nat.le_trans hb1.size hb2.size))
    have HT := Lib.hid hT
    clear hT hL1 hL2
    go_wp2_with fail
    go_loopw [7] (LoadsR l w g1 g2 p) (fun i _ => l.length - (intOf i).toNat)
    case atStart => exact ⟨0, 9221120237041090561, 0, Nat.zero_le _, rfl, Nat.le_refl _, by unfold W64; omega, HT.out, hbel⟩
    case round =>
      obtain ⟨k, v, n, hk, rfl, hn, hv, ⟨hA, hB⟩, hbw⟩ := hrel
      have c1 := hB.cells.2.1
      have c2 := hB.cells.2.2.1
      have HA := Lib.hid hA
      have HB := Lib.hid hB
      clear hA hB
      by_cases hlt : k < l.length
      · obtain ⟨bk, off, rfl, hbl, hc0⟩ := Cs.word hc hlt
        have hc1 := (hbw.cell (p := ⟨bk, off + k, none⟩) hbl).trans hc0
        have hwk := HW.out l[k] (List.getElem_mem hlt)
        go_wp2_with fail
        go_quiet ((first
          | (go_at_call 20; exact Calls.quiet_of_same ((Value_ (HA.out.drewN _)).mono fun e w' ⟨h1, h2⟩ => ⟨h1, h2.symm⟩))
          | (go_at_call 21; exact Calls.quiet_of_same ((Count_ (HA.out.drewN _)).mono fun e w' ⟨h1, h2⟩ => ⟨h1, h2.symm⟩))
          | (go_at_call 17; exact Calls.quiet_of_same ((same _ _ _).mono fun e w' ⟨h1, h2⟩ => ⟨h1, h2.symm⟩))))
        go_wp2_with (first | (go_at_call 12; refine (at_ _ _).mono ?_; rintro e w' ⟨rfl, rfl⟩))
        refine (Add (HA.out.drewN _) (by omega) hv l[k] hwk).mono ?_
        rintro e w4 ⟨rfl, hA4⟩
        obtain ⟨hLA4, hgr4⟩ := hA4.at
        clear hA4
        have hLB4 := (HB.out.drewN _).grown hgr4 (by omega)
        have hbw4 := (below_drewN hbw _).grown hgr4 hbw.size (fun k hk => by cases hk; exact hg1w)
        have hc4 := (hbw4.cell (p := ⟨bk, off + k, none⟩) hbl).trans hc0
        have HLA4 := Lib.hid hLA4
        have HLB4 := Lib.hid hLB4
        have HGR4 := Lib.hid hgr4
        clear hLA4 hLB4 hgr4 c1 c2 hc1
        go_wp2_with (first | (go_at_call 12; refine (at_ _ _).mono ?_; rintro e w' ⟨rfl, rfl⟩))
        refine (RefAdd HLB4.out (by omega) hv l[k] hwk).mono ?_
        rintro e w5 ⟨rfl, hA5⟩
        obtain ⟨hLB5, hgr5⟩ := hA5.at
        clear hA5
        have hLA5 := HLA4.out.grown hgr5 (by omega)
        have hbw5 := hbw4.grown hgr5 hbw4.size (fun k hk => by cases hk; exact hg2w)
        have HT5 : Hid (Twin w5 g1 g2 p (addV p v n l[k]) (addN n l[k])) := Lib.hid ⟨hLA5, hLB5⟩
        have hnn := addN_le n l[k]
        have hvv : W64 (addV p v n l[k]) := addV_lt hv hwk
        clear hLA5 hLB5 hgr5
        go_wp2
        exact ⟨⟨k + 1, _, _, by omega, by go_num, by omega, hvv, HT5.out, hbw5⟩, by simp [intOf]; omega⟩
      · have hkl : k = l.length := by omega
        clear hkl
        go_wp2_with fail
        go_quiet ((first
          | (go_at_call 20; exact Calls.quiet_of_same ((Value_ (HA.out.drewN _)).mono fun e w' ⟨h1, h2⟩ => ⟨h1, h2.symm⟩))
          | (go_at_call 21; exact Calls.quiet_of_same ((Count_ (HA.out.drewN _)).mono fun e w' ⟨h1, h2⟩ => ⟨h1, h2.symm⟩))
          | (go_at_call 17; exact Calls.quiet_of_same ((same _ _ _).mono fun e w' ⟨h1, h2⟩ => ⟨h1, h2.symm⟩))))
        go_wp2_with fail
        go_ret
        exact ⟨rfl, below_drewN hbw _⟩

end Meter
end Go.Proofs.Ytfhjboloielbnaa
