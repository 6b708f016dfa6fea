/-
  Contracts of package canon: data and Message, of sets of one datum.
-/
import Derived.Test.YtkeimgamjnpcbaaGreatBytes
import Derived.Test.YtkeimgamjnpcbaaGreatSigB
import Derived.Test.YtkeimgamjnpcbaaGreatCanonS
namespace Go.Proofs.YtkeimgamjnpcbaaGreat
open Go.RowKit
set_option linter.unusedVariables false
namespace Nm
theorem info_bytes : (Tryz.prog.info? 31).map (fun i => (i.zero, i.size, i.bytes)) = some (some (.slice none 0 0), 1, 24) := by kernel_rfl
theorem Compact1 (A : Option Addr) (cap : Nat) (f : Value) (w : World) : Calls Tryz.prog 100 #[.slice A 1 cap, f] w fun e w' => e = .returned (.slice A 1 cap) ∧ w = w' := by
  go_enter Tryz.func100, Tryz.ntmps100
  go_wp2_with fail
  go_ret
  exact ⟨rfl, rfl⟩
/-- a row of one -/
theorem row_one {w : World} {B : Nat} {e : TypeId} {v u : Value} (h : w.ownsRow B e 1 v 1 [u]) : ∃ g cap, v = .slice (some ⟨g, 0, none⟩) 1 cap ∧ B ≤ g ∧ g < w.heap.size ∧ w.cell? ⟨g, 0, none⟩ = some u ∧ w.frozen? ⟨g, 0, none⟩ = false := by
  rcases h.2 with ⟨_, hn⟩ | ⟨g, cap, cur, rfl, hg, hh, hn, hcap, hsz, htake⟩
  · omega
  · refine ⟨g, cap, rfl, hg, lt_block hh, ?_, by simp [World.frozen?, hh]⟩
    rw [cell_of_row w g 0 _ _ _ hh]
    have h0 : (cur.toList.take (1 * 1))[0]? = some u := by rw [htake]; rfl
    simpa using h0
/-- the types that are checked by their shape, and hold no name -/
def plainT (t : Int) : Prop := t ≠ 2 ∧ t ≠ 5 ∧ t ≠ 15 ∧ t ≠ 6 ∧ t ≠ 46 ∧ t ≠ 48 ∧ t ≠ 50
theorem canonD_plain {t : Int} (h : plainT t) (l : Lab) : canonD t l = l := by
  obtain ⟨p1, p2, p3, q1, q2, q3, q4⟩ := h
  unfold canonD
  split
  · unfold canonO
    rw [if_neg (fun h => h.elim p1 p2), if_neg p3, if_neg q1, if_neg q2]
  · rfl
set_option maxRecDepth 100000 in
set_option maxHeartbeats 4000000 in
/-- data of a set of one datum that is of its type -/
theorem data1 (A D : Option Addr) (n : List Lab) (cap dcap : Nat) (t ttl : Int) (b : Blob) (w : World) (ht : plainT t) (hok : chk t b.l = true) (hD : Cs w D [b.v]) (hb : b.ok w) (hcap : b.l.length ≤ b.cap) (hcap2 : b.cap ≤ maxLen) :
    Calls Tryz.prog 62 #[.agg #[.slice A n.length cap, .int .u16 t, .int .u32 ttl, .slice D 1 dcap]] w fun e w' =>
      ∃ A' x c, e = .returned (.slice A' 1 c) ∧ Cs w' A' [Blob.v x] ∧ x.l = b.l ∧ x.ok w' ∧ Below w.heap.size w w' := by
  obtain ⟨i0, hi, hz0, hz1, hz2⟩ := info_parts info_bytes
  have hl8 : b.l.length ≤ 8192 := (shp_of_chk ht.2.2.2.1 ht.2.2.2.2.1 ht.2.2.2.2.2.1 hok).2
  obtain ⟨p1, p2, p3, q1, q2, q3, q4⟩ := ht
  have HE : Hid (canonR t b.l = b.l) := Lib.hid ((canonR_yes hok).trans (by
    unfold canonO
    rw [if_neg (fun h => h.elim p1 p2), if_neg p3, if_neg q1, if_neg q2]))
  obtain ⟨db, doff, rfl, hdb, hdc⟩ := hD 0 _ rfl
  rw [Nat.add_zero] at hdc
  have hb1 : Below w.heap.size w (w.alloc (.cells #[.slice A n.length cap, .int .u16 t, .int .u32 ttl, .slice (some ⟨db, doff, none⟩) 1 dcap] 28)) := (Below.refl _ _).alloc (Nat.le_refl _) _
  have hd1 := (bcl hb1 (o := doff) hdb).trans hdc
  have hCn := CanonP t p1 p2 p3 q1 q2 q3 q4 b.A b.l b.cap (w.alloc (.cells #[.slice A n.length cap, .int .u16 t, .int .u32 ttl, .slice (some ⟨db, doff, none⟩) 1 dcap] 28)) (Cs.below hb hb1) (by omega) hcap hcap2
  rw [hok] at hCn
  have HC := Lib.hid hCn
  have hbv : b.v = .slice b.A b.l.length b.cap := rfl
  rw [hbv] at hdc hd1
  clear hCn hok p1 p2 p3 q1 q2 q3 q4 hbv hD
  unfold code50 at HC
  go_enter Tryz.func62, Tryz.ntmps62
  go_wp2_with fail
  refine wp_loop_rounds 2 ?_
  rw [rounds_succ]
  go_wp2_with fail
  refine HC.out.mono ?_
  rintro e w1 ⟨hbw1, v, rfl, hown⟩
  rw [HE.out] at hown
  obtain ⟨A5, c5, rfl, _, hcs5⟩ := Cs.of_own hown
  have hb2 := hb1.trans (hbw1.mono hb1.size)
  have HO := Lib.hid hown
  have hz1' := hb1.size
  have hz2' := hbw1.size
  clear hown hcs5
  go_wp2_with (first | (at_builtin; refine wpList_push2 (B := w1.heap.size) (v := .slice none 0 0) (n := 0) (xs := []) (World.ownsRow_nil _ _ 31 1) (Nat.le_refl _) [.slice A5 b.l.length c5] rfl (by simp [Value.oneCell']) hi hz0 hz1 hz2 rfl (by decide) rfl _ _ 26 Tryz.underlying26 rfl rfl rfl (by unfold maxLen; omega) (by omega) ?_; intro v4 w4 hown4 hbw4))
  rw [rounds_succ]
  go_wp2_with fail
  obtain ⟨g, cap4, hv4, hg1, hg2, hcell, hfr⟩ := row_one hown4
  subst hv4
  have hb4 : Below w.heap.size w w4 := hb2.trans (hbw4.mono (by omega))
  have hz4 := hbw4.size
  have hcs4 : Cs w4 A5 (b.l.map byteV) := by
    obtain ⟨A6, c6, e6, _, h6⟩ := Cs.of_own (own_below HO.out hbw4)
    cases e6
    exact h6
  have hne : ∀ a, A5 = some a → b.l.map byteV ≠ [] → a.block ≠ g := fun a ha hx => by
    obtain ⟨A6, c6, e6, _, h6⟩ := Cs.of_own HO.out
    cases e6
    have := h6.where ha hx
    omega
  have HN := Lib.hid hne
  have HC4 := Lib.hid hcs4
  clear hcs4 hne hown4
  refine (SortB1 g cap4 c5 A5 b.l w4 hcell hfr hg2 HC4.out HN.out).mono ?_
  rintro e w5 ⟨rfl, hk5, hc5⟩
  go_wp2_with fail
  refine (Compact1 _ _ _ _).mono ?_
  rintro e w6 ⟨rfl, rfl⟩
  go_wp2_with fail
  go_ret
  refine ⟨_, ⟨A5, b.l, c5⟩, _, rfl, ?_, rfl, ?_, hb4.trans (hk5.below (by omega) (fun k hk => by omega))⟩
  · intro i u hu
    cases i with
    | zero =>
      simp at hu
      exact ⟨g, 0, rfl, by have := hk5.size; omega, by rw [← hu]; exact hc5⟩
    | succ i => simp at hu
  · exact Kept.cs HC4.out hk5 HN.out
end Nm
end Go.Proofs.YtkeimgamjnpcbaaGreat
