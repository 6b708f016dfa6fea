/-
  Texts merged by a program (Known, Help2, OrdMath, RelJ, Reg8, HoldsP, HEnd).
-/
import Derived.Test.YthogembgndkmpaaGreatDoorHk1
import Derived.Test.YthogembgndkmpaaGreatDoorHk2
import Derived.Test.YthogembgndkmpaaGreatDoorHk5
import Derived.Test.YthogembgndkmpaaGreatDoorHk6
import Derived.Test.YthogembgndkmpaaGreatDoorHk9
import Derived.Test.YthogembgndkmpaaGreatDoorHk10
import Derived.Test.YthogembgndkmpaaGreatDoorHk11
import Derived.Test.YthogembgndkmpaaGreatDoorHk13
import Derived.Test.YthogembgndkmpaaGreatDoorHk15
import Derived.Test.YthogembgndkmpaaGreatDoorHk16
import Derived.Test.YthogembgndkmpaaGreatDoorHk17
set_option linter.unusedSimpArgs false
set_option linter.unusedVariables false
/- The walk of CanonFresh: its known answer, its light sets. -/
namespace Go.Proofs.YthogembgndkmpaaGreatDoor
open Go.RowKit
namespace Nm
theorem own_kept_ty {w w' : World} {B : Nat} {e e' : TypeId} {size : Nat} {v : Value} {n : Nat} {xs : List Value} {g : Nat} {cs : Array Value} {fr : Nat × Nat} (he : e ≠ e') (h : w.ownsRow B e size v n xs)
    (hg : w.heap[g]? = some (.cells cs e' fr)) (hk : Kept (fun k => k = g) w w') : w'.ownsRow B e size v n xs := by
  refine Kept.row h hk ?_
  intro k hk2 hkg
  subst hkg
  rcases h.2 with ⟨hn, _⟩ | ⟨g2, cap, cur, rfl, hg2, hh, rest⟩
  · subst hn
    cases hk2
  · cases hk2
    rw [hg] at hh
    cases hh
    exact he rfl
theorem own_cap {w : World} {B : Nat} {e : TypeId} {size : Nat} {A : Option Addr} {m c n : Nat} {xs : List Value} (h : w.ownsRow B e size (.slice A m c) n xs) : n ≤ c ∧ c ≤ maxLen := by
  rcases h.2 with ⟨h1, h2⟩ | ⟨g2, cap, cur, h1, hg2, hh, h3, h4, rest⟩
  · cases h1
    subst h2
    exact ⟨Nat.le_refl _, by unfold maxLen; omega⟩
  · cases h1
    exact ⟨h3, h4⟩
def sigRow (v : Value) : Array Value := #[.int .u16 1, .int .u8 253, .int .u8 2, .int .u32 30, .int .u32 150, .int .u32 100, .int .u16 7, v, .slice none 0 0]
set_option maxRecDepth 100000 in
set_option maxHeartbeats 20000000 in
theorem Known (w : World) : Calls Tryz.prog 4 #[] w fun e w' => e = .returned (.bool true) ∧ Below w.heap.size w w' := by
  go_enter Tryz.func4, Tryz.ntmps4
  go_wp2_with fail
  refine (Owner 1 (by omega) w).mono ?_
  rintro e w1 ⟨v1, rfl, hown1, hb1⟩
  obtain ⟨A1, c1, rfl, hl1, hcs1⟩ := Cs.of_own hown1
  go_wp2_with fail
  obtain ⟨hcap1, hcap2⟩ := own_cap hown1
  generalize hw2 : ((w1.alloc (.cells #[.int .u8 1, .int .u8 2, .int .u8 3, .int .u8 4] 5)).alloc (.cells #[.slice (some ⟨w1.heap.size, 0, none⟩) 4 4] 28)).alloc (.cells #[.slice A1 (owner 1).length c1, .int .u16 1, .int .u32 30, .slice (some ⟨w1.heap.size + 1, 0, none⟩) 1 1] 34) = w2
  have hba : Below w1.heap.size w1 (w1.alloc (.cells #[.int .u8 1, .int .u8 2, .int .u8 3, .int .u8 4] 5)) := (Below.refl _ _).alloc (Nat.le_refl _) _
  have hbb : Below w1.heap.size w1 w2 := by rw [← hw2]; exact (hba.alloc (by simp) _).alloc (by simp; omega) _
  have hz2 : w2.heap.size = w1.heap.size + 3 := by rw [← hw2]; simp
  have hgs : w2.heap[w1.heap.size + 2]? = some (.cells #[.slice A1 (owner 1).length c1, .int .u16 1, .int .u32 30, .slice (some ⟨w1.heap.size + 1, 0, none⟩) 1 1] 34 (0, 0)) := by
    rw [← hw2]
    have := heap_alloc_new ((w1.alloc (.cells #[.int .u8 1, .int .u8 2, .int .u8 3, .int .u8 4] 5)).alloc (.cells #[.slice (some ⟨w1.heap.size, 0, none⟩) 4 4] 28)) (.cells #[.slice A1 (owner 1).length c1, .int .u16 1, .int .u32 30, .slice (some ⟨w1.heap.size + 1, 0, none⟩) 1 1] 34)
    simpa using this
  have hc4 : Cs w2 (some ⟨w1.heap.size, 0, none⟩) (([1, 2, 3, 4] : Lab).map byteV) := by
    rw [← hw2]
    have := cs_new w1 5 [.int .u8 1, .int .u8 2, .int .u8 3, .int .u8 4] (0, 0)
    exact (this.below ((Below.refl _ _).alloc (Nat.le_refl _) _)).below ((Below.refl _ _).alloc (Nat.le_refl _) _)
  have hc5 : Cs w2 (some ⟨w1.heap.size + 1, 0, none⟩) ([⟨some ⟨w1.heap.size, 0, none⟩, [1, 2, 3, 4], 4⟩].map Blob.v) := by
    rw [← hw2]
    have := cs_new (w1.alloc (.cells #[.int .u8 1, .int .u8 2, .int .u8 3, .int .u8 4] 5)) 28 [.slice (some ⟨w1.heap.size, 0, none⟩) 4 4] (0, 0)
    rw [World.size_alloc] at this
    exact this.below ((Below.refl _ _).alloc (Nat.le_refl _) _)
  have hsv : (⟨A1, owner 1, c1, 1, 30, some ⟨w1.heap.size + 1, 0, none⟩, [⟨some ⟨w1.heap.size, 0, none⟩, [1, 2, 3, 4], 4⟩], 1⟩ : SetV).ok w2 := ⟨hcs1.below hbb, hc5, by
    intro b hb
    rcases List.mem_cons.1 hb with rfl | hb
    · exact hc4
    · cases hb⟩
  have HSV := Lib.hid hsv
  have hbw2 := hb1.trans (hbb.mono hb1.size)
  have HC4 := Lib.hid hc4
  have HC5 := Lib.hid hc5
  have HC1 := Lib.hid (hcs1.below hbb)
  have hzz := hb1.size
  clear hw2 hba hbb hc4 hc5 hsv hown1 hcs1 hb1
  have HFR : Hid (∀ (A : Option Addr) (cap : Nat) (W : World), Below w2.heap.size w2 W → Cs W A ([exL].map strV) → Calls Tryz.prog 7 #[.agg #[.slice A1 (owner 1).length c1, .int .u16 1, .int .u32 30, .slice (some ⟨w1.heap.size + 1, 0, none⟩) 1 1], .int .u32 30, .int .u16 7, .slice A 1 cap, .int .u32 100, .int .u32 50] W fun e w' =>
      ∃ v, e = .returned (.agg #[.int .u16 1, .int .u8 253, .int .u8 2, .int .u32 30, .int .u32 150, .int .u32 100, .int .u16 7, v, .slice none 0 0]) ∧ w'.ownsRow W.heap.size 9 1 v 1 ([exL].map strV) ∧ Below W.heap.size W w') := Lib.hid fun A cap W hW hA =>
    Fresh ⟨A1, owner 1, c1, 1, 30, some ⟨w1.heap.size + 1, 0, none⟩, [⟨some ⟨w1.heap.size, 0, none⟩, [1, 2, 3, 4], 4⟩], 1⟩ 30 7 100 50 A [exL] cap W (HSV.out.below hW) (show (owner 1).length ≤ 1000 by decide) hcap1 hcap2 hA (by decide) (by omega) (by omega) (by omega) (by omega)
  clear HSV
  refine wp_region_dep (by kernel_rfl) (by kernel_rfl) (fun i j => i == 4 && j == 3) (by kernel_rfl)
    (fun i W W' => if i = 4 then ∃ g cs fr, W.heap[g]? = some (.cells cs 41 fr) ∧ w2.heap.size ≤ g ∧ Kept (fun k => k = g) W W' else Ext W W')
    (fun W => Below w2.heap.size w2 W)
    (fun i vals W => match i with
      | 0 => vals 0 = .agg #[.slice A1 (owner 1).length c1, .int .u16 1, .int .u32 30, .slice (some ⟨w1.heap.size + 1, 0, none⟩) 1 1]
      | 1 => W.ownsRow w2.heap.size 9 1 (vals 1) 1 ([exL].map strV)
      | 2 => ∃ v, vals 2 = .agg (sigRow v) ∧ W.ownsRow w2.heap.size 9 1 v 1 ([exL].map strV)
      | 3 => ∃ g cs, vals 3 = .pointer (some ⟨g, 0, none⟩) ∧ w2.heap.size ≤ g ∧ W.heap[g]? = some (.cells cs 41 (0, 0)) ∧ cs.size = 9
      | 4 => ∃ g v, vals 3 = .pointer (some ⟨g, 0, none⟩) ∧ w2.heap.size ≤ g ∧ W.heap[g]? = some (.cells (sigRow v) 41 (0, 0)) ∧ W.ownsRow w2.heap.size 9 1 v 1 ([exL].map strV)
      | _ => True) ?_ (fun _ => True) (fun _ => false) trivial (fun _ _ _ _ _ _ _ => trivial) ?_ ?_ ?_ ?_ ?_
  · intro j vals i v W hij hw hR
    rcases j with _ | _ | _ | _ | _ | j
    · simpa [hij, Ne.symm hij] using hR
    · simpa [hij, Ne.symm hij] using hR
    · simpa [hij, Ne.symm hij] using hR
    · simpa [hij, Ne.symm hij] using hR
    · have h3 : ¬ 3 = i := fun h => by
        subst h
        generalize hb : waitsB _ _ _ = b at hw
        have : b = true := by rw [← hb]; kernel_rfl
        rw [this] at hw
        cases hw
      simpa [h3] using hR
    · trivial
  · exact ⟨rfl, rfl, rfl, Nat.le_refl _, fun _ _ => rfl⟩
  · intro i W W' hC hT
    by_cases h4 : i = 4
    · simp only [h4, if_true] at hT
      obtain ⟨g, cs, fr, h1, h2, h3⟩ := hT
      exact hC.trans (h3.below hC.size (fun k hk h => by omega))
    · simp only [h4, if_false] at hT
      exact hC.trans (hT.mono hC.size)
  · intro i j vals W W' hij hk hw hC hR hT
    by_cases h4 : i = 4
    · simp only [h4, if_true] at hT
      obtain ⟨g, cs, fr, h1, h2, h3⟩ := hT
      subst h4
      rcases j with _ | _ | _ | _ | _ | j
      · exact hR
      · exact own_kept_ty (by decide) hR h1 h3
      · obtain ⟨v, h5, h6⟩ := hR
        exact ⟨v, h5, own_kept_ty (by decide) h6 h1 h3⟩
      · cases hk
      · exact absurd rfl hij
      · trivial
    · simp only [h4, if_false] at hT
      rcases j with _ | _ | _ | _ | _ | j
      · exact hR
      · exact own_below hR hT
      · obtain ⟨v, h5, h6⟩ := hR
        exact ⟨v, h5, own_below h6 hT⟩
      · obtain ⟨g, cs, h5, h6, h7, h8⟩ := hR
        exact ⟨g, cs, h5, h6, (hT.block _ (lt_block h7)).trans h7, h8⟩
      · obtain ⟨g, v, h5, h6, h7, h8⟩ := hR
        exact ⟨g, v, h5, h6, (hT.block _ (lt_block h7)).trans h7, own_below h8 hT⟩
      · trivial
  · intro i o hio vals W hC haf _
    have hg := (hC.block _ (show w1.heap.size + 2 < w2.heap.size by omega)).trans hgs
    rcases i with _ | _ | _ | _ | _ | i
    all_goals first
      | (exfalso; simp at hio; done)
      | skip
    all_goals
      simp at hio
      subst hio
      simp [bindD, rdB, Region.binds] at haf
    · have e0 : W.cell? ⟨w1.heap.size + 2, 0, none⟩ = some (.slice A1 (owner 1).length c1) := by rw [cell_of_row _ _ 0 _ _ _ hg]; rfl
      have e1 : W.cell? ⟨w1.heap.size + 2, 1, none⟩ = some (.int .u16 1) := by rw [cell_of_row _ _ 1 _ _ _ hg]; rfl
      have e2 : W.cell? ⟨w1.heap.size + 2, 2, none⟩ = some (.int .u32 30) := by rw [cell_of_row _ _ 2 _ _ _ hg]; rfl
      have e3 : W.cell? ⟨w1.heap.size + 2, 3, none⟩ = some (.slice (some ⟨w1.heap.size + 1, 0, none⟩) 1 1) := by rw [cell_of_row _ _ 3 _ _ _ hg]; rfl
      simp [opYield_def, yieldUpon, relAct, dstAt, Act.put, Region.wanted, go_sem, e0, e1, e2, e3, Ext.refl]
    · simp [opYield_def, yieldUpon, relAct, dstAt, Act.put, Region.wanted, go_sem, haf]
      refine (Apex W).mono fun e W' h => ?_
      obtain ⟨v, he, ho, hb⟩ := h
      exact ⟨v, he, hb, own_base ho hC.size⟩
    · obtain ⟨h0, h1⟩ := haf
      obtain ⟨A5, c5, e5, _, hc5⟩ := Cs.of_own h1
      simp [opYield_def, yieldUpon, relAct, dstAt, Act.put, Region.wanted, go_sem, h0, e5]
      refine (HFR.out A5 c5 W hC hc5).mono fun e W' h => ?_
      obtain ⟨v, he, ho, hb⟩ := h
      exact ⟨_, he, hb, v, rfl, own_base ho hC.size⟩
    · simp [opYield_def, yieldUpon, relAct, dstAt, Act.put, Region.wanted, go_sem]
      exact ⟨(Below.refl _ _).alloc (Nat.le_refl _) _, hC.size, #[.int .u16 0, .int .u8 0, .int .u8 0, .int .u32 0, .int .u32 0, .int .u32 0, .int .u16 0, .slice none 0 0, .slice none 0 0], by simp only [World.alloc, Array.getElem_push_eq], rfl⟩
    · obtain ⟨h3, h2⟩ := haf
      obtain ⟨g, h5, h6, cs, h7, h8⟩ := h3
      obtain ⟨v, h9, h10⟩ := h2
      obtain ⟨A5, c5, rfl, _, hc5⟩ := Cs.of_own h10
      refine yield_store (g := g) (cells := sigRow (.slice A5 1 c5)) rfl rfl (by simp [relAct, dstAt, Act.put, Act.eval, h5]) (by simp [relAct, dstAt, Act.put, Act.eval, h9]) h7 (by kernel_rfl) h8 (by simp [sigRow, Value.oneCell']) ?_
      have hblk := setRow_block W g (sigRow (.slice A5 1 c5)) cs 41 (0, 0) h7
      have hgr := setRow_grown W g (sigRow (.slice A5 1 c5))
      have hk : Kept (fun k => k = g) W (W.setRow g (sigRow (.slice A5 1 c5))) := (Kept.of_grown hgr).mono (fun k _ h => by cases h; rfl)
      exact ⟨⟨g, cs, (0, 0), h7, h6, hk⟩, g, _, by simpa using h5, h6, hblk, own_kept_ty (by decide) h10 h7 hk⟩
  · intro vals W hC hR
    have h4 := hR 4 (by show 4 < 5; omega) (fun i _ => by simp)
    obtain ⟨g, v, h3, hgN, hgb, hov⟩ := h4
    simp [relAct, dstAt, Act.put]
    rw [h3]
    obtain ⟨A5, c5, rfl, _, hc5⟩ := Cs.of_own hov
    have hgW := lt_block hgb
    have hsb := (hC.block _ (show w1.heap.size + 2 < w2.heap.size by omega)).trans hgs
    have hbW := hbw2.trans (hC.mono (by have := hbw2.size; omega))
    have hcW := HC1.out.below hC
    have h4W := HC4.out.below hC
    have h5W := HC5.out.below hC
    have HC5 := Lib.hid hc5
    have hzC := hC.size
    clear hR hgs HFR hc5 hov
    generalize vals 0 = v0 at *
    generalize vals 1 = v1 at *
    generalize vals 2 = v2 at *
    go_wp2_with fail
    refine (Owner 4 (by omega) W).mono ?_
    rintro e W4 ⟨v4, rfl, hown4, hb4⟩
    obtain ⟨A4, c4, rfl, _, hcs4⟩ := Cs.of_own hown4
    obtain ⟨hq1, hq2⟩ := own_cap hown4
    have hl4 : labels (owner 4) = 2 := by decide
    have hz4 := hb4.size
    clear hown4
    go_wp2_with fail
    refine (Labels A4 (owner 4) c4 W4 hcs4 (by decide) hq1 hq2).mono ?_
    rintro e W4' ⟨rfl, rfl⟩
    rw [hl4]
    clear hcs4 hq1 hq2 hl4
    go_wp2_with fail
    refine (Owner 12 (by omega) W4).mono ?_
    rintro e W6 ⟨v6, rfl, hown6, hb6⟩
    obtain ⟨A6, c6, rfl, _, hcs6⟩ := Cs.of_own hown6
    obtain ⟨hq1, hq2⟩ := own_cap hown6
    have hl6 : labels (owner 12) = 1 := by decide
    have hz6 := hb6.size
    have hg6 := (hb6.block _ (show g < W4.heap.size by omega)).trans ((hb4.block _ hgW).trans hgb)
    have hs6 := (hb6.block _ (show w1.heap.size + 2 < W4.heap.size by omega)).trans ((hb4.block _ (show w1.heap.size + 2 < W.heap.size by omega)).trans hsb)
    obtain ⟨k0, k1, k2, k3, k4, k5, k6, k7, k8, kf⟩ := cells9 hg6
    have s0 : W6.cell? ⟨w1.heap.size + 2, 0, none⟩ = some (.slice A1 (owner 1).length c1) := by rw [cell_of_row _ _ 0 _ _ _ hs6]; rfl
    have s1 : W6.cell? ⟨w1.heap.size + 2, 1, none⟩ = some (.int .u16 1) := by rw [cell_of_row _ _ 1 _ _ _ hs6]; rfl
    have s2 : W6.cell? ⟨w1.heap.size + 2, 2, none⟩ = some (.int .u32 30) := by rw [cell_of_row _ _ 2 _ _ _ hs6]; rfl
    have s3 : W6.cell? ⟨w1.heap.size + 2, 3, none⟩ = some (.slice (some ⟨w1.heap.size + 1, 0, none⟩) 1 1) := by rw [cell_of_row _ _ 3 _ _ _ hs6]; rfl
    have hb46 := hb4.trans (hb6.mono hz4)
    have hb66 := hbW.trans (hb46.mono (by omega))
    have HM := Lib.hid (Message1 A1 (some ⟨w1.heap.size + 1, 0, none⟩) (owner 1) c1 1 1 30 ⟨some ⟨w1.heap.size, 0, none⟩, [1, 2, 3, 4], 4⟩ ⟨1, 253, 2, 30, 150, 100, 7, [exL], []⟩ A5 none c5 0 W6 (by unfold plainT; decide) (by decide) (by kernel_rfl) (hcW.below hb46) (by unfold Small; decide) (h5W.below hb46) (Cs.below h4W hb46) (show (4 : Nat) ≤ 4 by decide) (show (4 : Nat) ≤ maxLen by unfold maxLen; decide)
      ⟨by decide, by decide, by decide, by decide, by decide, by decide, by decide, by unfold Small; decide, by decide⟩ (HC5.out.below hb46) (by decide))
    clear hown6 hg6 hs6 hcW h4W h5W hgb hsb
    go_wp2_with fail
    refine (Labels A6 (owner 12) c6 W6 hcs6 (by decide) hq1 hq2).mono ?_
    rintro e W6' ⟨rfl, rfl⟩
    rw [hl6]
    clear hcs6 hq1 hq2 hl6
    go_wp2_with fail
    refine HM.out.mono ?_
    rintro e W7 ⟨v7, rfl, hown7, hb7⟩
    obtain ⟨A7, c7, rfl, _, _⟩ := Cs.of_own hown7
    have hlen : List.length (msg1 (owner 1) 1 [1, 2, 3, 4] { t := 1, al := 253, lb := 2, ttl := 30, ex := 150, bg := 100, tg := 7, n := [exL], s := [] }) = 52 := by kernel_rfl
    have hbF := hb66.trans (hb7.mono hb66.size)
    have hbR : Below w.heap.size w W7 := hbF
    clear hown7 hb7
    rw [hlen]
    clear hlen HM
    go_wp2_with fail
    go_ret
    exact ⟨rfl, hbR⟩
end Nm
end Go.Proofs.YthogembgndkmpaaGreatDoor

/- Contracts of the laws' help: signatures held against one another; light names, light sets. -/
namespace Go.Proofs.YthogembgndkmpaaGreatDoor
open Go.RowKit
namespace Nm
def lens (n : List Lab) : Nat := (n.map List.length).sum
theorem lens_take {n : List Lab} {k : Nat} (h : k < n.length) : lens (n.take (k + 1)) = lens (n.take k) + n[k].length := by
  unfold lens
  rw [List.take_succ_eq_append_getElem h, List.map_append, List.sum_append]
  rfl
def lightN (n : List Lab) : Bool := decide (n.length ≤ 200) && n.all (fun l => decide (l.length ≤ 300)) && decide (lens n ≤ 2000)
theorem lightN_true {n : List Lab} (h : lightN n = true) : n.length ≤ 200 ∧ (∀ l ∈ n, l.length ≤ 300) ∧ lens n ≤ 2000 := by
  unfold lightN at h
  simp at h
  exact ⟨h.1.1, h.1.2, h.2⟩
theorem lightN_small {n : List Lab} (h : lightN n = true) : Small n := by
  obtain ⟨h1, h2, _⟩ := lightN_true h
  exact ⟨by omega, fun l hl => by have := h2 l hl; omega⟩
end Nm
end Go.Proofs.YthogembgndkmpaaGreatDoor

/- Plain law: how long what is signed may be; names that are said in small letters already. -/
namespace Go.Proofs.YthogembgndkmpaaGreatDoor
open Go.RowKit
namespace Nm
theorem wires_lens : ∀ n : List Lab, (wires n).length = lens n + n.length
  | [] => rfl
  | l :: n => by
    have ih := wires_lens n
    have e : wires (l :: n) = wire1 l ++ wires n := by simp [wires]
    have e2 : lens (l :: n) = l.length + lens n := by simp [lens]
    rw [e, List.length_append, ih, e2, List.length_cons]
    simp [wire1]
    omega
theorem wire_lens (n : List Lab) : (wire n).length = lens n + n.length + 1 := by
  unfold wire
  rw [List.length_append, wires_lens]
  rfl
theorem lens_lower (n : List Lab) : lens (lower n) = lens n := by
  unfold lens lower
  rw [List.map_map]
  congr 1
  apply List.map_congr_left
  intro l _
  exact low_len l
theorem lens_drop (n : List Lab) (k : Nat) : lens (n.drop k) ≤ lens n := by
  have h : lens (n.take k ++ n.drop k) = lens (n.take k) + lens (n.drop k) := by unfold lens; rw [List.map_append, List.sum_append]
  rw [List.take_append_drop] at h
  omega
theorem wire_lower_len (n : List Lab) : (wire (lower n)).length = (wire n).length := by rw [wire_lens, wire_lens, lens_lower, lower_len]
theorem openN_len (b : Lab) : (wire (lower (openN b))).length ≤ b.length + 1 := by
  rw [wire_lower_len]
  cases hO : openO b with
  | none => rw [(openO_none hO).2.1]; simp [wire, wires]
  | some p =>
    obtain ⟨n, k⟩ := p
    obtain ⟨_, _, _, h4, _⟩ := openO_some hO
    obtain ⟨g1, g2, _, _⟩ := openO_le hO
    rw [h4, g2, List.length_take]
    omega
theorem soaO_len {b : Lab} {m x : List Lab} {k : Nat} (h : soaO b = some (m, x, k)) : (wire (lower m) ++ wire (lower x) ++ b.drop k).length ≤ 3 * b.length + 30 := by
  unfold soaO at h
  cases h1 : openO b with
  | none => rw [h1] at h; cases h
  | some p =>
    obtain ⟨m', i⟩ := p
    rw [h1] at h
    simp only at h
    cases h2 : openO (b.drop i) with
    | none => rw [h2] at h; cases h
    | some q =>
      obtain ⟨x', j⟩ := q
      rw [h2] at h
      simp only at h
      split at h
      · simp only [Option.some.injEq, Prod.mk.injEq] at h
        obtain ⟨rfl, rfl, rfl⟩ := h
        obtain ⟨g1, g2, _, _⟩ := openO_le h1
        obtain ⟨g3, g4, _, _⟩ := openO_le h2
        rw [List.length_append, List.length_append, wire_lower_len, wire_lower_len, g2, g4, List.length_take, List.length_take, List.length_drop, List.length_drop]
        omega
      · cases h
theorem canonO_len (t : Int) (b : Lab) : (canonO t b).length ≤ 3 * b.length + 30 := by
  unfold canonO
  split
  · have := openN_len b
    omega
  · split
    · have := openN_len (b.drop 2)
      rw [List.length_append, List.length_take]
      rw [List.length_drop] at this
      omega
    · split
      · cases hs : soaO b with
        | none => simp
        | some p =>
          obtain ⟨m, x, k⟩ := p
          exact soaO_len hs
      · split
        · have := openN_len (b.drop 18)
          rw [List.length_append, List.length_append, List.length_take, List.length_drop]
          rw [List.length_drop] at this
          omega
        · omega
theorem canX_len (t : Int) (b : Lab) : (canX t b).length ≤ 3 * b.length + 30 := by
  unfold canX canonD
  split
  · omega
  · split
    · exact canonO_len t b
    · omega
theorem ownN_len (n : List Lab) (lb : Nat) (h : lightN n = true) : (wire (ownN n lb)).length ≤ 10000 := by
  obtain ⟨h1, h2, h3⟩ := lightN_true h
  unfold ownN
  split
  · rw [wire_lower_len, wire_lens]
    omega
  · rw [wire_lens]
    have a := lens_drop (lower n) (n.length - lb)
    have b : lens (star :: (lower n).drop (n.length - lb)) = 1 + lens ((lower n).drop (n.length - lb)) := by simp [lens, star]
    rw [lens_lower] at a
    rw [b, List.length_cons, List.length_drop, lower_len]
    omega
theorem low_bytes_len (g : SigM) (h : lightN g.n = true) : g.low.bytes.length ≤ 10000 := by
  obtain ⟨h1, h2, h3⟩ := lightN_true h
  have e : g.low.bytes.length = 18 + (wire (lower g.n)).length + 0 := by simp [SigM.bytes, SigM.low, be2, be4]; omega
  rw [e, wire_lower_len, wire_lens]
  omega
theorem ownN_lower (n : List Lab) (lb : Nat) : ownN (lower n) lb = ownN n lb := by
  unfold ownN
  rw [lower_len, lower_idem]
theorem msgL_lower (n : List Lab) (t : Nat) (ys : List Lab) (g : SigM) : msgL (lower n) t ys g = msgL n t ys g := by
  unfold msgL
  rw [ownN_lower]
theorem lightN_lower {n : List Lab} (h : lightN n = true) : lightN (lower n) = true := by
  obtain ⟨h1, h2, h3⟩ := lightN_true h
  unfold lightN
  rw [lower_len, lens_lower]
  simp only [Bool.and_eq_true, decide_eq_true_eq, List.all_eq_true]
  refine ⟨⟨h1, fun l hl => ?_⟩, h3⟩
  obtain ⟨x, hx, rfl⟩ := List.mem_map.1 hl
  rw [low_len]
  exact h2 x hx
end Nm
end Go.Proofs.YthogembgndkmpaaGreatDoor

/- A region that draws its order: one thing said of all that is done so far. -/
namespace Go.Proofs.YthogembgndkmpaaGreatDoor
open Go.RowKit
section
variable {P : Program} {ops : Array Oper}
/-- WHATEVER THE ORDER: J says what holds of the operations that are done (L), their values and the world -/
theorem wp_region_j {id : Nat} {Q : Exit → Act → World → Prop} {a0 : Act} {w0 : World} (hm : P.follows .mixedOrders = true) (hB : relB2 ops = true)
    (J : (Nat → Bool) → (Nat → Value) → World → Prop) (hJ0 : J (fun _ => false) (fun _ => undef) { w0 with drawn := w0.drawn + 1 })
    (step : ∀ i o, ops[i]? = some o → ∀ L vals W, J L vals W → L i = false → (∀ e ∈ o.after, Region.binds .any e = true → L e.on = true) →
      opYield P ops o (relAct ops a0 (fun _ => true) vals i) W (fun v W' => J (fun k => if k = i then true else L k) (fun k => if k = i then v else vals k) W'))
    (hend : ∀ vals W, J (fun j => decide (j < ops.size)) vals W → Q .normal (relAct ops a0 (fun _ => true) vals ops.size) W) :
    (Code.region id ops true).wp P Q a0 w0 := by
  have main : ∀ (fuel : Nat) (listed : Array Bool) (vals : Nat → Value) (W : World), listed.size = ops.size → listed.toList.count false ≤ fuel →
      (∀ j o, ops[j]? = some o → listed.getD j false = true → ∀ e ∈ o.after, Region.binds .any e = true → listed.getD e.on false = true) → J (fun j => listed.getD j false) vals W →
      wpAny P .any ops Q fuel listed (relAct ops a0 (fun j => listed.getD j false) vals ops.size) W := by
    intro fuel
    have fin : ∀ (listed : Array Bool) (vals : Nat → Value) (W : World), listed.size = ops.size → Region.ready .any ops listed = [] → J (fun j => listed.getD j false) vals W →
        Q .normal (relAct ops a0 (fun j => listed.getD j false) vals ops.size) W := by
      intro listed vals W hs hr hJW
      have all : ∀ n, ∀ j, j < n → j < ops.size → listed.getD j false = true := by
        intro n
        induction n with
        | zero => intro j h; omega
        | succ n ih =>
          intro j hj hlt
          cases hl : listed.getD j false
          · exfalso
            have hop : ops[j]? = some ops[j] := Array.getElem?_eq_getElem hlt
            obtain ⟨_, hb2, _⟩ := relB2_spec hB hop
            have : j ∈ Region.ready .any ops listed := by
              rw [mem_ready]
              refine ⟨?_, ops[j], hop, fun e he hb => ih e.on (by have := hb2 e he hb; omega) (by have := hb2 e he hb; omega)⟩
              have hjs : j < listed.size := by omega
              simp [hjs] at hl ⊢
              exact hl
            rw [hr] at this
            cases this
          · rfl
      have e := relAct_congr (ops := ops) (a0 := a0) (L := fun j => listed.getD j false) (L' := fun _ => true) (vals := vals) (vals' := vals) ops.size (fun j hj => ⟨all (j + 1) j (by omega) hj, fun _ => rfl⟩)
      rw [e]
      have eL : (fun j => listed.getD j false) = fun j => decide (j < ops.size) := by
        funext j
        by_cases hj : j < ops.size
        · rw [all (j + 1) j (by omega) hj, decide_eq_true hj]
        · rw [decide_eq_false hj]
          simp [Array.getElem?_eq_none (show listed.size ≤ j by omega)]
      rw [eL] at hJW
      exact hend vals W hJW
    induction fuel with
    | zero =>
      intro listed vals W hs hcount hdown hJW
      have hr : Region.ready .any ops listed = [] := by
        rw [List.eq_nil_iff_forall_not_mem]
        intro j hj
        have h0 := (mem_ready.1 hj).1
        obtain ⟨_, o, ho, _⟩ := mem_ready.1 hj
        have hjs : j < listed.size := by have := (Array.getElem?_eq_some_iff.1 ho).1; omega
        have hmem : false ∈ listed.toList := by
          have : listed[j] = false := by simpa [hjs] using h0
          rw [← this]
          simp
        have := List.count_pos_iff.2 hmem
        omega
      exact ⟨hr, fin listed vals W hs hr hJW⟩
    | succ fuel ih =>
      intro listed vals W hs hcount hdown hJW
      refine ⟨fun hr => fin listed vals W hs hr hJW, fun i hi => ?_⟩
      obtain ⟨h0, o, ho, hall⟩ := mem_ready.1 hi
      have hlt : i < ops.size := (Array.getElem?_eq_some_iff.1 ho).1
      have hli : listed.getD i false = false := by simpa [show i < listed.size by omega] using h0
      have hli? : listed[i]? = some false := by
        rw [Array.getElem?_eq_getElem (show i < listed.size by omega)]
        simpa [show i < listed.size by omega] using hli
      obtain ⟨hsel, hb2, hb3⟩ := relB2_spec hB ho
      have hdi : dstAt ops i = o.dst := by unfold dstAt; rw [ho]; rfl
      have hst := step i o ho (fun j => listed.getD j false) vals W hJW hli (fun e he hb => hall e he hb)
      have hst2 : opYield P ops o (relAct ops a0 (fun j => listed.getD j false) vals ops.size) W (fun v W' => J (fun k => if k = i then true else listed.getD k false) (fun k => if k = i then v else vals k) W') := by
        refine opYield_congr hsel ?_ hst
        intro t ht
        by_cases hex : ∃ k, dstAt ops k = some t
        · obtain ⟨k, hk⟩ := hex
          rcases (hb3 k t hk).2 ht with ⟨hki, e, he, heq, hbe⟩ | hkw
          rotate_left
          · obtain ⟨ok, hok, e, he, heq, hbe⟩ := waitsB_elim hkw
            have hik : i < k := by have := (relB2_spec hB hok).2.1 e he hbe; omega
            have hlk : listed.getD k false = false := by
              cases hlk : listed.getD k false
              · rfl
              · have := hdown k ok hok hlk e he hbe
                rw [heq, hli] at this
                cases this
            have hu : ∀ j, dstAt ops j = some t → j = k := by
              intro j hj
              have hjl : j < ops.size := by
                rcases Nat.lt_or_ge j ops.size with g | g
                · exact g
                · unfold dstAt at hj; rw [Array.getElem?_eq_none g] at hj; cases hj
              rcases Nat.lt_trichotomy j k with g | g | g
              · exfalso
                have := ((relB2_spec hB hok).2.2 j t hj).1 (by omega)
                apply this
                unfold dstAt at hk; rw [hok] at hk; exact hk
              · exact g
              · exfalso
                have hjop : ops[j]? = some ops[j] := Array.getElem?_eq_getElem hjl
                have := ((relB2_spec hB hjop).2.2 k t hk).1 (by omega)
                apply this
                unfold dstAt at hj; rw [hjop] at hj; exact hj
            rw [relAct_free i (fun j hj _ h => by have := hu j h; omega), relAct_free ops.size (fun j _ hl h => by
              have := hu j h
              rw [this, hlk] at hl
              cases hl)]
          have hkl : listed.getD k false = true := by rw [← heq]; exact hall e he hbe
          have hu : ∀ j, dstAt ops j = some t → j = k := by
            intro j hj
            rcases Nat.lt_trichotomy j k with g | g | g
            · exfalso
              have hkop : ops[k]? = some ops[k] := Array.getElem?_eq_getElem (by omega)
              have := ((relB2_spec hB hkop).2.2 j t hj).1 (by omega)
              apply this
              unfold dstAt at hk; rw [hkop] at hk; exact hk
            · exact g
            · exfalso
              have hjl : j < ops.size := by
                rcases Nat.lt_or_ge j ops.size with g | g
                · exact g
                · unfold dstAt at hj; rw [Array.getElem?_eq_none g] at hj; cases hj
              have hjop : ops[j]? = some ops[j] := Array.getElem?_eq_getElem hjl
              have := ((relB2_spec hB hjop).2.2 k t hk).1 (by omega)
              apply this
              unfold dstAt at hj; rw [hjop] at hj; exact hj
          rw [relAct_at hk hu i hki rfl, relAct_at hk hu ops.size (by omega) hkl]
        · have hno : ∀ j, dstAt ops j ≠ some t := fun j hj => hex ⟨j, hj⟩
          rw [relAct_free i (fun j _ _ => hno j), relAct_free ops.size (fun j _ _ => hno j)]
      refine wpOp_of_yield ho hst2 fun v W' hJ' => ?_
      rw [← hdi, put_relAct hli (fun j d hne hj => by
        intro hid
        rw [hdi] at hid
        exact (hb3 j d hj).1 hne hid) ops.size hlt]
      have hget : ∀ j, (listed.setIfInBounds i true).getD j false = if j = i then true else listed.getD j false := by
        intro j
        by_cases e : j = i
        · subst e
          rw [if_pos rfl]
          simp [show j < listed.size by omega]
        · rw [if_neg e]
          have hne : i ≠ j := fun h => e h.symm
          simp only [Array.getD_eq_getD_getElem?, Array.getElem?_setIfInBounds_ne hne]
      have hcg := relAct_congr (ops := ops) (a0 := a0) (L := fun j => if j = i then true else listed.getD j false) (L' := fun j => (listed.setIfInBounds i true).getD j false) (vals := fun j => if j = i then v else vals j) (vals' := fun j => if j = i then v else vals j) ops.size (fun j _ => ⟨(hget j).symm, fun _ => rfl⟩)
      rw [hcg]
      refine ih _ _ W' (by simpa using hs) ?_ ?_ ?_
      · have := count_set listed i hli?
        omega
      · intro j oj hj hlj e he hb
        rw [hget]
        by_cases ee : e.on = i
        · rw [if_pos ee]
        · rw [if_neg ee]
          rw [hget] at hlj
          by_cases ej : j = i
          · subst ej
            rw [ho] at hj
            cases hj
            exact hall e he hb
          · rw [if_neg ej] at hlj
            exact hdown j oj hj hlj e he hb
      · have eL : (fun j => (listed.setIfInBounds i true).getD j false) = fun k => if k = i then true else listed.getD k false := funext hget
        rw [eL]
        exact hJ'
  refine wp_region_any hm ?_
  have eN : (fun j => (Array.replicate ops.size false).getD j false) = fun _ => false := funext fun j => none_listed _ _
  have h := main ops.size (Array.replicate ops.size false) (fun _ => undef) { w0 with drawn := w0.drawn + 1 } (by simp) (by simp) (fun j o _ hl => by rw [none_listed] at hl; cases hl) (by rw [eN]; exact hJ0)
  have e : relAct ops a0 (fun j => (Array.replicate ops.size false).getD j false) (fun _ => undef) ops.size = a0 := by
    have : ∀ n, relAct ops a0 (fun j => (Array.replicate ops.size false).getD j false) (fun _ => undef) n = a0 := by
      intro n
      induction n with
      | zero => rfl
      | succ n ih =>
        unfold relAct
        rw [ih, if_neg (by rw [none_listed]; exact Bool.false_ne_true)]
    exact this _
  rw [e] at h
  exact h
end
end Go.Proofs.YthogembgndkmpaaGreatDoor

/- Two blocks of eight bytes, made and stored in one region whose order is drawn: what holds of the operations that lay them, whatever their order. -/
namespace Go.Proofs.YthogembgndkmpaaGreatDoor
open Go.RowKit
namespace Nm
namespace T8
def upd {α : Type} (f : Nat → α) (i : Nat) (v : α) : Nat → α := fun k => if k = i then v else f k
theorem upd_ne {α : Type} {f : Nat → α} {i k : Nat} {v : α} (h : k ≠ i) : upd f i v k = f k := if_neg h
theorem upd_eq {α : Type} {f : Nat → α} {i : Nat} {v : α} : upd f i v i = v := if_pos rfl
end T8
open T8
structure T8 where
  wS : World
  c : Nat → Value
  a : Array Value
  b : Array Value
def T8.at (T : T8) (p : Value) (cs : Array Value) (W : World) : Prop := ∃ g, p = .pointer (some ⟨g, 0, none⟩) ∧ T.wS.heap.size ≤ g ∧ W.heap[g]? = some (.cells cs 23 (0, 0))
def T8.gap (T : T8) (p : Value) (W : World) : Prop := ∃ cs, T.at p cs W ∧ cs.size = 8
theorem T8.at.ext {T : T8} {p : Value} {cs : Array Value} {W W' : World} (h : T.at p cs W) (hE : Ext W W') : T.at p cs W' := by
  obtain ⟨g, h1, h2, h3⟩ := h
  exact ⟨g, h1, h2, (Below.block hE g (lt_block h3)).trans h3⟩
theorem T8.gap.ext {T : T8} {p : Value} {W W' : World} (h : T.gap p W) (hE : Ext W W') : T.gap p W' := by
  obtain ⟨cs, h1, h2⟩ := h
  exact ⟨cs, h1.ext hE, h2⟩
theorem T8.at.other {T : T8} {p : Value} {g : Nat} {cs : Array Value} {W W' : World} (h : T.at p cs W) (hk : Kept (fun k => k = g) W W') (hne : p ≠ .pointer (some ⟨g, 0, none⟩)) : T.at p cs W' := by
  obtain ⟨g', h1, h2, h3⟩ := h
  exact ⟨g', h1, h2, (hk.block g' (lt_block h3) (fun e => hne (by rw [h1, e]))).trans h3⟩
theorem T8.gap.other {T : T8} {p : Value} {g : Nat} {W W' : World} (h : T.gap p W) (hk : Kept (fun k => k = g) W W') (hne : p ≠ .pointer (some ⟨g, 0, none⟩)) : T.gap p W' := by
  obtain ⟨cs, h1, h2⟩ := h
  exact ⟨cs, h1.other hk hne, h2⟩
structure T8.J (T : T8) (L : Nat → Bool) (vals : Nat → Value) (W : World) : Prop where
  C : Below T.wS.heap.size T.wS W
  f : ∀ j, j < 15 → L j = true → vals j = T.c j
  f15 : L 15 = true → T.gap (vals 15) W
  f16 : L 16 = true → T.gap (vals 16) W
  f17 : L 17 = true → T.at (vals 15) T.a W
  f18 : L 18 = true → T.at (vals 16) T.b W
  ne : L 15 = true → L 16 = true → vals 15 ≠ vals 16
  w17 : L 17 = true → L 15 = true
  w18 : L 18 = true → L 16 = true
section
variable {T : T8} {L : Nat → Bool} {vals : Nat → Value} {W W' : World} {i : Nat} {v : Value}
theorem T8.ne_upd {k : Nat} {f : Nat → Bool} (hk : k ≠ i) (h : upd f i true k = true) : f k = true := (upd_ne hk).symm.trans h
/-- an operation that makes new memory alone -/
theorem T8.J.put (h : T.J L vals W) (hE : Ext W W') (hi : i < 15) (hn : v = T.c i) : T.J (upd L i true) (upd vals i v) W' := by
  have n15 : 15 ≠ i := by omega
  have n16 : 16 ≠ i := by omega
  have n17 : 17 ≠ i := by omega
  have n18 : 18 ≠ i := by omega
  refine ⟨h.C.trans (Below.mono hE h.C.size), fun j hj hL => ?_, fun hL => ?_, fun hL => ?_, fun hL => ?_, fun hL => ?_, fun h1 h2 => ?_, fun h1 => ?_, fun h1 => ?_⟩
  · by_cases hji : j = i
    · subst hji; rw [upd_eq]; exact hn
    · rw [upd_ne hji]; exact h.f j hj (ne_upd hji hL)
  · rw [upd_ne n15]; exact (h.f15 (ne_upd n15 hL)).ext hE
  · rw [upd_ne n16]; exact (h.f16 (ne_upd n16 hL)).ext hE
  · rw [upd_ne n15]; exact (h.f17 (ne_upd n17 hL)).ext hE
  · rw [upd_ne n16]; exact (h.f18 (ne_upd n18 hL)).ext hE
  · rw [upd_ne n15, upd_ne n16]; exact h.ne (ne_upd n15 h1) (ne_upd n16 h2)
  · rw [upd_ne n15]; exact h.w17 (ne_upd n17 h1)
  · rw [upd_ne n16]; exact h.w18 (ne_upd n18 h1)
theorem T8.new_ne {p : Value} {cs : Array Value} (h : T.at p cs W) : p ≠ .pointer (some ⟨W.heap.size, 0, none⟩) := by
  obtain ⟨g, h1, h2, h3⟩ := h
  rw [h1]
  intro e
  injection e with e
  injection e with e
  injection e with e
  have := lt_block h3
  omega
theorem T8.J.alloc15 (h : T.J L vals W) (hL : L 15 = false) (cs : Array Value) (hcs : cs.size = 8) : T.J (upd L 15 true) (upd vals 15 (.pointer (some ⟨W.heap.size, 0, none⟩))) (W.alloc (.cells cs 23)) := by
  have hE : Ext W (W.alloc (.cells cs 23)) := (Below.refl _ _).alloc (Nat.le_refl _) _
  have hnew := heap_alloc_new W (.cells cs 23)
  have hs := h.C.size
  have h17n : L 17 = false := by
    cases hh : L 17
    · rfl
    · have := h.w17 hh; rw [hL] at this; cases this
  refine ⟨h.C.trans (Below.mono hE h.C.size), fun j hj hL => ?_, fun hL => ?_, fun hL => ?_, fun hL => ?_, fun hL => ?_, fun h1 h2 => ?_, fun h1 => ?_, fun h1 => ?_⟩
  · rw [upd_ne (by omega)]; exact h.f j hj (ne_upd (by omega) hL)
  · rw [upd_eq]; exact ⟨cs, ⟨_, rfl, hs, hnew⟩, hcs⟩
  · rw [upd_ne (by decide)]; exact (h.f16 (ne_upd (by decide) hL)).ext hE
  · have := ne_upd (by decide) hL
    rw [h17n] at this; cases this
  · rw [upd_ne (by decide)]; exact (h.f18 (ne_upd (by decide) hL)).ext hE
  · rw [upd_eq, upd_ne (by decide)]
    obtain ⟨cs', h5, _⟩ := h.f16 (ne_upd (by decide) h2)
    exact (new_ne h5).symm
  · exact upd_eq
  · rw [upd_ne (by decide)]; exact h.w18 (ne_upd (by decide) h1)
theorem T8.J.alloc16 (h : T.J L vals W) (hL : L 16 = false) (cs : Array Value) (hcs : cs.size = 8) : T.J (upd L 16 true) (upd vals 16 (.pointer (some ⟨W.heap.size, 0, none⟩))) (W.alloc (.cells cs 23)) := by
  have hE : Ext W (W.alloc (.cells cs 23)) := (Below.refl _ _).alloc (Nat.le_refl _) _
  have hnew := heap_alloc_new W (.cells cs 23)
  have hs := h.C.size
  have h18n : L 18 = false := by
    cases hh : L 18
    · rfl
    · have := h.w18 hh; rw [hL] at this; cases this
  refine ⟨h.C.trans (Below.mono hE h.C.size), fun j hj hL => ?_, fun hL => ?_, fun hL => ?_, fun hL => ?_, fun hL => ?_, fun h1 h2 => ?_, fun h1 => ?_, fun h1 => ?_⟩
  · rw [upd_ne (by omega)]; exact h.f j hj (ne_upd (by omega) hL)
  · rw [upd_ne (by decide)]; exact (h.f15 (ne_upd (by decide) hL)).ext hE
  · rw [upd_eq]; exact ⟨cs, ⟨_, rfl, hs, hnew⟩, hcs⟩
  · rw [upd_ne (by decide)]; exact (h.f17 (ne_upd (by decide) hL)).ext hE
  · have := ne_upd (by decide) hL
    rw [h18n] at this; cases this
  · rw [upd_eq, upd_ne (by decide)]
    obtain ⟨cs', h5, _⟩ := h.f15 (ne_upd (by decide) h1)
    exact new_ne h5
  · rw [upd_ne (by decide)]; exact h.w17 (ne_upd (by decide) h1)
  · exact upd_eq
theorem T8.J.store17 (h : T.J L vals W) (hL : L 15 = true) (hd : L 17 = false) (ha : T.a.size = 8) {g : Nat} (hg : vals 15 = .pointer (some ⟨g, 0, none⟩)) (hgs : T.wS.heap.size ≤ g) (hk : Kept (fun k => k = g) W W') (hn : W'.heap[g]? = some (.cells T.a 23 (0, 0))) : T.J (upd L 17 true) (upd vals 17 v) W' := by
  refine ⟨h.C.trans (hk.below h.C.size (fun k hk2 e => by omega)), fun j hj hL => ?_, fun hL => ?_, fun h16 => ?_, fun hL => ?_, fun h18 => ?_, fun h1 h2 => ?_, fun h1 => ?_, fun h1 => ?_⟩
  · rw [upd_ne (by omega)]; exact h.f j hj (ne_upd (by omega) hL)
  · rw [upd_ne (by decide)]; exact ⟨T.a, ⟨g, hg, hgs, hn⟩, ha⟩
  · rw [upd_ne (by decide)]
    have h16 := ne_upd (by decide) h16
    exact (h.f16 h16).other hk (fun e => h.ne hL h16 (hg.trans e.symm))
  · rw [upd_ne (by decide)]; exact ⟨g, hg, hgs, hn⟩
  · rw [upd_ne (by decide)]
    have h18 := ne_upd (by decide) h18
    exact (h.f18 h18).other hk (fun e => h.ne hL (h.w18 h18) (hg.trans e.symm))
  · rw [upd_ne (by decide), upd_ne (by decide)]; exact h.ne (ne_upd (by decide) h1) (ne_upd (by decide) h2)
  · rw [upd_ne (by decide)]; exact hL
  · rw [upd_ne (by decide)]; exact h.w18 (ne_upd (by decide) h1)
theorem T8.J.store18 (h : T.J L vals W) (hL : L 16 = true) (hb : T.b.size = 8) {g : Nat} (hg : vals 16 = .pointer (some ⟨g, 0, none⟩)) (hgs : T.wS.heap.size ≤ g) (hk : Kept (fun k => k = g) W W') (hn : W'.heap[g]? = some (.cells T.b 23 (0, 0))) : T.J (upd L 18 true) (upd vals 18 v) W' := by
  refine ⟨h.C.trans (hk.below h.C.size (fun k hk2 e => by omega)), fun j hj hL => ?_, fun h15 => ?_, fun h16 => ?_, fun h17 => ?_, fun h18 => ?_, fun h1 h2 => ?_, fun h1 => ?_, fun h1 => ?_⟩
  · rw [upd_ne (by omega)]; exact h.f j hj (ne_upd (by omega) hL)
  · rw [upd_ne (by decide)]
    have h15 := ne_upd (by decide) h15
    exact (h.f15 h15).other hk (fun e => h.ne h15 hL (e.trans hg.symm))
  · rw [upd_ne (by decide)]; exact ⟨T.b, ⟨g, hg, hgs, hn⟩, hb⟩
  · rw [upd_ne (by decide)]
    have h17 := ne_upd (by decide) h17
    exact (h.f17 h17).other hk (fun e => h.ne (h.w17 h17) hL (e.trans hg.symm))
  · rw [upd_ne (by decide)]; exact ⟨g, hg, hgs, hn⟩
  · rw [upd_ne (by decide), upd_ne (by decide)]; exact h.ne (ne_upd (by decide) h1) (ne_upd (by decide) h2)
  · rw [upd_ne (by decide)]; exact h.w17 (ne_upd (by decide) h1)
  · rw [upd_ne (by decide)]; exact hL
end
end Nm
end Go.Proofs.YthogembgndkmpaaGreatDoor

/- The plain law of CanonHolds: a signature that is made of a seed's tree is verified just in its time. -/
namespace Go.Proofs.YthogembgndkmpaaGreatDoor
open Go.RowKit
namespace Nm
/-- a fresh signature, as the signature it is -/
def sgM (on : List Lab) (tt tl now valid tg : Nat) : SigM := ⟨tt, 253, labels on, tl, min (now + valid) 4294967295, now, tg, [exL], []⟩
theorem sib_xor {l : Nat} (h : l < 4) : W.sib l = l ^^^ 1 := by
  have : l = 0 ∨ l = 1 ∨ l = 2 ∨ l = 3 := by omega
  rcases this with rfl | rfl | rfl | rfl <;> rfl
theorem word_be4 {l : Nat} (h : l < 4) (r : List UInt8) : (W.word (be4 l ++ r) 0).toNat = l := by
  have e : W.word (be4 l ++ r) 0 = W.word (be4 l) 0 := rfl
  rw [e]
  have : l = 0 ∨ l = 1 ∨ l = 2 ∨ l = 3 := by omega
  rcases this with rfl | rfl | rfl | rfl <;> decide
theorem verB_true (on : List Lab) (tt tl now valid tg att : Nat) (ys : List Lab) (seed root SG na nb MG : List UInt8) (l4 : Nat) (h4 : l4 < 4) (hroot : W.node W.ks0 seed 2 0 = root) (htg : W.tagN (keyL 256 3 253 root) = tg)
    (hSG : W.sgn W.ks0 seed l4 (W.dig W.ks0 MG) 32 = SG) (hMG : msgL on tt ys (sgM on tt tl now valid tg) = MG) (hna : W.node W.ks0 seed 0 (l4 ^^^ 1) = na) (hnb : W.node W.ks0 seed 1 (l4 / 2 ^^^ 1) = nb) (hw : within on [exL] = true) :
    verB on tt { sgM on tt tl now valid tg with s := be4 l4 ++ SG ++ na ++ nb } 256 3 253 root [exL] att ys = (decide (now ≤ att) && decide (att ≤ min (now + valid) 4294967295)) := by
  have e1 : msgL on tt ys { sgM on tt tl now valid tg with s := be4 l4 ++ SG ++ na ++ nb } = MG := hMG
  have hv : W.verT W.ks0 root 2 MG (be4 l4 ++ SG ++ na ++ nb) = true := by
    rw [← hroot]
    refine W.ver_true W.ks0 seed 2 l4 (by show l4 / 4 = 0; omega) (by omega) MG _ ?_ ?_
    · rw [hSG]
      show _ = be4 l4 ++ (SG ++ (W.node W.ks0 seed 0 (W.sib l4) ++ (W.node W.ks0 seed 1 (W.sib (l4 / 2)) ++ [])))
      rw [sib_xor h4, sib_xor (by omega), hna, hnb]
      simp [List.append_assoc]
    · rw [List.append_assoc, List.append_assoc]
      exact word_be4 h4 _
  have hs : same [exL] [exL] = true := (same_iff _ _).2 rfl
  unfold verB
  rw [e1]
  show (((((((((((((tt : Int) == (tt : Int)) && (((253 : Nat) : Int) == 253)) && (((253 : Nat) : Int) == 253)) && (((3 : Nat) : Int) == 3)) && !(bits .and .u16 ((256 : Nat) : Int) 256 == 0)) && ((tg : Int) == (W.tagN (keyL 256 3 253 root) : Int))) && same [exL] [exL]) && within on [exL]) && decide ((labels on : Int) ≤ (labels on : Int))) && decide ((now : Int) ≤ (att : Int))) && decide ((att : Int) ≤ ((min (now + valid) 4294967295 : Nat) : Int))) && W.verT W.ks0 root 2 MG (be4 l4 ++ SG ++ na ++ nb)) = _
  rw [hs, hw, hv, htg, Bool.and_true]
  have h1 : (bits .and .u16 ((256 : Nat) : Int) 256 == 0) = false := by decide
  rw [h1]
  have d1 : decide ((now : Int) ≤ (att : Int)) = decide (now ≤ att) := decide_eq_decide.2 (by omega)
  have d2 : decide ((att : Int) ≤ ((min (now + valid) 4294967295 : Nat) : Int)) = decide (att ≤ min (now + valid) 4294967295) := decide_eq_decide.2 (by omega)
  rw [d1, d2]
  simp
end Nm
end Go.Proofs.YthogembgndkmpaaGreatDoor

/- What the two verifications of CanonHolds are handed: where it lies, and that a store into one of its structs leaves the rest as it is. -/
namespace Go.Proofs.YthogembgndkmpaaGreatDoor
open Go.RowKit
namespace Nm
/-- a slice's cells, in a block of that type -/
def TCs (e : TypeId) (w : World) (A : Option Addr) (xs : List Value) : Prop := Cs w A xs ∧ ∀ a, A = some a → xs ≠ [] → ∃ cs fr, w.heap[a.block]? = some (.cells cs e fr)
section
variable {e T : TypeId} {w w' : World} {A : Option Addr} {xs : List Value}
theorem TCs.kept {b : Nat} {cs : Array Value} {fr : Nat × Nat} (hne : e ≠ T) (hb : w.heap[b]? = some (.cells cs T fr)) (hk : Kept (fun k => k = b) w w') (h : TCs e w A xs) : TCs e w' A xs := by
  have hn : ∀ a, A = some a → xs ≠ [] → ¬ a.block = b := fun a h1 h2 e1 => by
    obtain ⟨cs', fr', h3⟩ := h.2 a h1 h2
    rw [e1, hb] at h3
    cases h3
    exact hne rfl
  refine ⟨Kept.cs h.1 hk hn, fun a h1 h2 => ?_⟩
  obtain ⟨cs', fr', h3⟩ := h.2 a h1 h2
  exact ⟨cs', fr', (hk.block a.block (lt_block h3) (hn a h1 h2)).trans h3⟩
theorem TCs.below (h : TCs e w A xs) (hb : Below w.heap.size w w') : TCs e w' A xs :=
  ⟨h.1.below hb, fun a h1 h2 => by
    obtain ⟨cs', fr', h3⟩ := h.2 a h1 h2
    exact ⟨cs', fr', (hb.block a.block (lt_block h3)).trans h3⟩⟩
theorem TCs.of_own {B n : Nat} {c : Nat} (h : w.ownsRow B e 1 (.slice A n c) n xs) : TCs e w A xs := by
  obtain ⟨_, _, e1, _, hc⟩ := Cs.of_own h
  cases e1
  refine ⟨hc, fun a h1 h2 => ?_⟩
  subst h1
  rcases h.2 with ⟨h3, _⟩ | ⟨g, cap, cur, h3, _, h4, _⟩
  · cases h3
  · cases h3
    exact ⟨_, _, h4⟩
theorem TCs.blk {g : Nat} {cs : Array Value} {fr : Nat × Nat} {o : Nat} (h : w.heap[g]? = some (.cells cs e fr)) (hc : Cs w (some ⟨g, o, none⟩) xs) : TCs e w (some ⟨g, o, none⟩) xs :=
  ⟨hc, fun a h1 _ => by cases h1; exact ⟨_, _, h⟩⟩
end
theorem TCs.tail {e : TypeId} {w : World} {b o : Nat} {x : Value} {xs : List Value} (h : TCs e w (some ⟨b, o, none⟩) (x :: xs)) : TCs e w (some ⟨b, o + 1, none⟩) xs := by
  refine ⟨fun i u hu => ?_, fun a h1 h2 => ?_⟩
  · obtain ⟨b', o', e', hl, hc⟩ := h.1 (i + 1) u (by simpa using hu)
    cases e'
    exact ⟨b, o + 1, rfl, hl, by rw [← hc]; congr 2; omega⟩
  · cases h1
    exact h.2 ⟨b, o, none⟩ rfl (by simp)
structure HArgs where
  A : Option Addr
  D : Option Addr
  n : List Lab
  cap : Nat
  dcap : Nat
  tl : Nat
  ds : List Blob
  gm : SigM
  SA : Option Addr
  SS : Option Addr
  sc : Nat
  ssc : Nat
  fl : Nat
  pr : Nat
  al : Nat
  key : Lab
  KA : Option Addr
  kc : Nat
  O : Option Addr
  o : List Lab
  oc : Nat
namespace HArgs
def set (a : HArgs) (tt : Nat) : Array Value := #[.slice a.A a.n.length a.cap, .int .u16 (tt : Int), .int .u32 (a.tl : Int), .slice a.D a.ds.length a.dcap]
def sig (a : HArgs) : Array Value := #[.int .u16 a.gm.t, .int .u8 a.gm.al, .int .u8 a.gm.lb, .int .u32 a.gm.ttl, .int .u32 a.gm.ex, .int .u32 a.gm.bg, .int .u16 a.gm.tg, .slice a.SA a.gm.n.length a.sc, .slice a.SS a.gm.s.length a.ssc]
def keyR (a : HArgs) : Array Value := #[.int .u16 (a.fl : Int), .int .u8 (a.pr : Int), .int .u8 (a.al : Int), .slice a.KA a.key.length a.kc]
/-- what must hold of them, wherever they lie -/
structure ok (a : HArgs) (tt : Nat) : Prop where
  ht : goodT tt
  ln : lightN a.n = true
  c1 : a.n.length ≤ a.cap
  c2 : a.cap ≤ maxLen
  dl : a.ds.length ≤ 20
  dc : ∀ d ∈ a.ds, d.l.length ≤ 100 ∧ d.l.length ≤ d.cap ∧ d.cap ≤ maxLen
  hg : a.gm.fits
  lg : lightN a.gm.n = true
  hsl : a.gm.s.length = 532
  hssc : 532 ≤ a.ssc
  hfl : a.fl < 65536
  hpr : a.pr < 256
  hal : a.al < 256
  hkl : a.key.length = 8
  hkc : 8 ≤ a.kc
  ho : Small a.o
/-- where they lie -/
structure lie (a : HArgs) (w : World) : Prop where
  hA : TCs 9 w a.A (a.n.map strV)
  hD : TCs 28 w a.D (a.ds.map Blob.v)
  hds : ∀ d ∈ a.ds, TCs 5 w d.A (d.l.map byteV)
  hSA : TCs 9 w a.SA (a.gm.n.map strV)
  hSS : TCs 5 w a.SS (a.gm.s.map byteV)
  hK : TCs 23 w a.KA (a.key.map byteV)
  hO : TCs 9 w a.O (a.o.map strV)
theorem lie.below {a : HArgs} {w w' : World} (h : a.lie w) (hb : Below w.heap.size w w') : a.lie w' :=
  ⟨h.hA.below hb, h.hD.below hb, fun d hd => (h.hds d hd).below hb, h.hSA.below hb, h.hSS.below hb, h.hK.below hb, h.hO.below hb⟩
theorem lie.kept {a : HArgs} {w w' : World} {T : TypeId} {b : Nat} {cs : Array Value} {fr : Nat × Nat} (h : a.lie w) (h1 : 9 ≠ T) (h2 : 28 ≠ T) (h3 : 5 ≠ T) (h4 : 23 ≠ T) (hb : w.heap[b]? = some (.cells cs T fr)) (hk : Kept (fun k => k = b) w w') : a.lie w' :=
  ⟨h.hA.kept h1 hb hk, h.hD.kept h2 hb hk, fun d hd => (h.hds d hd).kept h3 hb hk, h.hSA.kept h1 hb hk, h.hSS.kept h3 hb hk, h.hK.kept h4 hb hk, h.hO.kept h1 hb hk⟩
theorem ok.cx {a : HArgs} {tt : Nat} (h : a.ok tt) : ∀ d ∈ a.ds, (canX tt d.l).length ≤ 20000 := fun d hd => by
  have h1 := canX_len tt d.l
  have h2 := h.dc d hd
  omega
theorem ok.cp {a : HArgs} {tt : Nat} (h : a.ok tt) : ∀ d ∈ a.ds, d.l.length ≤ 100000 ∧ d.l.length ≤ d.cap ∧ d.cap ≤ maxLen := fun d hd => by
  have h2 := h.dc d hd
  omega
theorem can (a : HArgs) (tt att : Nat) (w : World) (h : a.ok tt) (k : a.lie w) (ha : att < 4294967296) (hk : W.ArrU w 1 100 W.ks0) (ys : List Lab) (hys : StrictOf (a.ds.map fun d => canX tt d.l) ys) :
    Calls Tryz.prog 15 #[.agg (a.set tt), .agg a.sig, .agg a.keyR, .slice a.O a.o.length a.oc, .int .i64 2, .int .u32 (att : Int)] w fun e w' => e = .returned (.bool (verB a.n tt a.gm a.fl a.pr a.al a.key a.o att ys)) ∧ Below w.heap.size w w' :=
  (CVerify a.A a.D a.n a.cap a.dcap tt (a.tl : Int) a.ds a.gm a.SA a.SS a.sc a.ssc a.fl a.pr a.al a.key a.KA a.kc a.O a.o a.oc att w h.ht k.hA.1 (lightN_small h.ln) h.c1 h.c2 k.hD.1 (fun d hd => (k.hds d hd).1) h.dl h.cp h.cx h.hg k.hSA.1 (low_bytes_len _ h.lg) (ownN_len _ _ h.ln) k.hSS.1 h.hsl h.hssc h.hfl h.hpr h.hal k.hK.1 h.hkl h.hkc k.hO.1 h.ho ha hk).mono fun e w' h => h ys hys
theorem ref (a : HArgs) (tt att : Nat) (w : World) (h : a.ok tt) (k : a.lie w) (ha : att < 4294967296) (ys : List Lab) (hys : StrictOf (a.ds.map fun d => canX tt d.l) ys) :
    Calls Tryz.prog 16 #[.agg (a.set tt), .agg a.sig, .agg a.keyR, .slice a.O a.o.length a.oc, .int .i64 2, .int .u32 (att : Int)] w fun e w' => e = .returned (.bool (verB a.n tt a.gm a.fl a.pr a.al a.key a.o att ys)) ∧ Below w.heap.size w w' :=
  (RfVerify a.A a.D a.n a.cap a.dcap tt (a.tl : Int) a.ds a.gm a.SA a.SS a.sc a.ssc a.fl a.pr a.al a.key a.KA a.kc a.O a.o a.oc att w h.ht k.hA.1 (lightN_small h.ln) h.c1 h.c2 k.hD.1 (fun d hd => (k.hds d hd).1) h.dl h.cp h.cx h.hg k.hSA.1 (low_bytes_len _ h.lg) (ownN_len _ _ h.ln) k.hSS.1 h.hsl h.hssc h.hfl h.hpr h.hal k.hK.1 h.hkl h.hkc k.hO.1 h.ho ha).mono fun e w' h => h ys hys
/-- ahead of the two verifications: what lies where; and, where nothing was turned, that the signature holds just in its time -/
structure stand (a : HArgs) (tt now att which gS g gK : Nat) (w wx : World) : Prop where
  bS : wx.heap[gS]? = some (.cells (a.set tt) 34 (0, 0))
  bG : wx.heap[g]? = some (.cells a.sig 41 (0, 0))
  bK : wx.heap[gK]? = some (.cells a.keyR 39 (0, 0))
  ok : a.ok tt
  li : a.lie wx
  be : Below w.heap.size w wx
  q : which % 16 = 0 → ∀ ys, StrictOf (a.ds.map fun d => canX tt d.l) ys → verB a.n tt a.gm a.fl a.pr a.al a.key a.o att ys = (decide (now ≤ att) && decide (att ≤ a.gm.ex))
  lo : w.heap.size ≤ gS ∧ w.heap.size ≤ g ∧ w.heap.size ≤ gK
  ne : gS ≠ g ∧ gS ≠ gK ∧ g ≠ gK
section
variable {a a' : HArgs} {tt now att which gS g gK i : Nat} {w wx : World} {v : Value}
theorem one_cell (wx : World) (b i : Nat) (v : Value) : Kept (fun k => k = b) wx (wx.setCell ⟨b, i, none⟩ v) := (Kept.refl (fun k => k = b) wx).setCell (p := ⟨b, i, none⟩) (fun _ => rfl) v
theorem stand.putS (h : a.stand tt now att which gS g gK w wx) (e1 : (a.set tt).setIfInBounds i v = a'.set tt) (e2 : a'.sig = a.sig) (e3 : a'.keyR = a.keyR) (ok' : a'.ok tt) (li' : a'.lie wx) (hw : ¬ which % 16 = 0) : a'.stand tt now att which gS g gK w (wx.setCell ⟨gS, i, none⟩ v) := by
  have hk := one_cell wx gS i v
  obtain ⟨n1, n2, n3⟩ := h.ne
  refine ⟨?_, ?_, ?_, ok', li'.kept (by decide) (by decide) (by decide) (by decide) h.bS hk, h.be.trans (hk.below h.be.size (fun k hk2 h2 => by have := h.lo.1; omega)), fun h0 => absurd h0 hw, h.lo, h.ne⟩
  · rw [← e1]; exact heap_setB h.bS
  · rw [e2]; exact (hk.block _ (lt_block h.bG) (Ne.symm n1)).trans h.bG
  · rw [e3]; exact (hk.block _ (lt_block h.bK) (Ne.symm n2)).trans h.bK
theorem stand.putG (h : a.stand tt now att which gS g gK w wx) (e1 : a.sig.setIfInBounds i v = a'.sig) (e2 : a'.set tt = a.set tt) (e3 : a'.keyR = a.keyR) (ok' : a'.ok tt) (li' : a'.lie wx) (hw : ¬ which % 16 = 0) : a'.stand tt now att which gS g gK w (wx.setCell ⟨g, i, none⟩ v) := by
  have hk := one_cell wx g i v
  obtain ⟨n1, n2, n3⟩ := h.ne
  refine ⟨?_, ?_, ?_, ok', li'.kept (by decide) (by decide) (by decide) (by decide) h.bG hk, h.be.trans (hk.below h.be.size (fun k hk2 h2 => by have := h.lo.2.1; omega)), fun h0 => absurd h0 hw, h.lo, h.ne⟩
  · rw [e2]; exact (hk.block _ (lt_block h.bS) n1).trans h.bS
  · rw [← e1]; exact heap_setB h.bG
  · rw [e3]; exact (hk.block _ (lt_block h.bK) (Ne.symm n3)).trans h.bK
theorem stand.putK (h : a.stand tt now att which gS g gK w wx) (e1 : a.keyR.setIfInBounds i v = a'.keyR) (e2 : a'.set tt = a.set tt) (e3 : a'.sig = a.sig) (ok' : a'.ok tt) (li' : a'.lie wx) (hw : ¬ which % 16 = 0) : a'.stand tt now att which gS g gK w (wx.setCell ⟨gK, i, none⟩ v) := by
  have hk := one_cell wx gK i v
  obtain ⟨n1, n2, n3⟩ := h.ne
  refine ⟨?_, ?_, ?_, ok', li'.kept (by decide) (by decide) (by decide) (by decide) h.bK hk, h.be.trans (hk.below h.be.size (fun k hk2 h2 => by have := h.lo.2.2; omega)), fun h0 => absurd h0 hw, h.lo, h.ne⟩
  · rw [e2]; exact (hk.block _ (lt_block h.bS) n2).trans h.bS
  · rw [e3]; exact (hk.block _ (lt_block h.bG) n3).trans h.bG
  · rw [← e1]; exact heap_setB h.bK
/-- new memory, another owner -/
theorem stand.own (h : a.stand tt now att which gS g gK w wx) {w2 : World} (hb : Below wx.heap.size wx w2) (e1 : a'.set tt = a.set tt) (e2 : a'.sig = a.sig) (e3 : a'.keyR = a.keyR) (ok' : a'.ok tt) (li' : a'.lie w2) (hw : ¬ which % 16 = 0) : a'.stand tt now att which gS g gK w w2 :=
  ⟨by rw [e1]; exact (hb.block _ (lt_block h.bS)).trans h.bS, by rw [e2]; exact (hb.block _ (lt_block h.bG)).trans h.bG, by rw [e3]; exact (hb.block _ (lt_block h.bK)).trans h.bK, ok', li', h.be.trans (hb.mono h.be.size), fun h0 => absurd h0 hw, h.lo, h.ne⟩
theorem stand.ext (h : a.stand tt now att which gS g gK w wx) {w2 : World} (hb : Below wx.heap.size wx w2) : a.stand tt now att which gS g gK w w2 :=
  ⟨(hb.block _ (lt_block h.bS)).trans h.bS, (hb.block _ (lt_block h.bG)).trans h.bG, (hb.block _ (lt_block h.bK)).trans h.bK, h.ok, h.li.below hb, h.be.trans (hb.mono h.be.size), h.q, h.lo, h.ne⟩
/-- one byte of the signature turned -/
theorem stand.putB (h : a.stand tt now att which gS g gK w wx) {b j : Nat} {c : UInt8} {cs : Array Value} (hS : a.SS = some ⟨b, 0, none⟩) (hb : wx.heap[b]? = some (.cells cs 5 (0, 0))) (hlo : w.heap.size ≤ b) (hjs : j < cs.size)
    (hd : ∀ d ∈ a.ds, ∀ p, d.A = some p → d.l.map byteV ≠ [] → ¬ p.block = b) (hw : ¬ which % 16 = 0) : ({ a with gm := { a.gm with s := a.gm.s.set j c } } : HArgs).stand tt now att which gS g gK w (wx.setCell ⟨b, j, none⟩ (byteV c)) := by
  have hk := one_cell wx b j (byteV c)
  have n1 : gS ≠ b := fun e => by have := h.bS; rw [e, hb] at this; cases this
  have n2 : g ≠ b := fun e => by have := h.bG; rw [e, hb] at this; cases this
  have n3 : gK ≠ b := fun e => by have := h.bK; rw [e, hb] at this; cases this
  have hl : (a.gm.s.set j c).length = a.gm.s.length := List.length_set
  have hset : (wx.setCell ⟨b, j, none⟩ (byteV c)).heap[b]? = some (.cells (cs.setIfInBounds j (byteV c)) 5 (0, 0)) := heap_setB hb
  refine ⟨?_, ?_, ?_, ?_, ?_, h.be.trans (hk.below h.be.size (fun k hk2 h2 => by omega)), fun h0 => absurd h0 hw, h.lo, h.ne⟩
  · exact (hk.block _ (lt_block h.bS) n1).trans h.bS
  · have e : ({ a with gm := { a.gm with s := a.gm.s.set j c } } : HArgs).sig = a.sig := by
      unfold HArgs.sig
      show #[_, _, _, _, _, _, _, _, Value.slice a.SS (a.gm.s.set j c).length a.ssc] = _
      rw [hl]
    rw [e]
    exact (hk.block _ (lt_block h.bG) n2).trans h.bG
  · exact (hk.block _ (lt_block h.bK) n3).trans h.bK
  · obtain ⟨t1, t2, t3, t4, t5, t6, t7, t8, t9, t10, t11, t12, t13, t14, t15, t16⟩ := h.ok
    have f := t7
    exact ⟨t1, t2, t3, t4, t5, t6, ⟨f.t, f.al, f.lb, f.ttl, f.ex, f.bg, f.tg, f.n, by show (a.gm.s.set j c).length ≤ _; rw [hl]; exact f.s⟩, t8, by show (a.gm.s.set j c).length = 532; rw [hl]; exact t9, t10, t11, t12, t13, t14, t15, t16⟩
  · obtain ⟨l1, l2, l3, l4, l5, l6, l7⟩ := h.li
    refine ⟨l1.kept (by decide) hb hk, l2.kept (by decide) hb hk, fun d hd2 => ?_, l4.kept (by decide) hb hk, ?_, l6.kept (by decide) hb hk, l7.kept (by decide) hb hk⟩
    · obtain ⟨c1, c2⟩ := l3 d hd2
      refine ⟨Kept.cs c1 hk (fun p h1 h2 => hd d hd2 p h1 h2), fun p h1 h2 => ?_⟩
      obtain ⟨cs', fr', h3⟩ := c2 p h1 h2
      exact ⟨cs', fr', (hk.block p.block (lt_block h3) (hd d hd2 p h1 h2)).trans h3⟩
    · show TCs 5 _ a.SS ((a.gm.s.set j c).map byteV)
      rw [hS]
      refine TCs.blk hset ?_
      intro k u hu
      rw [List.map_set, List.getElem?_set] at hu
      refine ⟨b, 0, rfl, lt_block hset, ?_⟩
      rw [Nat.zero_add]
      by_cases hjk : j = k
      · subst hjk
        rw [if_pos rfl] at hu
        split at hu
        · cases hu
          rw [cell_of_row _ _ _ _ _ _ hset]
          simp [hjs]
        · cases hu
      · rw [if_neg hjk] at hu
        obtain ⟨b', o', e, _, hc⟩ := l5.1 k u hu
        rw [hS] at e
        cases e
        rw [Nat.zero_add] at hc
        rw [World.cell?_setCell_other (w := wx) (a := ⟨b, j, none⟩) (b := ⟨b, k, none⟩) (v := byteV c) (by intro e; cases e; exact hjk rfl)]
        exact hc
end
section
variable {a : HArgs} {tt now att which gS g gK : Nat} {w wx : World} {v : Value}
theorem stand.a1 (h : a.stand tt now att which gS g gK w wx) (lb : Nat) (hlb : lb < 256) (hv : v = .int .u8 (lb : Int)) (hw : ¬ which % 16 = 0) : ({ a with gm := { a.gm with lb := lb } } : HArgs).stand tt now att which gS g gK w (wx.setCell ⟨g, 2, none⟩ v) := by
  subst hv
  have o := h.ok
  have f := o.hg
  have l := h.li
  exact h.putG rfl rfl rfl ⟨o.ht, o.ln, o.c1, o.c2, o.dl, o.dc, ⟨f.t, f.al, hlb, f.ttl, f.ex, f.bg, f.tg, f.n, f.s⟩, o.lg, o.hsl, o.hssc, o.hfl, o.hpr, o.hal, o.hkl, o.hkc, o.ho⟩ ⟨l.hA, l.hD, l.hds, l.hSA, l.hSS, l.hK, l.hO⟩ hw
theorem stand.a2 (h : a.stand tt now att which gS g gK w wx) (n : Nat) (hn : n < 4294967296) (hv : v = .int .u32 (n : Int)) (hw : ¬ which % 16 = 0) : ({ a with gm := { a.gm with ttl := n } } : HArgs).stand tt now att which gS g gK w (wx.setCell ⟨g, 3, none⟩ v) := by
  subst hv
  have o := h.ok
  have f := o.hg
  have l := h.li
  exact h.putG rfl rfl rfl ⟨o.ht, o.ln, o.c1, o.c2, o.dl, o.dc, ⟨f.t, f.al, f.lb, hn, f.ex, f.bg, f.tg, f.n, f.s⟩, o.lg, o.hsl, o.hssc, o.hfl, o.hpr, o.hal, o.hkl, o.hkc, o.ho⟩ ⟨l.hA, l.hD, l.hds, l.hSA, l.hSS, l.hK, l.hO⟩ hw
theorem stand.a3 (h : a.stand tt now att which gS g gK w wx) (n : Nat) (hv : v = .int .u32 (n : Int)) (hw : ¬ which % 16 = 0) : ({ a with tl := n } : HArgs).stand tt now att which gS g gK w (wx.setCell ⟨gS, 2, none⟩ v) := by
  subst hv
  have o := h.ok
  have l := h.li
  exact h.putS rfl rfl rfl ⟨o.ht, o.ln, o.c1, o.c2, o.dl, o.dc, o.hg, o.lg, o.hsl, o.hssc, o.hfl, o.hpr, o.hal, o.hkl, o.hkc, o.ho⟩ ⟨l.hA, l.hD, l.hds, l.hSA, l.hSS, l.hK, l.hO⟩ hw
theorem stand.a4 (h : a.stand tt now att which gS g gK w wx) (n : Nat) (hn : n < 65536) (hv : v = .int .u16 (n : Int)) (hw : ¬ which % 16 = 0) : ({ a with fl := n } : HArgs).stand tt now att which gS g gK w (wx.setCell ⟨gK, 0, none⟩ v) := by
  subst hv
  have o := h.ok
  have l := h.li
  exact h.putK rfl rfl rfl ⟨o.ht, o.ln, o.c1, o.c2, o.dl, o.dc, o.hg, o.lg, o.hsl, o.hssc, hn, o.hpr, o.hal, o.hkl, o.hkc, o.ho⟩ ⟨l.hA, l.hD, l.hds, l.hSA, l.hSS, l.hK, l.hO⟩ hw
theorem stand.a5 (h : a.stand tt now att which gS g gK w wx) (n : Nat) (hn : n < 65536) (hv : v = .int .u16 (n : Int)) (hw : ¬ which % 16 = 0) : ({ a with gm := { a.gm with tg := n } } : HArgs).stand tt now att which gS g gK w (wx.setCell ⟨g, 6, none⟩ v) := by
  subst hv
  have o := h.ok
  have f := o.hg
  have l := h.li
  exact h.putG rfl rfl rfl ⟨o.ht, o.ln, o.c1, o.c2, o.dl, o.dc, ⟨f.t, f.al, f.lb, f.ttl, f.ex, f.bg, hn, f.n, f.s⟩, o.lg, o.hsl, o.hssc, o.hfl, o.hpr, o.hal, o.hkl, o.hkc, o.ho⟩ ⟨l.hA, l.hD, l.hds, l.hSA, l.hSS, l.hK, l.hO⟩ hw
theorem stand.a6 {dc : Nat} (h : a.stand tt now att which gS g gK w wx) {b : Nat} {d : Blob} {ds : List Blob} (hD : a.D = some ⟨b, 0, none⟩) (hds : a.ds = d :: ds) (hv : v = .slice (some ⟨b, 1, none⟩) ds.length dc) (hw : ¬ which % 16 = 0) : ({ a with D := some ⟨b, 1, none⟩, ds := ds, dcap := dc } : HArgs).stand tt now att which gS g gK w (wx.setCell ⟨gS, 3, none⟩ v) := by
  subst hv
  have o := h.ok
  have l := h.li
  have hm : ∀ y ∈ ds, y ∈ a.ds := fun y hy => by rw [hds]; exact List.mem_cons_of_mem _ hy
  have l2 := l.hD
  rw [hD, hds] at l2
  exact h.putS rfl rfl rfl ⟨o.ht, o.ln, o.c1, o.c2, by have := o.dl; rw [hds] at this; simp at this; show ds.length ≤ 20; omega, fun y hy => o.dc y (hm y hy), o.hg, o.lg, o.hsl, o.hssc, o.hfl, o.hpr, o.hal, o.hkl, o.hkc, o.ho⟩ ⟨l.hA, TCs.tail (xs := ds.map Blob.v) l2, fun y hy => l.hds y (hm y hy), l.hSA, l.hSS, l.hK, l.hO⟩ hw
theorem stand.a7 (h : a.stand tt now att which gS g gK w wx) {w2 : World} {O : Option Addr} {o' : List Lab} {oc : Nat} (hb : Below wx.heap.size wx w2) (hO : TCs 9 w2 O (o'.map strV)) (ho : Small o') (hw : ¬ which % 16 = 0) : ({ a with O := O, o := o', oc := oc } : HArgs).stand tt now att which gS g gK w w2 := by
  have o := h.ok
  have l := h.li.below hb
  exact h.own hb rfl rfl rfl ⟨o.ht, o.ln, o.c1, o.c2, o.dl, o.dc, o.hg, o.lg, o.hsl, o.hssc, o.hfl, o.hpr, o.hal, o.hkl, o.hkc, ho⟩ ⟨l.hA, l.hD, l.hds, l.hSA, l.hSS, l.hK, hO⟩ hw
theorem stand.a9 (h : a.stand tt now att which gS g gK w wx) {A : Option Addr} {n : List Lab} {c : Nat} (hA : TCs 9 wx A (n.map strV)) (hl : lightN n = true) (h1 : n.length ≤ c) (h2 : c ≤ maxLen) (hv : v = .slice A n.length c) (hw : ¬ which % 16 = 0) : ({ a with A := A, n := n, cap := c } : HArgs).stand tt now att which gS g gK w (wx.setCell ⟨gS, 0, none⟩ v) := by
  subst hv
  have o := h.ok
  have l := h.li
  exact h.putS rfl rfl rfl ⟨o.ht, hl, h1, h2, o.dl, o.dc, o.hg, o.lg, o.hsl, o.hssc, o.hfl, o.hpr, o.hal, o.hkl, o.hkc, o.ho⟩ ⟨hA, l.hD, l.hds, l.hSA, l.hSS, l.hK, l.hO⟩ hw
theorem stand.a10 (h : a.stand tt now att which gS g gK w wx) (n : Nat) (hn : n < 256) (hv : v = .int .u8 (n : Int)) (hw : ¬ which % 16 = 0) : ({ a with pr := n } : HArgs).stand tt now att which gS g gK w (wx.setCell ⟨gK, 1, none⟩ v) := by
  subst hv
  have o := h.ok
  have l := h.li
  exact h.putK rfl rfl rfl ⟨o.ht, o.ln, o.c1, o.c2, o.dl, o.dc, o.hg, o.lg, o.hsl, o.hssc, o.hfl, hn, o.hal, o.hkl, o.hkc, o.ho⟩ ⟨l.hA, l.hD, l.hds, l.hSA, l.hSS, l.hK, l.hO⟩ hw
theorem stand.a11 (h : a.stand tt now att which gS g gK w wx) (n : Nat) (hn : n < 256) (hv : v = .int .u8 (n : Int)) (hw : ¬ which % 16 = 0) : ({ a with al := n } : HArgs).stand tt now att which gS g gK w (wx.setCell ⟨gK, 2, none⟩ v) := by
  subst hv
  have o := h.ok
  have l := h.li
  exact h.putK rfl rfl rfl ⟨o.ht, o.ln, o.c1, o.c2, o.dl, o.dc, o.hg, o.lg, o.hsl, o.hssc, o.hfl, o.hpr, hn, o.hkl, o.hkc, o.ho⟩ ⟨l.hA, l.hD, l.hds, l.hSA, l.hSS, l.hK, l.hO⟩ hw
end
/-- the arguments where nothing was turned -/
def base (An : Option Addr) (on : List Lab) (cn tl : Nat) (D : Option Addr) (ds : List Blob) (tt now valid tg : Nat) (sg : List UInt8) (A5 A8 : Option Addr) (c5 c8 : Nat) (root : Lab) (KA AO : Option Addr) (cO : Nat) : HArgs :=
  ⟨An, D, on, cn, 2, tl, ds, { sgM on tt tl now valid tg with s := sg }, A5, A8, c5, c8, 256, 3, 253, root, KA, 8, AO, [exL], cO⟩
end HArgs
end Nm
end Go.Proofs.YthogembgndkmpaaGreatDoor
