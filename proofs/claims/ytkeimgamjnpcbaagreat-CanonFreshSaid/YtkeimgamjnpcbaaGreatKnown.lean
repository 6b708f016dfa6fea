/-
  The walk of CanonFresh: its known answer, its light sets.
-/
import Derived.Test.YtkeimgamjnpcbaaGreatMsg2
import Derived.Test.YtkeimgamjnpcbaaGreatFresh2
import Derived.Test.YtkeimgamjnpcbaaGreatHelp2
import Derived.Test.YtkeimgamjnpcbaaGreatSeat
import Derived.Test.YtkeimgamjnpcbaaGreatRel3
namespace Go.Proofs.YtkeimgamjnpcbaaGreat
open Go.RowKit
set_option linter.unusedVariables false
namespace Nm
theorem own_kept_ty {w w' : World} {B : Nat} {e e' : TypeId} {size : Nat} {v : Value} {n : Nat} {xs : List Value} {g : Nat} {cs : Array Value} {fr : Nat × Nat} (he : e ≠ e') (h : w.ownsRow B e size v n xs)
    (hg : w.heap[g]? = some (.cells cs e' fr)) (hk : Kept (fun k => k = g) w w') : w'.ownsRow B e size v n xs := by
  refine Kept.row h hk ?_
  intro k hk2 hkg
  subst hkg
  rcases h.2 with ⟨hn, _⟩ | ⟨g2, cap, cur, rfl, hg2, hh, rest⟩
  · subst hn
    cases hk2
  · cases hk2
    rw [hg] at hh
    cases hh
    exact he rfl
theorem own_cap {w : World} {B : Nat} {e : TypeId} {size : Nat} {A : Option Addr} {m c n : Nat} {xs : List Value} (h : w.ownsRow B e size (.slice A m c) n xs) : n ≤ c ∧ c ≤ maxLen := by
  rcases h.2 with ⟨h1, h2⟩ | ⟨g2, cap, cur, h1, hg2, hh, h3, h4, rest⟩
  · cases h1
    subst h2
    exact ⟨Nat.le_refl _, by unfold maxLen; omega⟩
  · cases h1
    exact ⟨h3, h4⟩
def sigRow (v : Value) : Array Value := #[.int .u16 1, .int .u8 253, .int .u8 2, .int .u32 30, .int .u32 150, .int .u32 100, .int .u16 7, v, .slice none 0 0]
set_option maxRecDepth 100000 in
set_option maxHeartbeats 20000000 in
theorem Known (w : World) : Calls Tryz.prog 12 #[] w fun e w' => e = .returned (.bool true) ∧ Below w.heap.size w w' := by
  go_enter Tryz.func12, Tryz.ntmps12
  go_wp2_with fail
  refine (Owner 1 (by omega) w).mono ?_
  rintro e w1 ⟨v1, rfl, hown1, hb1⟩
  obtain ⟨A1, c1, rfl, hl1, hcs1⟩ := Cs.of_own hown1
  go_wp2_with fail
  obtain ⟨hcap1, hcap2⟩ := own_cap hown1
  generalize hw2 : ((w1.alloc (.cells #[.int .u8 1, .int .u8 2, .int .u8 3, .int .u8 4] 5)).alloc (.cells #[.slice (some ⟨w1.heap.size, 0, none⟩) 4 4] 31)).alloc (.cells #[.slice A1 (owner 1).length c1, .int .u16 1, .int .u32 30, .slice (some ⟨w1.heap.size + 1, 0, none⟩) 1 1] 28) = w2
  have hba : Below w1.heap.size w1 (w1.alloc (.cells #[.int .u8 1, .int .u8 2, .int .u8 3, .int .u8 4] 5)) := (Below.refl _ _).alloc (Nat.le_refl _) _
  have hbb : Below w1.heap.size w1 w2 := by rw [← hw2]; exact (hba.alloc (by simp) _).alloc (by simp; omega) _
  have hz2 : w2.heap.size = w1.heap.size + 3 := by rw [← hw2]; simp
  have hgs : w2.heap[w1.heap.size + 2]? = some (.cells #[.slice A1 (owner 1).length c1, .int .u16 1, .int .u32 30, .slice (some ⟨w1.heap.size + 1, 0, none⟩) 1 1] 28 (0, 0)) := by
    rw [← hw2]
    have := heap_alloc_new ((w1.alloc (.cells #[.int .u8 1, .int .u8 2, .int .u8 3, .int .u8 4] 5)).alloc (.cells #[.slice (some ⟨w1.heap.size, 0, none⟩) 4 4] 31)) (.cells #[.slice A1 (owner 1).length c1, .int .u16 1, .int .u32 30, .slice (some ⟨w1.heap.size + 1, 0, none⟩) 1 1] 28)
    simpa using this
  have hc4 : Cs w2 (some ⟨w1.heap.size, 0, none⟩) (([1, 2, 3, 4] : Lab).map byteV) := by
    rw [← hw2]
    have := cs_new w1 5 [.int .u8 1, .int .u8 2, .int .u8 3, .int .u8 4] (0, 0)
    exact (this.below ((Below.refl _ _).alloc (Nat.le_refl _) _)).below ((Below.refl _ _).alloc (Nat.le_refl _) _)
  have hc5 : Cs w2 (some ⟨w1.heap.size + 1, 0, none⟩) ([⟨some ⟨w1.heap.size, 0, none⟩, [1, 2, 3, 4], 4⟩].map Blob.v) := by
    rw [← hw2]
    have := cs_new (w1.alloc (.cells #[.int .u8 1, .int .u8 2, .int .u8 3, .int .u8 4] 5)) 31 [.slice (some ⟨w1.heap.size, 0, none⟩) 4 4] (0, 0)
    rw [World.size_alloc] at this
    exact this.below ((Below.refl _ _).alloc (Nat.le_refl _) _)
  have hsv : (⟨A1, owner 1, c1, 1, 30, some ⟨w1.heap.size + 1, 0, none⟩, [⟨some ⟨w1.heap.size, 0, none⟩, [1, 2, 3, 4], 4⟩], 1⟩ : SetV).ok w2 := ⟨hcs1.below hbb, hc5, by
    intro b hb
    rcases List.mem_cons.1 hb with rfl | hb
    · exact hc4
    · cases hb⟩
  have HSV := Lib.hid hsv
  have hbw2 := hb1.trans (hbb.mono hb1.size)
  have HC4 := Lib.hid hc4
  have HC5 := Lib.hid hc5
  have HC1 := Lib.hid (hcs1.below hbb)
  have hzz := hb1.size
  clear hw2 hba hbb hc4 hc5 hsv hown1 hcs1 hb1
  have HFR : Hid (∀ (A : Option Addr) (cap : Nat) (W : World), Below w2.heap.size w2 W → Cs W A ([exL].map strV) → Calls Tryz.prog 14 #[.agg #[.slice A1 (owner 1).length c1, .int .u16 1, .int .u32 30, .slice (some ⟨w1.heap.size + 1, 0, none⟩) 1 1], .int .u32 30, .int .u16 7, .slice A 1 cap, .int .u32 100, .int .u32 50] W fun e w' =>
      ∃ v, e = .returned (.agg #[.int .u16 1, .int .u8 253, .int .u8 2, .int .u32 30, .int .u32 150, .int .u32 100, .int .u16 7, v, .slice none 0 0]) ∧ w'.ownsRow W.heap.size 9 1 v 1 ([exL].map strV) ∧ Below W.heap.size W w') := Lib.hid fun A cap W hW hA =>
    Fresh ⟨A1, owner 1, c1, 1, 30, some ⟨w1.heap.size + 1, 0, none⟩, [⟨some ⟨w1.heap.size, 0, none⟩, [1, 2, 3, 4], 4⟩], 1⟩ 30 7 100 50 A [exL] cap W (HSV.out.below hW) (show (owner 1).length ≤ 1000 by decide) hcap1 hcap2 hA (by decide) (by omega) (by omega) (by omega) (by omega)
  clear HSV
  refine wp_region_dep (by kernel_rfl) (by kernel_rfl) (fun i j => i == 4 && j == 3) (by kernel_rfl)
    (fun i W W' => if i = 4 then ∃ g cs fr, W.heap[g]? = some (.cells cs 33 fr) ∧ w2.heap.size ≤ g ∧ Kept (fun k => k = g) W W' else Ext W W')
    (fun W => Below w2.heap.size w2 W)
    (fun i vals W => match i with
      | 0 => vals 0 = .agg #[.slice A1 (owner 1).length c1, .int .u16 1, .int .u32 30, .slice (some ⟨w1.heap.size + 1, 0, none⟩) 1 1]
      | 1 => W.ownsRow w2.heap.size 9 1 (vals 1) 1 ([exL].map strV)
      | 2 => ∃ v, vals 2 = .agg (sigRow v) ∧ W.ownsRow w2.heap.size 9 1 v 1 ([exL].map strV)
      | 3 => ∃ g cs, vals 3 = .pointer (some ⟨g, 0, none⟩) ∧ w2.heap.size ≤ g ∧ W.heap[g]? = some (.cells cs 33 (0, 0)) ∧ cs.size = 9
      | 4 => ∃ g v, vals 3 = .pointer (some ⟨g, 0, none⟩) ∧ w2.heap.size ≤ g ∧ W.heap[g]? = some (.cells (sigRow v) 33 (0, 0)) ∧ W.ownsRow w2.heap.size 9 1 v 1 ([exL].map strV)
      | _ => True) ?_ (fun _ => True) (fun _ => false) trivial (fun _ _ _ _ _ _ _ => trivial) ?_ ?_ ?_ ?_ ?_
  · intro j vals i v W hij hw hR
    rcases j with _ | _ | _ | _ | _ | j
    · simpa [hij, Ne.symm hij] using hR
    · simpa [hij, Ne.symm hij] using hR
    · simpa [hij, Ne.symm hij] using hR
    · simpa [hij, Ne.symm hij] using hR
    · have h3 : ¬ 3 = i := fun h => by
        subst h
        generalize hb : waitsB _ _ _ = b at hw
        have : b = true := by rw [← hb]; kernel_rfl
        rw [this] at hw
        cases hw
      simpa [h3] using hR
    · trivial
  · exact ⟨rfl, rfl, rfl, Nat.le_refl _, fun _ _ => rfl⟩
  · intro i W W' hC hT
    by_cases h4 : i = 4
    · simp only [h4, if_true] at hT
      obtain ⟨g, cs, fr, h1, h2, h3⟩ := hT
      exact hC.trans (h3.below hC.size (fun k hk h => by omega))
    · simp only [h4, if_false] at hT
      exact hC.trans (hT.mono hC.size)
  · intro i j vals W W' hij hk hw hC hR hT
    by_cases h4 : i = 4
    · simp only [h4, if_true] at hT
      obtain ⟨g, cs, fr, h1, h2, h3⟩ := hT
      subst h4
      rcases j with _ | _ | _ | _ | _ | j
      · exact hR
      · exact own_kept_ty (by decide) hR h1 h3
      · obtain ⟨v, h5, h6⟩ := hR
        exact ⟨v, h5, own_kept_ty (by decide) h6 h1 h3⟩
      · cases hk
      · exact absurd rfl hij
      · trivial
    · simp only [h4, if_false] at hT
      rcases j with _ | _ | _ | _ | _ | j
      · exact hR
      · exact own_below hR hT
      · obtain ⟨v, h5, h6⟩ := hR
        exact ⟨v, h5, own_below h6 hT⟩
      · obtain ⟨g, cs, h5, h6, h7, h8⟩ := hR
        exact ⟨g, cs, h5, h6, (hT.block _ (lt_block h7)).trans h7, h8⟩
      · obtain ⟨g, v, h5, h6, h7, h8⟩ := hR
        exact ⟨g, v, h5, h6, (hT.block _ (lt_block h7)).trans h7, own_below h8 hT⟩
      · trivial
  · intro i o hio vals W hC haf _
    have hg := (hC.block _ (show w1.heap.size + 2 < w2.heap.size by omega)).trans hgs
    rcases i with _ | _ | _ | _ | _ | i
    all_goals first
      | (exfalso; simp at hio; done)
      | skip
    all_goals
      simp at hio
      subst hio
      simp [bindD, rdB, Region.binds] at haf
    · have e0 : W.cell? ⟨w1.heap.size + 2, 0, none⟩ = some (.slice A1 (owner 1).length c1) := by rw [cell_of_row _ _ 0 _ _ _ hg]; rfl
      have e1 : W.cell? ⟨w1.heap.size + 2, 1, none⟩ = some (.int .u16 1) := by rw [cell_of_row _ _ 1 _ _ _ hg]; rfl
      have e2 : W.cell? ⟨w1.heap.size + 2, 2, none⟩ = some (.int .u32 30) := by rw [cell_of_row _ _ 2 _ _ _ hg]; rfl
      have e3 : W.cell? ⟨w1.heap.size + 2, 3, none⟩ = some (.slice (some ⟨w1.heap.size + 1, 0, none⟩) 1 1) := by rw [cell_of_row _ _ 3 _ _ _ hg]; rfl
      simp [opYield_def, yieldUpon, relAct, dstAt, Act.put, Region.wanted, go_sem, e0, e1, e2, e3, Ext.refl]
    · simp [opYield_def, yieldUpon, relAct, dstAt, Act.put, Region.wanted, go_sem, haf]
      refine (Apex W).mono fun e W' h => ?_
      obtain ⟨v, he, ho, hb⟩ := h
      exact ⟨v, he, hb, own_base ho hC.size⟩
    · obtain ⟨h0, h1⟩ := haf
      obtain ⟨A5, c5, e5, _, hc5⟩ := Cs.of_own h1
      simp [opYield_def, yieldUpon, relAct, dstAt, Act.put, Region.wanted, go_sem, h0, e5]
      refine (HFR.out A5 c5 W hC hc5).mono fun e W' h => ?_
      obtain ⟨v, he, ho, hb⟩ := h
      exact ⟨_, he, hb, v, rfl, own_base ho hC.size⟩
    · simp [opYield_def, yieldUpon, relAct, dstAt, Act.put, Region.wanted, go_sem]
      exact ⟨(Below.refl _ _).alloc (Nat.le_refl _) _, hC.size, #[.int .u16 0, .int .u8 0, .int .u8 0, .int .u32 0, .int .u32 0, .int .u32 0, .int .u16 0, .slice none 0 0, .slice none 0 0], by simp only [World.alloc, Array.getElem_push_eq], rfl⟩
    · obtain ⟨h3, h2⟩ := haf
      obtain ⟨g, h5, h6, cs, h7, h8⟩ := h3
      obtain ⟨v, h9, h10⟩ := h2
      obtain ⟨A5, c5, rfl, _, hc5⟩ := Cs.of_own h10
      refine yield_store (g := g) (cells := sigRow (.slice A5 1 c5)) rfl rfl (by simp [relAct, dstAt, Act.put, Act.eval, h5]) (by simp [relAct, dstAt, Act.put, Act.eval, h9]) h7 (by kernel_rfl) h8 (by simp [sigRow, Value.oneCell']) ?_
      have hblk := setRow_block W g (sigRow (.slice A5 1 c5)) cs 33 (0, 0) h7
      have hgr := setRow_grown W g (sigRow (.slice A5 1 c5))
      have hk : Kept (fun k => k = g) W (W.setRow g (sigRow (.slice A5 1 c5))) := (Kept.of_grown hgr).mono (fun k _ h => by cases h; rfl)
      exact ⟨⟨g, cs, (0, 0), h7, h6, hk⟩, g, _, by simpa using h5, h6, hblk, own_kept_ty (by decide) h10 h7 hk⟩
  · intro vals W hC hR
    have h4 := hR 4 (by show 4 < 5; omega) (fun i _ => by simp)
    obtain ⟨g, v, h3, hgN, hgb, hov⟩ := h4
    simp [relAct, dstAt, Act.put]
    rw [h3]
    obtain ⟨A5, c5, rfl, _, hc5⟩ := Cs.of_own hov
    have hgW := lt_block hgb
    have hsb := (hC.block _ (show w1.heap.size + 2 < w2.heap.size by omega)).trans hgs
    have hbW := hbw2.trans (hC.mono (by have := hbw2.size; omega))
    have hcW := HC1.out.below hC
    have h4W := HC4.out.below hC
    have h5W := HC5.out.below hC
    have HC5 := Lib.hid hc5
    have hzC := hC.size
    clear hR hgs HFR hc5 hov
    generalize vals 0 = v0 at *
    generalize vals 1 = v1 at *
    generalize vals 2 = v2 at *
    go_wp2_with fail
    refine (Owner 4 (by omega) W).mono ?_
    rintro e W4 ⟨v4, rfl, hown4, hb4⟩
    obtain ⟨A4, c4, rfl, _, hcs4⟩ := Cs.of_own hown4
    obtain ⟨hq1, hq2⟩ := own_cap hown4
    have hl4 : labels (owner 4) = 2 := by decide
    have hz4 := hb4.size
    clear hown4
    go_wp2_with fail
    refine (Labels A4 (owner 4) c4 W4 hcs4 (by decide) hq1 hq2).mono ?_
    rintro e W4' ⟨rfl, rfl⟩
    rw [hl4]
    clear hcs4 hq1 hq2 hl4
    go_wp2_with fail
    refine (Owner 12 (by omega) W4).mono ?_
    rintro e W6 ⟨v6, rfl, hown6, hb6⟩
    obtain ⟨A6, c6, rfl, _, hcs6⟩ := Cs.of_own hown6
    obtain ⟨hq1, hq2⟩ := own_cap hown6
    have hl6 : labels (owner 12) = 1 := by decide
    have hz6 := hb6.size
    have hg6 := (hb6.block _ (show g < W4.heap.size by omega)).trans ((hb4.block _ hgW).trans hgb)
    have hs6 := (hb6.block _ (show w1.heap.size + 2 < W4.heap.size by omega)).trans ((hb4.block _ (show w1.heap.size + 2 < W.heap.size by omega)).trans hsb)
    obtain ⟨k0, k1, k2, k3, k4, k5, k6, k7, k8, kf⟩ := cells9 hg6
    have s0 : W6.cell? ⟨w1.heap.size + 2, 0, none⟩ = some (.slice A1 (owner 1).length c1) := by rw [cell_of_row _ _ 0 _ _ _ hs6]; rfl
    have s1 : W6.cell? ⟨w1.heap.size + 2, 1, none⟩ = some (.int .u16 1) := by rw [cell_of_row _ _ 1 _ _ _ hs6]; rfl
    have s2 : W6.cell? ⟨w1.heap.size + 2, 2, none⟩ = some (.int .u32 30) := by rw [cell_of_row _ _ 2 _ _ _ hs6]; rfl
    have s3 : W6.cell? ⟨w1.heap.size + 2, 3, none⟩ = some (.slice (some ⟨w1.heap.size + 1, 0, none⟩) 1 1) := by rw [cell_of_row _ _ 3 _ _ _ hs6]; rfl
    have hb46 := hb4.trans (hb6.mono hz4)
    have hb66 := hbW.trans (hb46.mono (by omega))
    have HM := Lib.hid (Message1 A1 (some ⟨w1.heap.size + 1, 0, none⟩) (owner 1) c1 1 1 30 ⟨some ⟨w1.heap.size, 0, none⟩, [1, 2, 3, 4], 4⟩ ⟨1, 253, 2, 30, 150, 100, 7, [exL], []⟩ A5 none c5 0 W6 (by unfold plainT; decide) (by decide) (by kernel_rfl) (hcW.below hb46) (by unfold Small; decide) (h5W.below hb46) (Cs.below h4W hb46) (show (4 : Nat) ≤ 4 by decide) (show (4 : Nat) ≤ maxLen by unfold maxLen; decide)
      ⟨by decide, by decide, by decide, by decide, by decide, by decide, by decide, by unfold Small; decide, by decide⟩ (HC5.out.below hb46) (by decide))
    clear hown6 hg6 hs6 hcW h4W h5W hgb hsb
    go_wp2_with fail
    refine (Labels A6 (owner 12) c6 W6 hcs6 (by decide) hq1 hq2).mono ?_
    rintro e W6' ⟨rfl, rfl⟩
    rw [hl6]
    clear hcs6 hq1 hq2 hl6
    go_wp2_with fail
    refine HM.out.mono ?_
    rintro e W7 ⟨v7, rfl, hown7, hb7⟩
    obtain ⟨A7, c7, rfl, _, _⟩ := Cs.of_own hown7
    have hlen : List.length (msg1 (owner 1) 1 [1, 2, 3, 4] { t := 1, al := 253, lb := 2, ttl := 30, ex := 150, bg := 100, tg := 7, n := [exL], s := [] }) = 52 := by kernel_rfl
    have hbF := hb66.trans (hb7.mono hb66.size)
    have hbR : Below w.heap.size w W7 := hbF
    clear hown7 hb7
    rw [hlen]
    clear hlen HM
    go_wp2_with fail
    go_ret
    exact ⟨rfl, hbR⟩
end Nm
end Go.Proofs.YtkeimgamjnpcbaaGreat
