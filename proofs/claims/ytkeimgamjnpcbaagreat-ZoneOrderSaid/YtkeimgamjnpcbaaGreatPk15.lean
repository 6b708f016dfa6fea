/-
  Texts merged by a program (InsT, TypesG, Gz2, ZSetG, Gz3).
-/
import Derived.Test.YtkeimgamjnpcbaaGreatPk6
import Derived.Test.YtkeimgamjnpcbaaGreatPk7
import Derived.Test.YtkeimgamjnpcbaaGreatPk12
import Derived.Test.YtkeimgamjnpcbaaGreatPk14
set_option linter.unusedSimpArgs false
set_option linter.unusedVariables false
/- slices.Sort at []uint16 of twelve numbers at most: they stand in order behind it. -/
namespace Go.Proofs.YtkeimgamjnpcbaaGreat
open Go.RowKit
set_option linter.unusedVariables false
set_option linter.unusedSimpArgs false
namespace Nm
def u16V (x : Nat) : Value := .int .u16 (x : Int)
/-- block g begins with these numbers -/
def A16 (w : World) (g : Nat) (xs : List Nat) (W : World) : Prop := Kept (fun k => k = g) w W ∧ ∃ cs, W.heap[g]? = some (.cells cs 24 (0, 0)) ∧ xs.length ≤ cs.size ∧ (∀ i (h : i < xs.length), cs[i]? = some (u16V xs[i])) ∧ ∀ cs0, w.heap[g]? = some (.cells cs0 24 (0, 0)) → cs.size = cs0.size
theorem A16.cell {w W : World} {g : Nat} {xs : List Nat} (h : A16 w g xs W) (i : Nat) (hi : i < xs.length) : W.cell? ⟨g, i, none⟩ = some (u16V xs[i]) := by
  obtain ⟨_, cs, h1, _, h3, _⟩ := h
  rw [cell_of_row _ _ _ _ _ _ h1]
  exact h3 i hi
theorem A16.ext {w W W' : World} {g : Nat} {xs : List Nat} (h : A16 w g xs W) (hb : Below W.heap.size W W') : A16 w g xs W' := by
  obtain ⟨h0, cs, h1, h2, h3, h4⟩ := h
  exact ⟨h0.trans ((Kept.of_ext hb).mono (fun _ _ h => h.elim)), cs, (hb.block _ (lt_block h1)).trans h1, h2, h3, h4⟩
/-- the numbers ahead, the one that is carried on, those that it has passed, the rest -/
structure Carry (L R : List Nat) (x : Nat) : Prop where
  srt : (L ++ R).Pairwise (· ≤ ·)
  gt : ∀ r ∈ R, x ≤ r
theorem Carry.step {L R : List Nat} {x y : Nat} (h : Carry (L ++ [y]) R x) (hxy : x < y) : Carry L (y :: R) x :=
  ⟨by have := h.srt; rwa [List.append_assoc] at this, fun r hr => by
    rcases List.mem_cons.1 hr with rfl | hr
    · omega
    · exact h.gt r hr⟩
theorem Carry.done0 {R : List Nat} {x : Nat} (h : Carry [] R x) : (x :: R).Pairwise (· ≤ ·) := List.pairwise_cons.2 ⟨fun r hr => h.gt r hr, by simpa using h.srt⟩
theorem Carry.done1 {L R : List Nat} {x y : Nat} (h : Carry (L ++ [y]) R x) (hxy : ¬ x < y) : (L ++ [y] ++ x :: R).Pairwise (· ≤ ·) := by
  have h1 := List.pairwise_append.1 h.srt
  have h2 := List.pairwise_append.1 h1.1
  refine List.pairwise_append.2 ⟨h1.1, List.pairwise_cons.2 ⟨fun r hr => h.gt r hr, h1.2.1⟩, fun a ha b hb => ?_⟩
  have hay : a ≤ y := by
    rcases List.mem_append.1 ha with ha | ha
    · exact h2.2.2 a ha y (by simp)
    · simp at ha; omega
  rcases List.mem_cons.1 hb with rfl | hb
  · omega
  · exact h1.2.2 a ha b hb
def InnT (w : World) (g i : Nat) (xs : List Nat) (j : Value) (W : World) : Prop := ∃ (L R T : List Nat) (x : Nat), j = .int .i64 (L.length : Nat) ∧ L.length + R.length = i ∧ Carry L R x ∧ (L ++ x :: (R ++ T)).Perm xs ∧ A16 w g (L ++ x :: (R ++ T)) W
def OutT (w : World) (g : Nat) (xs : List Nat) (i : Value) (W : World) : Prop := ∃ (S T : List Nat), i = .int .i64 (S.length : Nat) ∧ 1 ≤ S.length ∧ S.Pairwise (· ≤ ·) ∧ (S ++ T).Perm xs ∧ A16 w g (S ++ T) W
/-- two that stand beside one another change places -/
theorem A16.swap {w W V : World} {g : Nat} {L T : List Nat} {x y : Nat} {cs cs' : Array Value} (h : A16 w g (L ++ y :: x :: T) W) (hcs : W.heap[g]? = some (.cells cs 24 (0, 0))) (hk : Kept (fun k => k = g) W V) (hv : V.heap[g]? = some (.cells cs' 24 (0, 0))) (hsz : cs'.size = cs.size)
    (ho : ∀ m, m ≠ L.length → m ≠ L.length + 1 → cs'[m]? = cs[m]?) (h0 : cs'[L.length]? = some (u16V x)) (h1 : cs'[L.length + 1]? = some (u16V y)) : A16 w g (L ++ x :: y :: T) V := by
  obtain ⟨g0, cs0, g1, g2, g3, g4⟩ := h
  rw [hcs] at g1
  cases g1
  have hlen : (L ++ y :: x :: T).length = (L ++ x :: y :: T).length := by simp
  refine ⟨g0.trans hk, cs', hv, by rw [hsz, ← hlen]; exact g2, fun i hi => ?_, fun c0 hc0 => by rw [hsz]; exact g4 c0 hc0⟩
  by_cases e0 : i = L.length
  · subst e0
    rw [h0]
    simp
  · by_cases e1 : i = L.length + 1
    · subst e1
      rw [h1]
      congr 1
      simp
    · rw [ho i e0 e1, g3 i (by omega)]
      congr 2
      rcases Nat.lt_or_ge i L.length with hl | hl
      · rw [List.getElem_append_left hl, List.getElem_append_left hl]
      · obtain ⟨m, rfl⟩ : ∃ m, i = L.length + (m + 2) := ⟨i - L.length - 2, by omega⟩
        rw [List.getElem_append_right (by omega), List.getElem_append_right (by omega)]
        simp
set_option maxRecDepth 100000 in
set_option maxHeartbeats 20000000 in
theorem insT (g c : Nat) (xs : List Nat) (w : World) (h : A16 w g xs w) (hx : ∀ x ∈ xs, x < 65536) (hc : xs.length ≤ c) (h1 : 1 ≤ xs.length) (hn : xs.length ≤ 1000000) :
    Calls Tryz.prog 200 #[.slice (some ⟨g, 0, none⟩) xs.length c, .int .i64 0, .int .i64 xs.length] w fun e w' => e = .returned (.tuple #[]) ∧ ∃ ys, ys.Pairwise (· ≤ ·) ∧ ys.Perm xs ∧ A16 w g ys w' := by
  go_enter Tryz.func200, Tryz.ntmps200
  go_wp2_with fail
  go_loopw [6] (OutT w g xs) (fun i _ => xs.length - (intOf i).toNat)
  case atStart =>
    cases xs with
    | nil => simp at h1
    | cons x xs => exact ⟨[x], xs, rfl, by simp, by simp, List.Perm.refl _, h⟩
  case round =>
    obtain ⟨S, T, rfl, hS1, hS, hp, hw⟩ := hrel
    have hpl := hp.length_eq
    rw [List.length_append] at hpl
    by_cases hlt : S.length < xs.length
    · obtain ⟨i, hi⟩ : ∃ i, i = S.length := ⟨_, rfl⟩
      rw [← hi] at hlt hS1
      rw [← hi]
      go_wp2_with fail
      go_loopw [7] (InnT w g i xs) (fun j _ => (intOf j).toNat)
      case atStart =>
        cases T with
        | nil => simp at hpl; omega
        | cons x T => exact ⟨S, [], T, x, by rw [hi], by simp [hi], ⟨by simpa using hS, by simp⟩, by simpa using hp, by simpa using hw⟩
      case round =>
        obtain ⟨L, R, T, x, rfl, hLR, hca, hp2, hw2⟩ := hrel
        have hpl2 := hp2.length_eq
        simp at hpl2
        have HW2 := Lib.hid hw2
        have HP2 := Lib.hid hp2
        have HCA := Lib.hid hca
        clear hw2 hp2 hca hw hp hS
        rcases List.eq_nil_or_concat L with rfl | ⟨L, y, rfl⟩
        · simp only [List.length_nil]
          go_upto_region 4 with fail
          refine wp_region_m2 mixed0 (by kernel_rfl) [.is (.int .i64 0), .is (.int .i64 0), .is (.bool false), .is (.bool false), .is undef, .is undef, .is undef, .is undef, .is undef, .is undef, .is undef, .is undef, .is undef, .is undef, .is (.bool false)] ?_ ?_
          · intro q o hio vals V hE haf
            rcases q with _ | _ | _ | _ | _ | _ | _ | _ | _ | _ | _ | _ | _ | _ | _ | q
            all_goals first
              | (exfalso; simp at hio; done)
              | (simp at hio; subst hio; simp [bindD, rdB, Region.binds, factAt] at haf; simp [opYield_def, yieldUpon, yielded, relAct, dstAt, Act.put, Region.wanted, go_sem, haf, Ext.refl, factAt]; done)
              | skip
          · intro vals V hE hF
            have e14 : vals 14 = .bool false := hF 14 (by show 14 < 15; omega)
            simp [relAct, dstAt, Act.put]
            rw [e14]
            have hE : Below wr.heap.size wr V := hE
            have HWV := Lib.hid (HW2.out.ext hE)
            clear hF e14
            generalize vals 0 = y0
            generalize vals 1 = y1
            generalize vals 2 = y2
            generalize vals 3 = y3
            generalize vals 4 = y4
            generalize vals 5 = y5
            generalize vals 6 = y6
            generalize vals 7 = y7
            generalize vals 8 = y8
            generalize vals 9 = y9
            generalize vals 10 = y10
            generalize vals 11 = y11
            generalize vals 12 = y12
            generalize vals 13 = y13
            go_wp2_with fail
            refine ⟨⟨x :: R, T, ?_, by simp, HCA.out.done0, by simpa using HP2.out, by simpa using HWV.out⟩, ?_⟩
            · simp at hLR
              simp [hLR]; omega
            · simp [intOf]; simp at hLR; omega
        · obtain ⟨k, hk⟩ : ∃ k, k = L.length := ⟨_, rfl⟩
          have hjl : (L.concat y).length = k + 1 := by simp [hk]
          have hlist : L.concat y ++ x :: (R ++ T) = L ++ y :: x :: (R ++ T) := by simp
          rw [hjl] at hLR hpl2
          rw [hlist] at HW2 HP2
          have hlen : k + 1 < (L ++ y :: x :: (R ++ T)).length := by simp [hk]
          have hlen0 : k < (L ++ y :: x :: (R ++ T)).length := by omega
          have hc0 := HW2.out.cell k hlen0
          have hc1 := HW2.out.cell (k + 1) hlen
          have hg0 : (L ++ y :: x :: (R ++ T))[k] = y := by simp [hk]
          have hg1 : (L ++ y :: x :: (R ++ T))[k + 1] = x := by simp [hk]
          rw [hg0] at hc0
          rw [hg1] at hc1
          have hyl : y < 65536 := hx y (HP2.out.mem_iff.1 (by simp))
          have hxl : x < 65536 := hx x (HP2.out.mem_iff.1 (by simp))
          have hgl : g < wr.heap.size := by
            obtain ⟨_, cs, q1, _⟩ := HW2.out
            exact lt_block q1
          have hHL := Lib.hid hlist
          have hkn : k + 1 < xs.length := by omega
          clear hlist hg0 hg1 hlen hlen0
          rw [hjl]
          go_upto_region 4 with fail
          have hpos : (0 : Int) < (k : Int) + 1 := by omega
          have r2 : IntKind.i64.wrap (k : Int) = (k : Int) := by rw [IntKind.wrap_i64]; omega
          refine wp_region_m2 mixed0 (by kernel_rfl) [.is (.int .i64 ((k : Int) + 1)), .is (.int .i64 0), .is (.bool true), .is (.bool true), .is (.slice (some ⟨g, 0, none⟩) xs.length c), .is (.int .i64 ((k : Int) + 1)), .is (.pointer (some ⟨g, k + 1, none⟩)), .is (u16V x), .is (.slice (some ⟨g, 0, none⟩) xs.length c), .is (.int .i64 ((k : Int) + 1)), .is (.int .i64 (k : Nat)), .is (.pointer (some ⟨g, k, none⟩)), .is (u16V y), .is (.bool (decide (x < y))), .is (.bool (decide (x < y)))] ?_ ?_
          · intro q o hio vals V hE haf
            have e0 := (bcl hE hgl).trans hc0
            have e1 := (bcl hE hgl).trans hc1
            have n1 : ((k : Int) + 1) < (xs.length : Int) := by omega
            have n2 : ((k : Nat) : Int) < (xs.length : Int) := by omega
            have n3 : k < xs.length := by omega
            have n4 : ((k : Int) + 1).toNat = k + 1 := by omega
            have n5 : 0 ≤ (k : Int) + 1 ∧ (k : Int) + 1 < (xs.length : Int) := by omega
            rcases q with _ | _ | _ | _ | _ | _ | _ | _ | _ | _ | _ | _ | _ | _ | _ | q
            all_goals first
              | (exfalso; simp at hio; done)
              | skip
            all_goals
              simp at hio
              subst hio
              simp [bindD, rdB, Region.binds, factAt] at haf
            all_goals first
              | (simp [opYield_def, yieldUpon, yielded, relAct, dstAt, Act.put, Region.wanted, go_sem, haf, e0, e1, hpos, r2, n1, n2, n3, u16V, Ext.refl, factAt]; done)
              | skip
            · simp [opYield_def, yieldUpon, yielded, relAct, dstAt, Act.put, Region.wanted, go_sem, haf, n4, n5, Ext.refl, factAt]
            · simp [opYield_def, yieldUpon, yielded, relAct, dstAt, Act.put, Region.wanted, go_sem, haf, factAt, u16V]
              refine (less16 x y V).mono fun e W' h => ?_
              obtain ⟨rfl, rfl⟩ := h
              first | exact ⟨Below.refl _ _, rfl⟩ | exact ⟨rfl, Below.refl _ _⟩ | exact Below.refl _ _
          · intro vals V hE hF
            have e14 : vals 14 = .bool (decide (x < y)) := hF 14 (by show 14 < 15; omega)
            simp [relAct, dstAt, Act.put]
            rw [e14]
            have hE : Below wr.heap.size wr V := hE
            have HWV := Lib.hid (HW2.out.ext hE)
            have hz := hE.size
            clear hF e14
            generalize vals 0 = y0
            generalize vals 1 = y1
            generalize vals 2 = y2
            generalize vals 3 = y3
            generalize vals 4 = y4
            generalize vals 5 = y5
            generalize vals 6 = y6
            generalize vals 7 = y7
            generalize vals 8 = y8
            generalize vals 9 = y9
            generalize vals 10 = y10
            generalize vals 11 = y11
            generalize vals 12 = y12
            generalize vals 13 = y13
            by_cases hxy : x < y
            · have hd : decide (x < y) = true := decide_eq_true hxy
              rw [hd]
              clear hd
              go_upto_region 6 with fail
              have hC0 := HWV.out.cell (k + 1) (by simp; omega)
              have hC1 := HWV.out.cell k (by simp; omega)
              have hq1 : (L ++ y :: x :: (R ++ T))[k + 1]'(by simp; omega) = x := by simp [hk]
              have hq0 : (L ++ y :: x :: (R ++ T))[k]'(by simp; omega) = y := by simp [hk]
              rw [hq1] at hC0
              rw [hq0] at hC1
              obtain ⟨_, cs, hcs, hcl, _, _⟩ := HWV.out
              have hcl2 : k + 1 < cs.size := by simp at hcl; omega
              have hgV := lt_block hcs
              clear hcl hc0 hc1 hq0 hq1 hE
              refine wp_region_r2 mixed0 (by kernel_rfl) (fun _ _ => false) (kills_none _ _)
                (fun ix Y Y' => if ix = 15 then Y' = Y.setCell ⟨g, k + 1, none⟩ (u16V y) else if ix = 17 then Y' = Y.setCell ⟨g, k, none⟩ (u16V x) else Ext Y Y')
                (fun Y => Kept (fun q => q = g) V Y ∧ ∃ cs', Y.heap[g]? = some (.cells cs' 24 (0, 0)) ∧ cs'.size = cs.size ∧ ∀ m, m ≠ k → m ≠ k + 1 → cs'[m]? = cs[m]?)
                (fun ix v Y => match ix with
                  | 0 => v = .slice (some ⟨g, 0, none⟩) xs.length c
                  | 1 => v = .int .i64 ((k : Int) + 1)
                  | 2 => v = .slice (some ⟨g, 0, none⟩) xs.length c
                  | 3 => v = .int .i64 ((k : Int) + 1)
                  | 4 => v = .int .i64 (k : Int)
                  | 5 => v = .slice (some ⟨g, 0, none⟩) xs.length c
                  | 6 => v = .int .i64 ((k : Int) + 1)
                  | 7 => v = .int .i64 (k : Int)
                  | 8 => v = .pointer (some ⟨g, k, none⟩)
                  | 9 => v = u16V y
                  | 10 => v = .slice (some ⟨g, 0, none⟩) xs.length c
                  | 11 => v = .int .i64 ((k : Int) + 1)
                  | 12 => v = .pointer (some ⟨g, k + 1, none⟩)
                  | 13 => v = u16V x
                  | 14 => v = .pointer (some ⟨g, k + 1, none⟩)
                  | 15 => Y.cell? ⟨g, k + 1, none⟩ = some (u16V y)
                  | 16 => v = .pointer (some ⟨g, k, none⟩)
                  | 17 => Y.cell? ⟨g, k, none⟩ = some (u16V x)
                  | _ => True)
                (fun Y => Y.cell? ⟨g, k + 1, none⟩ = some (u16V x) ∧ Y.cell? ⟨g, k, none⟩ = some (u16V y)) (fun ix => ix == 15 || ix == 17) ⟨hC0, hC1⟩ ?_ ⟨(Kept.refl _ V).drew, cs, hcs, rfl, fun _ _ _ => rfl⟩ ?_ ?_ ?_ ?_
              · intro ix Y Y' hkl hC hI hT
                have h15 : ix ≠ 15 := fun h => by subst h; cases hkl
                have h17 : ix ≠ 17 := fun h => by subst h; cases hkl
                simp only [h15, h17, if_false] at hT
                obtain ⟨_, cs', hq, _⟩ := hC
                exact ⟨(bcl hT (lt_block hq)).trans hI.1, (bcl hT (lt_block hq)).trans hI.2⟩
              · intro ix Y Y' hC hT
                obtain ⟨hK, cs', hq, hs', ho'⟩ := hC
                by_cases h15 : ix = 15
                · simp only [h15, if_true] at hT
                  subst hT
                  refine ⟨hK.setCell (S := fun q => q = g) (p := ⟨g, k + 1, none⟩) (fun _ => rfl) _, _, heap_set hq, by simp [hs'], fun m hm0 hm1 => ?_⟩
                  rw [← ho' m hm0 hm1, Array.getElem?_setIfInBounds]
                  rw [if_neg (fun e => hm1 e.symm)]
                · by_cases h17 : ix = 17
                  · simp only [h17, show ¬ (17 : Nat) = 15 by omega, if_true, if_false] at hT
                    subst hT
                    refine ⟨hK.setCell (S := fun q => q = g) (p := ⟨g, k, none⟩) (fun _ => rfl) _, _, heap_set hq, by simp [hs'], fun m hm0 hm1 => ?_⟩
                    rw [← ho' m hm0 hm1, Array.getElem?_setIfInBounds]
                    rw [if_neg (fun e => hm0 e.symm)]
                  · simp only [h15, h17, if_false] at hT
                    exact ⟨hK.trans ((Kept.of_ext hT).mono (fun _ _ h => h.elim)), cs', (hT.block g (lt_block hq)).trans hq, hs', ho'⟩
              · intro ix j v Y Y' hij _ hw hC hR hT
                obtain ⟨_, cs', hq, hs', _⟩ := hC
                have hfar : ∀ (p q : Nat) (u : Value), p ≠ q → (Y.setCell ⟨g, p, none⟩ u).cell? ⟨g, q, none⟩ = Y.cell? ⟨g, q, none⟩ := fun p q u hpq => by
                  rw [cell_of_row _ _ _ _ _ _ (heap_set hq), cell_of_row _ _ _ _ _ _ hq, Array.getElem?_setIfInBounds, if_neg hpq]
                rcases j with _ | _ | _ | _ | _ | _ | _ | _ | _ | _ | _ | _ | _ | _ | _ | _ | _ | _ | j
                all_goals first
                  | exact hR
                  | skip
                · have hR : Y.cell? ⟨g, k + 1, none⟩ = some (u16V y) := hR
                  show Y'.cell? ⟨g, k + 1, none⟩ = some (u16V y)
                  by_cases h17 : ix = 17
                  · simp only [h17, show ¬ (17 : Nat) = 15 by omega, if_true, if_false] at hT
                    subst hT
                    rw [hfar _ _ _ (by omega)]
                    exact hR
                  · have h15 : ¬ ix = 15 := hij
                    simp only [h15, h17, if_false] at hT
                    exact (bcl hT (lt_block hq)).trans hR
                · have hR : Y.cell? ⟨g, k, none⟩ = some (u16V x) := hR
                  show Y'.cell? ⟨g, k, none⟩ = some (u16V x)
                  by_cases h15 : ix = 15
                  · simp only [h15, if_true] at hT
                    subst hT
                    rw [hfar _ _ _ (by omega)]
                    exact hR
                  · have h17 : ¬ ix = 17 := hij
                    simp only [h15, h17, if_false] at hT
                    exact (bcl hT (lt_block hq)).trans hR
              · intro ix o hio vals Y hC haf hI
                obtain ⟨hK, cs', hq, hs', _⟩ := hC
                have n1 : ((k + 1 : Nat) : Int) < (xs.length : Int) := by omega
                have n2 : ((k : Nat) : Int) < (xs.length : Int) := by omega
                have n3 : k < xs.length := by omega
                have n4 : ((k : Int) + 1).toNat = k + 1 := by omega
                have n5 : 0 ≤ (k : Int) + 1 ∧ (k : Int) + 1 < (xs.length : Int) := by omega
                have fz : ∀ m, Y.frozen? ⟨g, m, none⟩ = false := fun m => by simp [World.frozen?, hq]
                have f1 := fz k
                have f2 := fz (k + 1)
                have d1 : ∃ u, Y.cell? ⟨g, k, none⟩ = some u := by rw [cell_of_row _ _ _ _ _ _ hq]; exact ⟨_, Array.getElem?_eq_getElem (by omega)⟩
                have d2 : ∃ u, Y.cell? ⟨g, k + 1, none⟩ = some u := by rw [cell_of_row _ _ _ _ _ _ hq]; exact ⟨_, Array.getElem?_eq_getElem (by omega)⟩
                obtain ⟨u1, d1⟩ := d1
                obtain ⟨u2, d2⟩ := d2
                have hII : (∀ kk, kk = 15 ∨ kk = 17 → kk = ix ∨ waitsT _ _ kk ix = true) → _ := fun hk => hI (fun kk hkk h => hk kk (by simpa using h))
                rcases ix with _ | _ | _ | _ | _ | _ | _ | _ | _ | _ | _ | _ | _ | _ | _ | _ | _ | _ | ix
                all_goals first
                  | (exfalso; simp at hio; done)
                  | skip
                all_goals
                  simp at hio
                  subst hio
                  simp [bindD, rdB, Region.binds] at haf
                all_goals first
                  | (simp [opYield_def, yieldUpon, yielded, relAct, dstAt, Act.put, Region.wanted, go_sem, haf, r2, n1, n2, n3, n4, n5, u16V, Ext.refl]; done)
                  | skip
                · have h0 := hII (fun kk h => by rcases h with rfl | rfl <;> exact .inr (by kernel_rfl))
                  simp [opYield_def, yieldUpon, yielded, relAct, dstAt, Act.put, Region.wanted, go_sem, haf, h0.2, u16V, Ext.refl]
                · have h0 := hII (fun kk h => by rcases h with rfl | rfl <;> exact .inr (by kernel_rfl))
                  simp [opYield_def, yieldUpon, yielded, relAct, dstAt, Act.put, Region.wanted, go_sem, haf, h0.1, u16V, Ext.refl]
                · simp [opYield_def, yieldUpon, yielded, relAct, dstAt, Act.put, Region.wanted, go_sem, haf, f2, d2, u16V]
                · simp [opYield_def, yieldUpon, yielded, relAct, dstAt, Act.put, Region.wanted, go_sem, haf, f1, d1, u16V]
              · intro vals Y hC hR
                obtain ⟨hK, cs', hq, hs', ho'⟩ := hC
                have h15 := hR 15 (by show 15 < 18; omega) (fun _ _ => rfl)
                have h17 := hR 17 (by show 17 < 18; omega) (fun _ _ => rfl)
                have h15 : Y.cell? ⟨g, k + 1, none⟩ = some (u16V y) := h15
                have h17 : Y.cell? ⟨g, k, none⟩ = some (u16V x) := h17
                rw [cell_of_row _ _ _ _ _ _ hq] at h15 h17
                have HSW := Lib.hid (HWV.out.swap hcs hK hq hs' (fun m h0 h1 => ho' m (by omega) (by omega)) (by rw [← hk]; exact h17) (by rw [← hk]; exact h15))
                simp [relAct, dstAt, Act.put]
                clear hR hK hq ho' h15 h17
                generalize vals 0 = z0
                generalize vals 1 = z1
                generalize vals 2 = z2
                generalize vals 3 = z3
                generalize vals 4 = z4
                generalize vals 5 = z5
                generalize vals 6 = z6
                generalize vals 7 = z7
                generalize vals 8 = z8
                generalize vals 9 = z9
                generalize vals 10 = z10
                generalize vals 11 = z11
                generalize vals 12 = z12
                generalize vals 13 = z13
                generalize vals 14 = z14
                generalize vals 15 = z15
                generalize vals 16 = z16
                generalize vals 17 = z17
                go_wp2_with fail
                refine ⟨⟨L, y :: R, T, x, by rw [← hk], by simp; omega, ?_, ?_, by simpa using HSW.out⟩, ?_⟩
                · have := HCA.out
                  rw [List.concat_eq_append] at this
                  exact this.step hxy
                · refine List.Perm.trans ?_ HP2.out
                  exact List.Perm.append_left L (List.Perm.swap y x (R ++ T))
                · simp [intOf]; omega
            · have hd : decide (x < y) = false := decide_eq_false hxy
              rw [hd]
              clear hd
              go_wp2_with fail
              refine ⟨⟨L ++ [y] ++ x :: R, T, ?_, by simp; omega, ?_, by simpa using HP2.out, by simpa using HWV.out⟩, ?_⟩
              · simp; omega
              · have := HCA.out
                rw [List.concat_eq_append] at this
                exact this.done1 hxy
              · simp [intOf]; omega
    · go_wp2_with fail
      refine bodyPost_end (results_none rfl _ _ _) rfl ?_
      have hT : T = [] := List.length_eq_zero_iff.1 (by omega)
      subst hT
      rw [List.append_nil] at hp hw
      exact ⟨rfl, S, hS, hp, hw⟩
theorem pdqT (g c : Nat) (l : Value) (xs : List Nat) (w : World) (h : A16 w g xs w) (hx : ∀ x ∈ xs, x < 65536) (hc : xs.length ≤ c) (h1 : 1 ≤ xs.length) (hn : xs.length ≤ 12) :
    Calls Tryz.prog 172 #[.slice (some ⟨g, 0, none⟩) xs.length c, .int .i64 0, .int .i64 xs.length, l] w fun e w' => e = .returned (.tuple #[]) ∧ ∃ ys, ys.Pairwise (· ≤ ·) ∧ ys.Perm xs ∧ A16 w g ys w' := by
  have HI := Lib.hid (insT g c xs w h hx hc h1 (by omega))
  have hn' : (xs.length : Int) ≤ 12 := by omega
  clear h hx
  go_enter Tryz.func172, Tryz.ntmps172
  go_wp2_with fail
  refine wp_loop_rounds 2 ?_
  rw [rounds_succ]
  go_wp2_with fail
  refine HI.out.mono ?_
  rintro e w2 ⟨rfl, hy⟩
  have HY := Lib.hid hy
  clear hy
  go_wp2_with fail
  refine bodyPost_ret (results_none rfl _ _ _) rfl ?_
  exact ⟨rfl, HY.out⟩
set_option maxRecDepth 100000 in
set_option maxHeartbeats 8000000 in
theorem SortT (g c : Nat) (xs : List Nat) (w : World) (h : A16 w g xs w) (hx : ∀ x ∈ xs, x < 65536) (hc : xs.length ≤ c) (h1 : 1 ≤ xs.length) (hn : xs.length ≤ 12) :
    Calls Tryz.prog 126 #[.slice (some ⟨g, 0, none⟩) xs.length c] w fun e w' => e = .returned (.tuple #[]) ∧ ∃ ys, ys.Pairwise (· ≤ ·) ∧ ys.Perm xs ∧ A16 w g ys w' := by
  have hLen : ∀ w, Calls Tryz.prog 119 #[.int .u64 (xs.length : Int)] w fun e w' => e = .returned (.int .i64 (Go.Sort.bitsLen xs.length : Nat)) ∧ w' = w := fun w => by
    have h := Go.Proofs.Any.bits_Len (Go.Proofs.SlLaysF0.n15.bits (P := Tryz.prog) (ρ := Tryz.sortB_ren) { Tryz.sortB with }) (xs.length : Int) w (by omega) (by omega)
    rwa [Int.toNat_natCast, Go.Proofs.bitLen_eq _ (by omega)] at h
  have hq := Lib.hid fun l => pdqT g c l xs w h hx hc h1 hn
  have HL := Lib.hid hLen
  clear hLen h hx
  go_enter Tryz.func126, Tryz.ntmps126
  go_wp2_with fail
  refine (HL.out _).mono ?_
  rintro e w1 ⟨rfl, rfl⟩
  generalize Go.Sort.bitsLen xs.length = l at *
  go_wp2_with fail
  refine (hq.out _).mono ?_
  rintro e w2 ⟨rfl, hw2⟩
  have HH := Lib.hid hw2
  clear hw2
  go_wp2_with fail
  first | refine bodyPost_end (results_none rfl _ _ _) rfl ?_ | refine bodyPost_ret (results_none rfl _ _ _) rfl ?_
  exact ⟨rfl, HH.out⟩
/-- a row of numbers, put in order -/
theorem SortRow (B : Nat) (v : Value) (xs : List Nat) (w : World) (h : w.ownsRow B 24 1 v xs.length (xs.map u16V)) (hx : ∀ x ∈ xs, x < 65536) (h1 : 1 ≤ xs.length) (hn : xs.length ≤ 12) :
    Calls Tryz.prog 126 #[v] w fun e w' => e = .returned (.tuple #[]) ∧ ∃ ys : List Nat, ys.Pairwise (· ≤ ·) ∧ ys.Perm xs ∧ w'.ownsRow B 24 1 v xs.length (ys.map u16V) ∧ Kept (fun k => some k = v.ownBlock) w w' := by
  rcases h.2 with ⟨_, h0⟩ | ⟨g, cap, cur, rfl, hg, hh, hc1, hc2, hsz, htk⟩
  · omega
  · have hA : A16 w g xs w := ⟨Kept.refl _ _, cur, hh, by omega, fun i hi => by
      have : (cur.toList.take (xs.length * 1))[i]? = (xs.map u16V)[i]? := by rw [htk]
      rw [List.getElem?_take, if_pos (by omega)] at this
      rw [← Array.getElem?_toList, this]
      simp [hi], fun c0 e => by rw [hh] at e; cases e; rfl⟩
    refine (SortT g cap xs w hA hx hc1 h1 hn).mono ?_
    rintro e w' ⟨rfl, ys, h2, h3, h4, cs, h5, h6, h7, h8⟩
    have hl := h3.length_eq
    refine ⟨rfl, ys, h2, h3, ⟨by simp [hl], .inr ⟨g, cap, cs, rfl, hg, h5, hc1, hc2, by rw [h8 cur hh]; exact hsz, ?_⟩⟩, h4.mono (fun k _ e => by rw [e]; rfl)⟩
    apply List.ext_getElem?
    intro i
    rw [List.getElem?_take]
    by_cases hi : i < xs.length * 1
    · rw [if_pos hi, Array.getElem?_toList, h7 i (by omega)]
      simp [show i < ys.length by omega]
    · rw [if_neg hi, List.getElem?_eq_none (by simp; omega)]
end Nm
end Go.Proofs.YtkeimgamjnpcbaaGreat

/- Contracts of package zone: Types, of a name at which twelve types stand at most. -/
namespace Go.Proofs.YtkeimgamjnpcbaaGreat
open Go.RowKit
set_option linter.unusedVariables false
set_option linter.unusedSimpArgs false
namespace Nm
theorem CollectG (Bm b nn : Nat) (D : DataW Unit) (ts : List Int) (hst : Rng key16 ts [] ts (Maps.has D)) (hsz : Maps.size D = ts.length) (w : World) (hBm : Bm < w.heap.size) (hm : w.cell? ⟨Bm, 0, none⟩ = some (.map (some b))) (hown : w.ownsMap Tryz.prog 24 ptrR b nn D) (hlen : ts.length ≤ 1000000) :
    Calls Tryz.prog 125 #[.func (.func 127) #[] #[.pointer (some ⟨Bm, 0, none⟩)]] w fun e W' => ∃ v ss, e = .returned v ∧ ss.Perm ts ∧ W'.ownsRow w.heap.size 24 1 v ss.length (ss.map (Value.int .u16)) ∧ (v = .slice none 0 0 ↔ ss = []) ∧ Below w.heap.size w W' := by
  have H := Lib.hid (AppendSeqG Bm b nn D ts hst hsz w hBm hm hown hlen)
  clear hown hm hst hsz
  go_enter Tryz.func125, Tryz.ntmps125
  go_wp2_with fail
  refine H.out.mono ?_
  rintro e w2 ⟨v, ss, rfl, hp, ho, hnil, hb⟩
  have HH := Lib.hid ho
  clear ho
  go_wp2_with fail
  go_ret
  exact ⟨_, ss, rfl, hp, HH.out, hnil, hb⟩
set_option maxRecDepth 100000 in
set_option maxHeartbeats 1000000 in
theorem SortedG (Bm b nn : Nat) (D : DataW Unit) (ts : List Int) (hst : Rng key16 ts [] ts (Maps.has D)) (hsz : Maps.size D = ts.length) (w : World) (hBm : Bm < w.heap.size) (hm : w.cell? ⟨Bm, 0, none⟩ = some (.map (some b))) (hown : w.ownsMap Tryz.prog 24 ptrR b nn D) (hlen : ts.length ≤ 1000000) (ht : ∀ t ∈ ts, 0 ≤ t ∧ t < 65536) (h1 : 1 ≤ ts.length) (h12 : ts.length ≤ 12) :
    Calls Tryz.prog 89 #[.func (.func 127) #[] #[.pointer (some ⟨Bm, 0, none⟩)]] w fun e W' => ∃ v, ∃ ys : List Nat, e = .returned v ∧ ys.Pairwise (· ≤ ·) ∧ (ys.map fun y : Nat => (y : Int)).Perm ts ∧ W'.ownsRow w.heap.size 24 1 v ys.length (ys.map u16V) ∧ Below w.heap.size w W' := by
  have H := Lib.hid (CollectG Bm b nn D ts hst hsz w hBm hm hown hlen)
  clear hown hm hst hsz
  go_enter Tryz.func89, Tryz.ntmps89
  go_wp2_with fail
  refine H.out.mono ?_
  rintro e w2 ⟨v, ss, rfl, hp, ho, hnil, hb⟩
  have hpl := hp.length_eq
  obtain ⟨A, c, rfl, _⟩ := own_form ho
  have hmap : ss.map (Value.int .u16) = (ss.map Int.toNat).map u16V := by
    rw [List.map_map]
    refine List.map_congr_left fun x hx => ?_
    have := ht x (hp.mem_iff.1 hx)
    show Value.int .u16 x = Value.int .u16 ((x.toNat : Nat) : Int)
    congr 1
    omega
  have hxl : (ss.map Int.toNat).length = ss.length := by simp
  rw [hmap, ← hxl] at ho
  have hback : (ss.map Int.toNat).map (fun y : Nat => (y : Int)) = ss := by
    rw [List.map_map]
    conv => rhs; rw [← List.map_id ss]
    refine List.map_congr_left fun x hx => ?_
    have := ht x (hp.mem_iff.1 hx)
    show ((x.toNat : Nat) : Int) = x
    omega
  have HS := Lib.hid (SortRow w.heap.size (.slice A ss.length c) (ss.map Int.toNat) w2 (by rw [hxl]; rw [hxl] at ho; exact ho) (fun x hx => by
    obtain ⟨y, hy, rfl⟩ := List.mem_map.1 hx
    have := ht y (hp.mem_iff.1 hy)
    omega) (by omega) (by omega))
  have HB := Lib.hid (And.intro hback hxl)
  have HBL : Hid (∀ b, (Value.slice A ss.length c).ownBlock = some b → w.heap.size ≤ b) := Lib.hid fun b e => by
    rw [hxl] at ho
    exact (ho.lt b e).1
  clear ho hmap hback hxl hnil hpl
  go_wp2_with fail
  refine HS.out.mono ?_
  rintro e w3 ⟨rfl, ys, hy1, hy2, hy3, hk3⟩
  have HH := Lib.hid (And.intro hy1 (And.intro hy2 hy3))
  clear hy1 hy2 hy3
  go_wp2_with fail
  go_ret
  obtain ⟨hy1, hy2, hy3⟩ := HH.out
  refine ⟨_, ys, rfl, hy1, ?_, ?_, hb.trans (hk3.below hb.size (fun k hk e => by have := HBL.out k e.symm; omega))⟩
  · have := hy2.map (fun y : Nat => (y : Int))
    rw [HB.out.1] at this
    exact this.trans hp
  · rw [hy2.length_eq]
    exact hy3
set_option maxRecDepth 100000 in
set_option maxHeartbeats 20000000 in
theorem ZTypesG (w : World) (B z bn bb : Nat) (ap : List Lab) (P : List Nq) (Q : List Sq) (N : Nat) (h : ZG w B z bn bb ap P Q N) (hw : Wf ap P Q) (p : Nq) (hp : p ∈ P) (h12 : (setsOf Q p.n).length ≤ 12) (An : Option Addr) (m : List Lab) (cn : Nat) (hAn : Cs w An (m.map strV)) (hm : Small m) (hmn : zkey m = zkey p.n) :
    Calls Tryz.prog 50 #[.pointer (some ⟨z, 0, none⟩), .slice An m.length cn] w fun e w' => ∃ v, ∃ ys : List Nat, e = .returned v ∧ ys.Pairwise (· ≤ ·) ∧ (ys.map fun y : Nat => (y : Int)).Perm ((setsOf Q p.n).map (·.t)) ∧ w'.ownsRow w.heap.size 24 1 v ys.length (ys.map u16V) ∧ Below w.heap.size w w' := by
  obtain ⟨D, hz1, hz2⟩ := h.zn
  obtain ⟨D2, hn1, hn2⟩ := h.nd p hp
  obtain ⟨Aa, ca, hzb, hza⟩ := hz1.blk
  obtain ⟨z0, z1, z2, z3, _⟩ := cells4 hzb
  have hzl := lt_block hzb
  obtain ⟨An2, cn2, hxb, hxn⟩ := hn1.node
  have hxl := lt_block hxb
  obtain ⟨x0, x1, _⟩ := cells2 hxb
  have HK : Hid (∀ W, Below w.heap.size w W → Calls Tryz.prog 71 #[.slice An m.length cn] W fun e w' => e = .returned (strV (zkey m)) ∧ Below W.heap.size W w') := Lib.hid fun W hW => ZKey An m cn W (hAn.below hW) hm
  have HL : Hid (∀ W, Below w.heap.size w W → (Instr.lookup 97 (.map (some bn)) (strV (zkey m)) false).run Tryz.prog W = .ok (.pointer (some ⟨p.x, 0, none⟩)) W) := Lib.hid fun W hW => look_ptr (hz1.ext hW).nodes keyS Tryz.underlying97 rfl (keyOf_str _ (zkey_len hm)) (o := some p.x) (by rw [hmn]; exact hz2.at_mem hw.apartP (key_lit _) (List.mem_map.2 ⟨p, hp, rfl⟩) _)
  have HS : Hid (∀ W, Below w.heap.size w W → W.ownsMap Tryz.prog 24 ptrR p.bs N D2) := Lib.hid fun W hW => hn1.sets.kept (row := none) ⟨hW.os, hW.tape, hW.output, hW.size, fun k hk _ => hW.block k hk⟩ (by simp)
  obtain ⟨q0, hq0, hq0n⟩ := hw.has p hp
  have HT : Hid (Rng key16 ((setsOf Q p.n).map (·.t)) [] ((setsOf Q p.n).map (·.t)) (Maps.has D2) ∧ Maps.size D2 = ((setsOf Q p.n).map (·.t)).length ∧ (∀ t ∈ (setsOf Q p.n).map (·.t), 0 ≤ t ∧ t < 65536) ∧ 1 ≤ ((setsOf Q p.n).map (·.t)).length ∧ ((setsOf Q p.n).map (·.t)).length ≤ 12) := Lib.hid (by
    refine ⟨?_, ?_, fun t ht => ?_, ?_, by simpa using h12⟩
    · have hr := Rng.start (key := fun q : Sq => key16 q.t) (fun q => rfl) hn2 (hw.apartQ p.n) (fun q _ => key_int _ _)
      refine ⟨List.Perm.refl _, ?_, ?_, fun t _ => key_int _ _⟩
      · have := hr.left
        rw [List.map_map]
        exact this
      · have := hr.nd
        rw [List.nil_append] at this ⊢
        rw [List.map_map]
        exact this
    · rw [hn2.size]; simp
    · obtain ⟨q, hq, rfl⟩ := List.mem_map.1 ht
      have := hw.wt q (mem_setsOf.1 hq).1
      simp [Lit.wf, IntKind.min, IntKind.max, IntKind.signed, IntKind.bits] at this
      omega
    · rw [List.length_map]
      exact List.length_pos_of_mem (mem_setsOf.2 ⟨hq0, hq0n⟩))
  generalize hts : (setsOf Q p.n).map (·.t) = ts at *
  generalize p.x = x at *
  generalize p.bs = bs at *
  clear h hAn hzb hza hxb hxn hz1 hz2 hn1 hn2 hw
  go_enter Tryz.func50, Tryz.ntmps50
  go_wp2_with fail
  refine wp_region_mono mixed0 (by kernel_rfl) [.is (.pointer (some ⟨z, 0, none⟩)), .is (.pointer (some ⟨z, 0, none⟩)), .is (.pointer (some ⟨z, 1, none⟩)), .is (.map (some bn)), .is (.slice An m.length cn), .is (strV (zkey m)), .is (.pointer (some ⟨x, 0, none⟩)), .is (.pointer (some ⟨x, 0, none⟩))] rfl ?_ ?_
  · intro i q hio vals W hE haf
    have e1 := (bcl (o := 1) hE hzl).trans z1
    have hl := HL.out W hE
    rcases i with _ | _ | _ | _ | _ | _ | _ | _ | i
    all_goals first
      | (exfalso; simp at hio; done)
      | (simp at hio; subst hio; simp [bindD, rdB, Region.binds, factAt] at haf; simp [opYield_def, yieldUpon, relAct, dstAt, Act.put, Region.wanted, go_sem, haf, e1, hl, Ext.refl, factAt]; done)
      | skip
    all_goals
      simp at hio
      subst hio
      simp [bindD, rdB, Region.binds, factAt] at haf
    · simp [opYield_def, yieldUpon, relAct, dstAt, Act.put, Region.wanted, go_sem, haf, factAt]
      refine (HK.out W hE).mono fun e W' h => ?_
      exact ⟨h.1, h.2⟩
  · intro vals W hE hF
    have hE : Below w.heap.size w W := hE
    simp only [facts] at hF
    obtain ⟨_, _, _, _, _, _, _, h7, _⟩ := hF
    have e7 : vals 7 = .pointer (some ⟨x, 0, none⟩) := h7
    simp [relAct, dstAt, Act.put]
    rw [e7]
    clear e7 h7
    have q1 := (bcl (o := 1) hE hxl).trans x1
    have hs0 := hE.size
    have HW := Lib.hid (HS.out W hE)
    go_wp2_with fail
    refine (KeysT bs W).mono ?_
    rintro e w2 ⟨rfl, rfl⟩
    have hb2 : Below W.heap.size W (W.alloc (.cells #[.map (some bs)] 113)) := (Below.refl _ _).alloc (Nat.le_refl _) _
    obtain ⟨ht1, ht2, ht3, ht4, ht5⟩ := HT.out
    have hS := SortedG W.heap.size bs N D2 ts ht1 ht2 (W.alloc (.cells #[.map (some bs)] 113)) (by simp) (by rw [cell_of_row _ _ 0 _ _ _ (heap_alloc_new W _)]; rfl) (HW.out.alloc _) (by omega) ht3 ht4 ht5
    have HSo := Lib.hid hS
    clear hS
    go_wp2_with fail
    refine HSo.out.mono ?_
    rintro e w3 ⟨v3, ys, rfl, hy1, hy2, ho3, hb3⟩
    have HO := Lib.hid ho3
    have HY := Lib.hid (And.intro hy1 hy2)
    clear ho3 hy1 hy2 ht1 ht2 ht3
    go_wp2_with fail
    go_ret
    exact ⟨_, ys, rfl, HY.out.1, HY.out.2, own_base HO.out (Nat.le_trans hs0 hb2.size), (hE.trans (hb2.mono hs0)).trans (hb3.mono (Nat.le_trans hs0 hb2.size))⟩
end Nm
end Go.Proofs.YtkeimgamjnpcbaaGreat

/- A zone of any records: what it is behind one step. -/
namespace Go.Proofs.YtkeimgamjnpcbaaGreat
open Go.RowKit
set_option linter.unusedVariables false
set_option linter.unusedSimpArgs false
namespace Nm
def updS (Q : List Sq) (s : Nat) (q2 : Sq) : List Sq := Q.map fun r => if r.s = s then q2 else r
theorem mem_updS {Q : List Sq} {s : Nat} {q2 r : Sq} (h : r ∈ updS Q s q2) : r = q2 ∨ (r ∈ Q ∧ r.s ≠ s) := by
  obtain ⟨x, hx, he⟩ := List.mem_map.1 h
  split at he
  · exact .inl he.symm
  · subst he; exact .inr ⟨hx, by assumption⟩
theorem uniq_s {Q : List Sq} (h : (Q.map (·.s)).Nodup) {a b : Sq} (ha : a ∈ Q) (hb : b ∈ Q) (e : a.s = b.s) : a = b := by
  induction Q with
  | nil => cases ha
  | cons q Q ih =>
    rw [List.map_cons, List.nodup_cons] at h
    rcases List.mem_cons.1 ha with e1 | ha'
    · rcases List.mem_cons.1 hb with e2 | hb'
      · rw [e1, e2]
      · exact absurd (List.mem_map.2 ⟨b, hb', by rw [← e1]; exact e.symm⟩) h.1
    · rcases List.mem_cons.1 hb with e2 | hb'
      · exact absurd (List.mem_map.2 ⟨a, ha', by rw [← e2]; exact e⟩) h.1
      · exact ih h.2 ha' hb'
theorem total_updS {Q : List Sq} (h : (Q.map (·.s)).Nodup) {q q2 : Sq} (hq : q ∈ Q) : total (updS Q q.s q2) + q.ds.length = total Q + q2.ds.length := by
  induction Q with
  | nil => cases hq
  | cons r Q ih =>
    rw [List.map_cons, List.nodup_cons] at h
    have e1 : ∀ (r : Sq) (Q : List Sq), total (r :: Q) = r.ds.length + total Q := fun r Q => by simp [total]
    have e2 : updS (r :: Q) q.s q2 = (if r.s = q.s then q2 else r) :: updS Q q.s q2 := rfl
    rw [e2, e1, e1]
    by_cases he : r.s = q.s
    · rw [if_pos he]
      have hr : r = q := by
        rcases List.mem_cons.1 hq with rfl | hq
        · rfl
        · exact absurd (List.mem_map.2 ⟨q, hq, he.symm⟩) h.1
      subst hr
      have : updS Q r.s q2 = Q := by
        unfold updS
        conv => rhs; rw [← List.map_id Q]
        refine List.map_congr_left fun x hx => ?_
        rw [if_neg (fun e => h.1 (List.mem_map.2 ⟨x, hx, e⟩))]
        rfl
      rw [this]
      omega
    · rw [if_neg he]
      rcases List.mem_cons.1 hq with rfl | hq
      · exact absurd rfl he
      · have := ih h.2 hq
        omega
theorem ent_updS {Q : List Sq} (h : (Q.map (·.s)).Nodup) {q q2 : Sq} (hq : q ∈ Q) (hn : q2.n = q.n) (ht : q2.t = q.t) (hs : q2.s = q.s) (n : List Lab) : (setsOf (updS Q q.s q2) n).map Sq.ent = (setsOf Q n).map Sq.ent := by
  have hu : ∀ x ∈ Q, x.s = q.s → x = q := fun x hx e => uniq_s h hx hq e
  clear h hq
  induction Q with
  | nil => rfl
  | cons r Q ih =>
    have e2 : updS (r :: Q) q.s q2 = (if r.s = q.s then q2 else r) :: updS Q q.s q2 := rfl
    have ih := ih (fun x hx => hu x (by simp [hx]))
    unfold setsOf at ih ⊢
    rw [e2, List.filter_cons, List.filter_cons]
    by_cases he : r.s = q.s
    · have := hu r (by simp) he
      subst this
      rw [if_pos rfl, hn]
      split
      · rw [List.map_cons, List.map_cons, ih]
        congr 1
        unfold Sq.ent
        rw [ht, hs]
      · exact ih
    · rw [if_neg he]
      split
      · rw [List.map_cons, List.map_cons, ih]
      · exact ih
theorem s_updS (Q : List Sq) {q q2 : Sq} (hs : q2.s = q.s) : (updS Q q.s q2).map (·.s) = Q.map (·.s) := by
  unfold updS
  rw [List.map_map]
  refine List.map_congr_left fun x _ => ?_
  show (if x.s = q.s then q2 else x).s = x.s
  split
  · rw [hs]; exact Eq.symm (by assumption)
  · rfl
section
variable {w w' : World} {B z bn bb : Nat} {ap : List Lab} {P : List Nq} {Q : List Sq} {N : Nat}
theorem ZG.bs_ne (h : ZG w B z bn bb ap P Q N) {p : Nq} (hp : p ∈ P) : p.bs ≠ bn ∧ p.bs ≠ bb := by
  have := h.dbs
  rw [List.nodup_cons, List.nodup_cons] at this
  exact ⟨fun e => this.1 (by rw [← e]; exact List.mem_cons_of_mem _ (List.mem_map.2 ⟨p, hp, rfl⟩)), fun e => this.2.1 (by rw [← e]; exact List.mem_map.2 ⟨p, hp, rfl⟩)⟩
theorem dv_of {Q : List Sq} (h : Q.Pairwise fun a b => ∀ k, a.v.ownBlock = some k → b.v.ownBlock ≠ some k) {a b : Sq} (ha : a ∈ Q) (hb : b ∈ Q) (hne : a ≠ b) {k : Nat} (h1 : a.v.ownBlock = some k) (h2 : b.v.ownBlock = some k) : False := by
  induction Q with
  | nil => cases ha
  | cons q Q ih =>
    obtain ⟨g1, g2⟩ := List.pairwise_cons.1 h
    rcases List.mem_cons.1 ha with e1 | ha'
    · rcases List.mem_cons.1 hb with e2 | hb'
      · exact hne (by rw [e1, e2])
      · exact g1 b hb' k (by rw [← e1]; exact h1) h2
    · rcases List.mem_cons.1 hb with e2 | hb'
      · exact g1 a ha' k (by rw [← e2]; exact h2) h1
      · exact ih g2 ha' hb'
/-- a zone and one of its sets -/
theorem ZG.foc (h : ZG w B z bn bb ap P Q N) (hw : Wf ap P Q) {p : Nq} {q : Sq} (hp : p ∈ P) (hq : q ∈ Q) (hpq : p.n = q.n) {n : List Lab} (hn : lower n = p.n) :
    ∃ D D2, Foc w B z bn bb p.x p.bs q.s ap n q.t q.ttl q.v q.ds (total Q) D D2 (cntP ap P) N N ∧ Ents D (P.map Nq.ent) ∧ Ents D2 ((setsOf Q p.n).map Sq.ent) := by
  obtain ⟨D, h1, h2⟩ := h.zn
  obtain ⟨D2, h3, h4⟩ := h.nd p hp
  have h5 := h.sd q hq
  obtain ⟨A, c, g1, g2⟩ := h3.node
  have hnl : p.n.length = n.length := by rw [← hn, lower_len]
  have hlo : lower p.n = lower n := by rw [← hn, lower_idem]
  rw [hnl, hlo] at g2
  rw [hnl] at g1
  obtain ⟨b1, b2⟩ := h.bs_ne hp
  refine ⟨D, D2, ⟨h1, ⟨⟨A, c, g1, g2⟩, h3.sets, h5.set, h5.row, h5.dat, h3.h1, h5.h2⟩, b1, b2, ?_, ?_⟩, h2, h4⟩
  · refine h2.at_mem hw.apartP (key_lit _) (List.mem_map.2 ⟨p, hp, ?_⟩) _
    unfold Nq.ent
    rw [← hn, zkey_low]
    rfl
  · exact h4.at_mem (hw.apartQ p.n) (key_int _ _) (List.mem_map.2 ⟨q, mem_setsOf.2 ⟨hq, hpq.symm⟩, rfl⟩) _
/-- one set is laid anew -/
theorem ZG.upd (h : ZG w B z bn bb ap P Q N) {q q2 : Sq} (hq : q ∈ Q) (hn : q2.n = q.n) (ht : q2.t = q.t) (hs : q2.s = q.s) {S : Nat → Prop} (hk : Kept S w w') (hS : ∀ k, S k → k = z ∨ k = q.s ∨ some k = q.v.ownBlock)
    {D : DataW Unit} {c : Int} (hD : Ents D (P.map Nq.ent)) (hzn : Zn w' B z bn bb ap c D (cntP ap P) N) (hc : c + (q.ds.length : Int) = total Q + q2.ds.length) (hsd : SdG w' B q2.s q2.ttl q2.v q2.ds)
    (hat : ∀ k, q2.v.ownBlock = some k → some k = q.v.ownBlock ∨ w.heap.size ≤ k) :
    ZG w' B z bn bb ap P (updS Q q.s q2) N ∧ (∀ k, zblk z bn bb P (updS Q q.s q2) k → zblk z bn bb P Q k ∨ w.heap.size ≤ k) := by
  obtain ⟨D0, h1, _⟩ := h.zn
  obtain ⟨A, ca, g1, _⟩ := h1.blk
  have hq0 := h.sd q hq
  have hZ : Zonal S w := fun k e => h.zonal k (by
    rcases hS k e with e | e | e
    · exact .inl e
    · exact .inr (.inr (.inr (.inr ⟨q, hq, .inl e⟩)))
    · exact .inr (.inr (.inr (.inr ⟨q, hq, .inr e⟩))))
  have htot := total_updS h.ds hq (q2 := q2)
  have hmapS : ∀ {k : TypeId} {R : Value → Option (DataW Unit × List MemPlace)} {b n : Nat} {D : DataW Unit}, w.ownsMap Tryz.prog k R b n D → ¬ S b := fun hm e => by
    rcases hS _ e with rfl | rfl | e
    · exact ne_map hm g1 rfl
    · exact ne_map hm hq0.set rfl
    · obtain ⟨cs, e1, _⟩ := row_block hq0.row e.symm
      exact ne_map hm e1 rfl
  have hsdS : ∀ r ∈ Q, r.s ≠ q.s → ¬ S r.s ∧ ∀ b, r.v.ownBlock = some b → ¬ S b := by
    intro r hr hne
    have hr0 := h.sd r hr
    constructor
    · intro e
      rcases hS _ e with e | e | e
      · exact ne_cells hr0.set g1 (by decide) e
      · exact hne e
      · obtain ⟨cs, e1, _⟩ := row_block hq0.row e.symm
        exact ne_cells hr0.set e1 (by decide) rfl
    · intro b hb e
      obtain ⟨cs, e1, _⟩ := row_block hr0.row hb
      rcases hS _ e with e | e | e
      · exact ne_cells e1 g1 (by decide) e
      · exact ne_cells e1 hq0.set (by decide) e
      · exact dv_of h.dv hr hq (fun e2 => hne (by rw [e2])) hb e.symm
  refine ⟨⟨⟨D, ?_, hD⟩, fun p hp => ?_, fun r hr => ?_, h.dbs, by rw [s_updS Q hs]; exact h.ds, ?_⟩, ?_⟩
  · have : ((total (updS Q q.s q2) : Nat) : Int) = c := by omega
    rw [this]
    exact hzn
  · obtain ⟨D2, h3, h4⟩ := h.nd p hp
    refine ⟨D2, h3.kept hk hZ (hmapS h3.sets), ?_⟩
    rw [ent_updS h.ds hq hn ht hs]
    exact h4
  · rcases mem_updS hr with rfl | ⟨hr, hne⟩
    · exact hsd
    · exact (h.sd r hr).kept hk hZ (hsdS r hr hne).1 (hsdS r hr hne).2
  · have hds := h.ds
    have hdv := h.dv
    have hlt : ∀ r ∈ Q, ∀ k, r.v.ownBlock = some k → k < w.heap.size := fun r hr k e => ((h.sd r hr).row.lt k e).2
    have hu : ∀ x ∈ Q, x.s = q.s → x = q := fun x hx e => uniq_s h.ds hx hq e
    clear hsdS hmapS htot hsd hzn hD hc h h1 g1 hq0 hk hZ hS
    unfold updS
    rw [List.pairwise_map]
    refine List.Pairwise.imp_of_mem ?_ (hdv.and (List.pairwise_map.1 hds))
    intro a b ha hb hab k
    obtain ⟨hab1, hab2⟩ := hab
    by_cases ea : a.s = q.s
    · rw [if_pos ea]
      have := hu a ha ea
      subst this
      rw [if_neg (fun e => hab2 (by rw [e]))]
      intro h1 h2
      rcases hat k h1 with e | e
      · exact hab1 k e.symm h2
      · have := hlt b hb k h2; omega
    · rw [if_neg ea]
      by_cases eb : b.s = q.s
      · rw [if_pos eb]
        have := hu b hb eb
        subst this
        intro h1 h2
        rcases hat k h2 with e | e
        · exact hab1 k h1 e.symm
        · have := hlt a ha k h1; omega
      · rw [if_neg eb]
        exact hab1 k
  · rintro k (e | e | e | ⟨p, hp, e⟩ | ⟨r, hr, e⟩)
    · exact .inl (.inl e)
    · exact .inl (.inr (.inl e))
    · exact .inl (.inr (.inr (.inl e)))
    · exact .inl (.inr (.inr (.inr (.inl ⟨p, hp, e⟩))))
    · rcases mem_updS hr with rfl | ⟨hr, hne⟩
      · rcases e with e | e
        · exact .inl (.inr (.inr (.inr (.inr ⟨q, hq, .inl (by rw [e, hs])⟩))))
        · rcases hat k e.symm with e | e
          · exact .inl (.inr (.inr (.inr (.inr ⟨q, hq, .inr e⟩))))
          · exact .inr e
      · exact .inl (.inr (.inr (.inr (.inr ⟨r, hr, e⟩))))
end
end Nm
end Go.Proofs.YtkeimgamjnpcbaaGreat

/- Contracts of package zone: Set, in any zone. -/
namespace Go.Proofs.YtkeimgamjnpcbaaGreat
open Go.RowKit
set_option linter.unusedVariables false
set_option linter.unusedSimpArgs false
namespace Nm
def SetG (g N1 N0 NB nl : Nat) (nms : List Value) (NM T4 L4 : Value) (ds : List (Blob × Blob)) (w : World) (i : Value) (wr : World) : Prop :=
  ∃ (j : Nat) (A : Option Addr) (c : Nat) (bs : List Blob), j ≤ ds.length ∧ i = .int .i64 j ∧ wr.heap[g]? = some (.cells #[NM, T4, L4, .slice A j c] 28 (0, 0)) ∧ wr.ownsRow N1 31 1 (.slice A j c) j (bs.map Blob.v) ∧ (∀ b, (Value.slice A j c).ownBlock = some b → b ≠ g) ∧ Below N0 w wr ∧ bs.map (·.l) = (ds.take j).map (·.1.l) ∧ (∀ y ∈ bs, BlobOwn wr N1 y) ∧ wr.ownsRow NB 9 1 NM nl nms
theorem blob_block {w : World} {B : Nat} {b : Blob} (h : BlobOwn w B b) {k : Nat} (hk : b.v.ownBlock = some k) : ∃ cs, w.heap[k]? = some (.cells cs 5 (0, 0)) ∧ B ≤ k := row_block h hk
set_option maxRecDepth 100000 in
set_option maxHeartbeats 20000000 in
theorem ZSetG (w : World) (B z bn bb x bs s : Nat) (ap n : List Lab) (t ttl : Int) (v : Value) (ds : List (Blob × Blob)) (cz : Int) (D D2 : DataW Unit) (f : Lab → Int) (N N2 : Nat) (h : Foc w B z bn bb x bs s ap n t ttl v ds cz D D2 f N N2) (An : Option Addr) (cn : Nat) (hAn : Cs w An (n.map strV)) (hn : Small n) (hwt : (Lit.int .u16 t).wf = true)
    (hds : ds.length ≤ 100000) (hdl : ∀ d ∈ ds, d.1.l.length ≤ 100000) :
    Calls Tryz.prog 28 #[.pointer (some ⟨z, 0, none⟩), .slice An n.length cn, .int .u16 t] w fun e w' => Below w.heap.size w w' ∧ ∃ Am cm Ad cd, ∃ bl : List Blob, e = .returned (.tuple #[.agg #[.slice Am n.length cm, .int .u16 t, .int .u32 ttl, .slice Ad ds.length cd], .bool true]) ∧ w'.ownsRow w.heap.size 9 1 (.slice Am n.length cm) n.length ((lower n).map strV) ∧ w'.ownsRow w.heap.size 31 1 (.slice Ad ds.length cd) ds.length (bl.map Blob.v) ∧ bl.map (·.l) = ds.map (·.1.l) ∧ ∀ y ∈ bl, BlobOwn w' w.heap.size y := by
  obtain ⟨i0, hi, hz0, hz1, hz2⟩ := info_parts info_bytes
  have hsv : ∃ A c, v = .slice A ds.length c := by
    obtain ⟨A, c, hv, _⟩ := own_form h.st.row
    exact ⟨A, c, hv⟩
  obtain ⟨Av, cv, rfl⟩ := hsv
  have hsl := lt_block h.st.set
  obtain ⟨s0, s1, _⟩ := cells2 h.st.set
  obtain ⟨An2, cn2, hxb, hxn⟩ := h.st.node
  have hxl := lt_block hxb
  obtain ⟨x0, x1, _⟩ := cells2 hxb
  obtain ⟨Aa, ca, hzb, hza⟩ := h.zn.blk
  have hzl := lt_block hzb
  obtain ⟨z0, z1, z2, z3, _⟩ := cells4 hzb
  have HAt : Hid (∀ W, Below w.heap.size w W → Calls Tryz.prog 69 #[.pointer (some ⟨z, 0, none⟩), .slice An n.length cn, .int .u16 t] W fun e w' => e = .returned (.pointer (some ⟨s, 0, none⟩)) ∧ Below W.heap.size W w') := Lib.hid fun W hW => by
    have hOW := h.ext hW
    have := ZAt z bn An n cn t N N2 D D2 (some x) (some s) W ((bcl (o := 1) hW hzl).trans z1) (Nat.lt_of_lt_of_le hzl hW.size) hOW.zn.nodes (hAn.below hW) hn hwt hOW.hD (fun x' hx' => by
      cases hx'
      exact ⟨Nat.lt_of_lt_of_le hxl hW.size, bs, (bcl (o := 1) hW hxl).trans x1, hOW.st.sets, hOW.hD2⟩)
    exact this
  have HLo : Hid (∀ W, Below w.heap.size w W → Calls Tryz.prog 59 #[.slice An n.length cn] W fun e w' => ∃ v, e = .returned v ∧ w'.ownsRow W.heap.size 9 1 v n.length ((lower n).map strV) ∧ Below W.heap.size W w') := Lib.hid fun W hW => Lower An n cn W (hAn.below hW) hn.few
  have HROW := Lib.hid (cs_own2 h.st.row)
  have HDAT := Lib.hid h.st.dat
  have HDL := Lib.hid hdl
  have hb1 : Below w.heap.size w (w.alloc (.cells #[.slice none 0 0, .int .u16 0, .int .u32 0, .slice none 0 0] 28)) := (Below.refl _ _).alloc (Nat.le_refl _) _
  have hR1 := heap_alloc_new w (.cells #[.slice none 0 0, .int .u16 0, .int .u32 0, .slice none 0 0] 28)
  have hsz1 : (w.alloc (.cells #[.slice none 0 0, .int .u16 0, .int .u32 0, .slice none 0 0] 28)).heap.size = w.heap.size + 1 := by simp
  clear h hAn hza hxn
  go_enter Tryz.func28, Tryz.ntmps28
  go_wp2_with fail
  generalize w.alloc (.cells #[.slice none 0 0, .int .u16 0, .int .u32 0, .slice none 0 0] 28) = w1 at *
  refine (HAt.out w1 hb1).mono ?_
  rintro e w2 ⟨rfl, hb2⟩
  have hE2 := hb1.trans (hb2.mono hb1.size)
  have hR2 := (hb2.block _ (lt_block hR1)).trans hR1
  have hsz2 := hb2.size
  clear hb2 hR1 hb1 hxb hzb
  go_wp2_with fail
  refine wp_region_dep mixed0 (by kernel_rfl) (fun i j => i == 9 && j == 8) (by kernel_rfl)
    (fun i W W' => if i = 9 then ∃ g, w2.heap.size ≤ g ∧ Kept (fun k => k = g) W W' ∧ ∃ cs, W.heap[g]? = some (.cells cs 28 (0, 0)) else Ext W W')
    (fun W => Below w2.heap.size w2 W)
    (fun i vals W => match i with
      | 0 => vals 0 = .slice An n.length cn
      | 1 => ∃ A c, vals 1 = .slice A n.length c ∧ W.ownsRow w2.heap.size 9 1 (.slice A n.length c) n.length ((lower n).map strV)
      | 2 => vals 2 = .int .u16 t
      | 3 => vals 3 = .pointer (some ⟨s, 0, none⟩)
      | 4 => vals 4 = .pointer (some ⟨s, 0, none⟩)
      | 5 => vals 5 = .pointer (some ⟨s, 0, none⟩)
      | 6 => vals 6 = .int .u32 ttl
      | 7 => ∃ A c, vals 7 = .agg #[.slice A n.length c, .int .u16 t, .int .u32 ttl, .slice none 0 0] ∧ W.ownsRow w2.heap.size 9 1 (.slice A n.length c) n.length ((lower n).map strV)
      | 8 => ∃ g cs, vals 8 = .pointer (some ⟨g, 0, none⟩) ∧ w2.heap.size ≤ g ∧ W.heap[g]? = some (.cells cs 28 (0, 0)) ∧ cs.size = 4
      | 9 => ∃ g A c, vals 8 = .pointer (some ⟨g, 0, none⟩) ∧ w2.heap.size ≤ g ∧ W.heap[g]? = some (.cells #[.slice A n.length c, .int .u16 t, .int .u32 ttl, .slice none 0 0] 28 (0, 0)) ∧ W.ownsRow w2.heap.size 9 1 (.slice A n.length c) n.length ((lower n).map strV)
      | _ => True) ?_ (fun _ => True) (fun _ => false) trivial (fun _ _ _ _ _ _ _ => trivial) ?_ ?_ ?_ ?_ ?_
  · intro j vals i v W hij hw hR
    rcases j with _ | _ | _ | _ | _ | _ | _ | _ | _ | _ | j
    all_goals first
      | exact trivial
      | exact hR
      | (simpa [hij, Ne.symm hij] using hR)
      | skip
    have h8 : ¬ 8 = i := fun h => by
      subst h
      generalize hb : waitsB _ _ _ = b at hw
      have : b = true := by rw [← hb]; kernel_rfl
      rw [this] at hw
      cases hw
    simpa [h8] using hR
  · exact (Below.refl _ w2).drew
  · intro i W W' hC hT
    by_cases h9 : i = 9
    · simp only [h9, if_true] at hT
      obtain ⟨g, hg, hT, _⟩ := hT
      exact hC.trans (hT.below hC.size (fun k hk h => by omega))
    · simp only [h9, if_false] at hT
      exact hC.trans (Below.mono hT hC.size)
  · intro i j vals W W' hij hk hw hC hR hT
    by_cases h9 : i = 9
    · subst h9
      simp only [if_true] at hT
      obtain ⟨g', hg', hT, cs', hcs'⟩ := hT
      have hstr : ∀ {u : Value} {m : Nat} {xs : List Value}, W.ownsRow w2.heap.size 9 1 u m xs → W'.ownsRow w2.heap.size 9 1 u m xs := fun hr => Kept.row hr hT (fun k hkb e => by
        obtain ⟨cs, e1, _⟩ := row_block hr hkb
        exact ne_cells e1 hcs' (by decide) e)
      rcases j with _ | _ | _ | _ | _ | _ | _ | _ | _ | _ | j
      all_goals first
        | exact trivial
        | exact hR
        | (exfalso; exact hij rfl)
        | (cases hk; done)
        | skip
      · obtain ⟨A, c, h5, h6⟩ := hR
        exact ⟨A, c, h5, hstr h6⟩
      · obtain ⟨A, c, h5, h6⟩ := hR
        exact ⟨A, c, h5, hstr h6⟩
    · simp only [h9, if_false] at hT
      rcases j with _ | _ | _ | _ | _ | _ | _ | _ | _ | _ | j
      all_goals first
        | exact trivial
        | exact hR
        | skip
      · obtain ⟨A, c, h5, h6⟩ := hR
        exact ⟨A, c, h5, own_below h6 hT⟩
      · obtain ⟨A, c, h5, h6⟩ := hR
        exact ⟨A, c, h5, own_below h6 hT⟩
      · obtain ⟨g, cs, h5, h6, h7, h8⟩ := hR
        exact ⟨g, cs, h5, h6, (hT.block _ (lt_block h7)).trans h7, h8⟩
      · obtain ⟨g, A, c, h5, h6, h7, h8⟩ := hR
        exact ⟨g, A, c, h5, h6, (hT.block _ (lt_block h7)).trans h7, own_below h8 hT⟩
  · intro i o hio vals W hC haf _
    have e0 := (bcl (o := 0) (hE2.trans (hC.mono hE2.size)) hsl).trans s0
    rcases i with _ | _ | _ | _ | _ | _ | _ | _ | _ | _ | i
    all_goals first
      | (exfalso; simp at hio; done)
      | skip
    all_goals
      simp at hio
      subst hio
      simp [bindD, rdB, Region.binds] at haf
    all_goals first
      | (simp [opYield_def, yieldUpon, relAct, dstAt, Act.put, Region.wanted, go_sem, haf, e0, Ext.refl]; done)
      | skip
    · simp [opYield_def, yieldUpon, relAct, dstAt, Act.put, Region.wanted, go_sem, haf]
      refine (HLo.out W (hE2.trans (hC.mono hE2.size))).mono fun e W' h => ?_
      obtain ⟨v, he, ho, hb⟩ := h
      obtain ⟨A, c, hv, _⟩ := own_form ho
      subst hv
      exact ⟨_, he, hb, A, c, rfl, own_base ho hC.size⟩
    · obtain ⟨⟨A, c, h1, h1o⟩, h2, h6⟩ := haf
      simp [opYield_def, yieldUpon, relAct, dstAt, Act.put, Region.wanted, go_sem, h1, h2, h6, Ext.refl]
      exact ⟨A, c, ⟨rfl, rfl⟩, h1o⟩
    · simp [opYield_def, yieldUpon, relAct, dstAt, Act.put, Region.wanted, go_sem]
      exact ⟨(Below.refl _ _).alloc (Nat.le_refl _) _, hC.size, #[.slice none 0 0, .int .u16 0, .int .u32 0, .slice none 0 0], by simp only [World.alloc, Array.getElem_push_eq], rfl⟩
    · obtain ⟨⟨g, h8, hg, cs, h10, h11⟩, A, c, h7, h7o⟩ := haf
      refine yield_store (g := g) (cells := #[.slice A n.length c, .int .u16 t, .int .u32 ttl, .slice none 0 0]) rfl rfl (by simp [relAct, dstAt, Act.put, Act.eval, h8]) (by simp [relAct, dstAt, Act.put, Act.eval, h7]) h10 (by kernel_rfl) h11 (by simp [Value.oneCell']) ?_
      have hblk := setRow_block W g #[.slice A n.length c, .int .u16 t, .int .u32 ttl, .slice none 0 0] cs 28 (0, 0) h10
      have hgr := setRow_grown W g #[.slice A n.length c, .int .u16 t, .int .u32 ttl, .slice none 0 0]
      have hkg : Kept (fun k => k = g) W (W.setRow g #[.slice A n.length c, .int .u16 t, .int .u32 ttl, .slice none 0 0]) := (Kept.of_grown hgr).mono (fun k _ h => by cases h; rfl)
      exact ⟨⟨g, hg, hkg, cs, h10⟩, g, A, c, by simpa using h8, hg, hblk, Kept.row h7o hkg (fun k hkb e => by
        obtain ⟨cs', e1, _⟩ := row_block h7o hkb
        exact ne_cells e1 h10 (by decide) e)⟩
  · intro vals W hC hR
    have h9 := hR 9 (by show 9 < 10; omega) (fun i _ => by simp)
    obtain ⟨g, A4, c4, h8, hg, hgb, hnm⟩ := h9
    have HNM := Lib.hid hnm
    have hE3 := hE2.trans (hC.mono hE2.size)
    have hCs := hC.size
    have hR3 := (hC.block _ (lt_block hR2)).trans hR2
    have q1 := (bcl (o := 1) hE3 hsl).trans s1
    have hgl := lt_block hgb
    have hgw : w1.heap.size ≤ g := Nat.le_trans hsz2 hg
    simp [relAct, dstAt, Act.put]
    rw [h8]
    clear hR hC h8
    generalize vals 0 = p0 at *
    generalize vals 1 = p1 at *
    generalize vals 2 = p2 at *
    generalize vals 3 = p3 at *
    generalize vals 4 = p4 at *
    generalize vals 5 = p5 at *
    generalize vals 6 = p6 at *
    generalize vals 7 = p7 at *
    go_wp2_with fail
    have hst : SetG g W.heap.size w1.heap.size w2.heap.size n.length ((lower n).map strV) (.slice A4 n.length c4) (.int .u16 t) (.int .u32 ttl) ds W (.int .i64 0) W := ⟨0, none, 0, [], Nat.zero_le _, rfl, hgb, World.ownsRow_nil _ _ _ _, fun b e => by (cases e), Below.refl _ _, rfl, fun y hy => (by cases hy), hnm⟩
    have HST := Lib.hid hst
    have HSZ : Hid (w1.heap.size ≤ W.heap.size) := Lib.hid (Nat.le_trans hsz2 hCs)
    clear hst hgb hnm
    go_loopw [32] (SetG g W.heap.size w1.heap.size w2.heap.size n.length ((lower n).map strV) (.slice A4 n.length c4) (.int .u16 t) (.int .u32 ttl) ds W) (fun i _ => ds.length - (intOf i).toNat)
    case atStart => exact HST.out
    case round =>
      obtain ⟨j, Aj, cj, bl, hj, rfl, hgb, hown, hnb, hbel, hsl2, hsx, hnr⟩ := hrel
      have hbll : bl.length = j := by have := congrArg List.length hsl2; simp at this; omega
      have HSX := Lib.hid (And.intro hsl2 (And.intro hsx hnr))
      clear hsx hsl2 hnr
      have hgbl := lt_block hgb
      obtain ⟨r0, r1, r2, r3⟩ := cells4 hgb
      have hBW : Below w.heap.size w wr := hE3.trans (hbel.mono (by omega))
      have hgn : w.heap.size ≠ g := by omega
      by_cases hlt : j < ds.length
      · obtain ⟨d0, d1⟩ := datC_get ds j hlt
        obtain ⟨bk, off, rfl, hbk, hc0⟩ := HROW.out _ _ d0
        obtain ⟨_, _, e9, _, hc1⟩ := HROW.out _ _ d1
        cases e9
        have t0 := (hBW.cell (p := ⟨bk, off + j * 2, none⟩) hbk).trans hc0
        have t1 := (hBW.cell (p := ⟨bk, off + (j * 2 + 1), none⟩) hbk).trans hc1
        rw [← Nat.add_assoc] at t1
        have hok := (HDAT.out ds[j] (List.getElem_mem hlt)).1
        have hle := HDL.out ds[j] (List.getElem_mem hlt)
        have htake : (ds.take (j + 1)).map (·.1.l) = (ds.take j).map (·.1.l) ++ [ds[j].1.l] := by rw [List.take_succ_eq_append_getElem hlt, List.map_append]; rfl
        have HTK := Lib.hid htake
        clear htake
        generalize ds[j] = dd at *
        obtain ⟨y1, y2⟩ := dd
        unfold Blob.v at t0 t1
        simp only at t0 t1 hok hle
        have hy := own_below hok hBW
        clear d0 d1 hc0 hc1 hok
        have hrl8 : wr.heap.size < (wr.alloc (.cells #[.slice y1.A y1.l.length y1.cap, .slice y2.A y2.l.length y2.cap] 119)).heap.size := by simp
        have hb8 : Below wr.heap.size wr (wr.alloc (.cells #[.slice y1.A y1.l.length y1.cap, .slice y2.A y2.l.length y2.cap] 119)) := (Below.refl _ _).alloc (Nat.le_refl _) _
        have hh8 := heap_alloc_new wr (.cells #[.slice y1.A y1.l.length y1.cap, .slice y2.A y2.l.length y2.cap] 119)
        have hg8 := (hb8.block g hgbl).trans hgb
        have hy8 := own_below hy hb8
        have ho8 := own_below hown hb8
        clear HST HAt HLo
        go_wp2_with fail
        generalize wr.alloc (.cells #[.slice y1.A y1.l.length y1.cap, .slice y2.A y2.l.length y2.cap] 119) = w8 at *
        have HY8 := Lib.hid hy8
        have HI8 := Lib.hid (And.intro hg8 ho8)
        have HH8 := Lib.hid hh8
        have HLT : Hid (∀ k, k = g ∨ some k = (Value.slice Aj j cj).ownBlock → k < w8.heap.size ∧ w1.heap.size ≤ k) := Lib.hid (by
          rintro k (e | e)
          · rw [e]; omega
          · obtain ⟨cs, e1, e2⟩ := row_block ho8 e.symm
            have := lt_block e1
            have := hE3.size
            have := hbel.size
            have : w1.heap.size ≤ W.heap.size := HSZ.out
            omega)
        have HNB := Lib.hid hnb
        have hbel8 := hbel.trans (hb8.mono (Nat.le_trans HSZ.out hbel.size))
        have hb80 := hb8
        clear hy hown hgb hb8 hnb r0 r1 r2 r3 t0 t1 hy8 hg8 ho8 hh8
        refine wp_region_dep mixed0 (by kernel_rfl) (fun i k => i == 8 && k == 6) (by kernel_rfl)
          (fun i V V' => if i = 6 then Kept (fun k => some k = (Value.slice Aj j cj).ownBlock) V V' else if i = 8 then Kept (fun k => k = g) V V' else Ext V V')
          (fun V => Kept (fun k => k = g ∨ some k = (Value.slice Aj j cj).ownBlock) w8 V)
          (fun i vals V => match i with
            | 0 => vals 0 = .pointer (some ⟨g, 3, none⟩)
            | 1 => vals 1 = .slice Aj j cj
            | 2 => vals 2 = .pointer (some ⟨wr.heap.size, 0, none⟩)
            | 3 => vals 3 = .slice y1.A y1.l.length y1.cap
            | 4 => ∃ A c, vals 4 = .slice A y1.l.length c ∧ V.ownsRow w8.heap.size 5 1 (.slice A y1.l.length c) y1.l.length (y1.l.map byteV)
            | 5 => ∃ q A c, vals 5 = .slice (some ⟨q, 0, none⟩) 1 1 ∧ w8.heap.size ≤ q ∧ V.heap[q]? = some (.cells #[.slice A y1.l.length c] 31 (0, 0)) ∧ V.ownsRow w8.heap.size 5 1 (.slice A y1.l.length c) y1.l.length (y1.l.map byteV)
            | 6 => ∃ A c, ∃ u : Blob, vals 6 = .slice A (j + 1) c ∧ (u.l = y1.l ∧ BlobOwn V w8.heap.size u) ∧ V.ownsRow W.heap.size 31 1 (.slice A (j + 1) c) (j + 1) (bl.map Blob.v ++ [u.v]) ∧ (∀ b, (Value.slice A (j + 1) c).ownBlock = some b → b ≠ g) ∧ V.heap[g]? = some (.cells #[.slice A4 n.length c4, .int .u16 t, .int .u32 ttl, .slice Aj j cj] 28 (0, 0))
            | 7 => vals 7 = .pointer (some ⟨g, 3, none⟩)
            | 8 => ∃ A c, ∃ u : Blob, (u.l = y1.l ∧ BlobOwn V w8.heap.size u) ∧ V.ownsRow W.heap.size 31 1 (.slice A (j + 1) c) (j + 1) (bl.map Blob.v ++ [u.v]) ∧ (∀ b, (Value.slice A (j + 1) c).ownBlock = some b → b ≠ g) ∧ V.heap[g]? = some (.cells #[.slice A4 n.length c4, .int .u16 t, .int .u32 ttl, .slice A (j + 1) c] 28 (0, 0))
            | _ => True) ?_ (fun V => V.heap[g]? = some (.cells #[.slice A4 n.length c4, .int .u16 t, .int .u32 ttl, .slice Aj j cj] 28 (0, 0)) ∧ V.ownsRow W.heap.size 31 1 (.slice Aj j cj) j (bl.map Blob.v)) (fun i => i == 6 || i == 8) ⟨HI8.out.1, HI8.out.2⟩ ?_ ?_ ?_ ?_ ?_ ?_
        · intro k vals i v V hij hw hR
          rcases k with _ | _ | _ | _ | _ | _ | _ | _ | _ | k
          all_goals first
            | exact trivial
            | exact hR
            | (simpa [hij, Ne.symm hij] using hR)
        · intro i V V' hk hC hI hT
          by_cases h6 : i = 6
          · subst h6; cases hk
          · by_cases h8 : i = 8
            · subst h8; cases hk
            · simp only [h6, h8, if_false] at hT
              exact ⟨(hT.block _ (lt_block hI.1)).trans hI.1, own_below hI.2 hT⟩
        · exact (Kept.refl _ w8).drew
        · intro i V V' hC hT
          by_cases h6 : i = 6
          · simp only [h6, if_true] at hT
            exact hC.trans (hT.mono (fun k _ h => .inr h))
          · by_cases h8 : i = 8
            · simp only [h8] at hT
              exact hC.trans (Kept.mono hT (fun k _ h => .inl h))
            · simp only [h6, h8, if_false] at hT
              exact hC.trans (Kept.mono (Kept.of_ext hT) (fun _ _ h => h.elim))
        · intro i k vals V V' hij hk hw hC hR hT
          have hnew : ∀ {S : Nat → Prop} {u : Value} {m : Nat} {xs : List Value}, Kept S V V' → (∀ k, S k → k < w8.heap.size) → V.ownsRow w8.heap.size 5 1 u m xs → V'.ownsRow w8.heap.size 5 1 u m xs := fun hKk hS hr => Kept.row hr hKk (fun k hk2 hs => by have := (hr.lt k hk2).1; have := hS k hs; omega)
          by_cases h6 : i = 6
          · simp only [h6, if_true] at hT
            subst h6
            rcases k with _ | _ | _ | _ | _ | _ | _ | _ | _ | k
            all_goals first
              | exact trivial
              | exact hR
              | (exfalso; exact hij rfl)
              | skip
            · obtain ⟨A, c, h1, h2⟩ := hR
              exact ⟨A, c, h1, hnew hT (fun k e => (HLT.out k (.inr e)).1) h2⟩
            · obtain ⟨q, A, c, h1, h2, h3, h4⟩ := hR
              exact ⟨q, A, c, h1, h2, (hT.block q (lt_block h3) (fun e => by have := (HLT.out q (.inr e)).1; omega)).trans h3, hnew hT (fun k e => (HLT.out k (.inr e)).1) h4⟩
            · exfalso
              generalize hb : waitsB _ _ _ = b at hw
              have : b = true := by rw [← hb]; kernel_rfl
              rw [this] at hw
              cases hw
          · by_cases h8 : i = 8
            · simp only [h8] at hT
              have hT : Kept (fun k => k = g) V V' := hT
              subst h8
              rcases k with _ | _ | _ | _ | _ | _ | _ | _ | _ | k
              all_goals first
                | exact trivial
                | exact hR
                | (exfalso; exact hij rfl)
                | (cases hk; done)
                | skip
              · obtain ⟨A, c, h1, h2⟩ := hR
                exact ⟨A, c, h1, hnew hT (fun k e => (HLT.out k (.inl e)).1) h2⟩
              · obtain ⟨q, A, c, h1, h2, h3, h4⟩ := hR
                exact ⟨q, A, c, h1, h2, (hT.block q (lt_block h3) (fun e => by have := (HLT.out q (.inl e)).1; omega)).trans h3, hnew hT (fun k e => (HLT.out k (.inl e)).1) h4⟩
            · simp only [h6, h8, if_false] at hT
              rcases k with _ | _ | _ | _ | _ | _ | _ | _ | _ | k
              all_goals first
                | exact trivial
                | exact hR
                | skip
              · obtain ⟨A, c, h1, h2⟩ := hR
                exact ⟨A, c, h1, own_below h2 hT⟩
              · obtain ⟨q, A, c, h1, h2, h3, h4⟩ := hR
                exact ⟨q, A, c, h1, h2, (hT.block q (lt_block h3)).trans h3, own_below h4 hT⟩
              · obtain ⟨A, c, u, h1, hs, h2, h3, h4⟩ := hR
                exact ⟨A, c, u, h1, ⟨hs.1, own_below hs.2 hT⟩, own_below h2 hT, h3, (hT.block _ (lt_block h4)).trans h4⟩
              · obtain ⟨A, c, u, hs, h2, h3, h4⟩ := hR
                exact ⟨A, c, u, ⟨hs.1, own_below hs.2 hT⟩, own_below h2 hT, h3, (hT.block _ (lt_block h4)).trans h4⟩
        · intro i o hio vals V hC haf hI0
          have hhS : ¬ (wr.heap.size = g ∨ some wr.heap.size = (Value.slice Aj j cj).ownBlock) := by
            rintro (e | e)
            · omega
            · obtain ⟨cs, e1, _⟩ := row_block HI8.out.2 e.symm
              rw [HH8.out] at e1
              cases e1
          obtain ⟨t0, _⟩ := cells2 ((hC.block _ (lt_block HH8.out) hhS).trans HH8.out)
          rcases i with _ | _ | _ | _ | _ | _ | _ | _ | _ | i
          all_goals first
            | (exfalso; simp at hio; done)
            | skip
          all_goals
            simp at hio
            subst hio
            simp [bindD, rdB, Region.binds] at haf
          all_goals first
            | (simp [opYield_def, yieldUpon, relAct, dstAt, Act.put, Region.wanted, go_sem, haf, t0, Ext.refl]; done)
            | skip
          · have hI := hI0 (fun k hk hk2 => by
              have h : k = 6 ∨ k = 8 := by simpa using hk2
              rcases h with rfl | rfl
              · exact .inr (by kernel_rfl)
              · exact .inr (by kernel_rfl))
            obtain ⟨_, _, _, e3, _⟩ := cells4 hI.1
            simp [opYield_def, yieldUpon, relAct, dstAt, Act.put, Region.wanted, go_sem, haf, e3, Ext.refl]
          · simp [opYield_def, yieldUpon, relAct, dstAt, Act.put, Region.wanted, go_sem, haf]
            have hyV := Kept.row HY8.out hC (fun k hkb e => by
              obtain ⟨cs, e1, _⟩ := row_block HY8.out hkb
              rcases e with e | e
              · exact ne_cells e1 HI8.out.1 (by decide) e
              · obtain ⟨cs', e2, _⟩ := row_block HI8.out.2 e.symm
                exact ne_cells e1 e2 (by decide) rfl)
            refine (CloneB y1.A y1.l y1.cap V (cs_own hyV).2 (by omega)).mono fun e V' h => ?_
            obtain ⟨v, he, ho, hb⟩ := h
            obtain ⟨A, c, hv, _⟩ := own_form ho
            subst hv
            exact ⟨_, he, hb, A, c, rfl, own_base ho hC.size⟩
          · obtain ⟨A, c, h1, h1o⟩ := haf
            simp [opYield_def, yieldUpon, relAct, dstAt, Act.put, Region.wanted, go_sem, h1, Ext.refl]
            exact ⟨(Below.refl _ _).alloc (Nat.le_refl _) _, hC.size, A, c, by simp only [World.alloc, Array.getElem_push_eq], own_below h1o ((Below.refl _ _).alloc (Nat.le_refl _) _)⟩
          · obtain ⟨h1, q, h5, hq, A, c, hqb, hqo⟩ := haf
            have hI := hI0 (fun k hk hk2 => by
              have h : k = 6 ∨ k = 8 := by simpa using hk2
              rcases h with rfl | rfl
              · exact .inl rfl
              · exact .inr (by kernel_rfl))
            refine yield_push (us := [.slice A y1.l.length c]) rfl (.tmp 37) (.tmp 41) Tryz.underlying26 rfl hi hz0 hz1 hz2 rfl (by decide) (by simp [relAct, dstAt, Act.put, Act.eval, h1]) hI.2 (by have := hbel8.size; have := hC.size; omega) (g := q) (by simp [relAct, dstAt, Act.put, Act.eval, h5]) rfl
              (fun k u hk => by rw [add_plain, cell_of_row _ _ _ _ _ _ (show V.heap[q]? = some (.cells #[.slice A y1.l.length c] 31 (0, 0)) from by first | exact hqb | (rw [Array.getElem?_eq_some_iff]; exact ⟨_, hqb⟩)), Nat.zero_add]; simpa using hk) (by simp [Value.oneCell']) (by unfold maxLen; omega) (by omega) ?_
            intro v' V' hown' hg' hat'
            obtain ⟨A', c', rfl, _⟩ := own_form hown'
            have hkk : Kept (fun k => some k = (Value.slice Aj j cj).ownBlock) V V' := Kept.of_grown hg'
            refine ⟨hkk, A', c', ⟨A, y1.l, c⟩, rfl, ⟨rfl, Kept.row hqo hkk (fun k hk2 hs => by have := (hqo.lt k hk2).1; have := (HLT.out k (.inr hs)).1; omega)⟩, hown', fun b hb e => ?_, (hkk.block g (lt_block hI.1) (fun e => HNB.out g e.symm rfl)).trans hI.1⟩
            have := lt_block HI8.out.1
            have := hC.size
            rcases hat' with h | h
            · exact HNB.out b (h ▸ hb) e
            · rw [h] at hb
              cases hb
              omega
          · obtain ⟨h7, A, c, h6, u, hus, hu, hb, hgb⟩ := haf
            obtain ⟨_, _, _, e3, f3⟩ := cells4 hgb
            have f3 := f3 3
            have hkk : Kept (fun k => k = g) V (V.setCell ⟨g, 3, none⟩ (.slice A (j + 1) c)) := (Kept.refl (fun k => k = g) V).setCell (fun _ => rfl) _
            have hset := heap_set (i := 3) (v := .slice A (j + 1) c) hgb
            simp [opYield_def, yieldUpon, relAct, dstAt, Act.put, Region.wanted, go_sem, h7, h6, e3, f3]
            refine ⟨hkk, A, c, u, ⟨hus.1, Kept.row hus.2 hkk (fun k hk2 hs => by have := (World.ownsRow.lt hus.2 k hk2).1; have := (HLT.out k (.inl hs)).1; omega)⟩, Kept.row hu hkk (fun k hkb e => hb k hkb e), hb, ?_⟩
            first | exact hset | (simpa using hset)
        · intro vals V hC hR
          have h8 := hR 8 (by show 8 < 9; omega) (fun i _ => by simp)
          obtain ⟨A, c, u, gs, g1, g2, g3⟩ := h8
          have hbelV := hbel8.trans (hC.below (Nat.le_trans HSZ.out hbel8.size) (fun k hk e => by have := (HLT.out k e).2; omega))
          have hbo : ∀ y ∈ bl, BlobOwn V W.heap.size y := fun y hy => by
            have h0 := own_below (HSX.out.2.1 y hy) hb80
            refine Kept.row h0 hC (fun k hkb e => ?_)
            obtain ⟨cs, e1, _⟩ := row_block h0 hkb
            rcases e with e | e
            · exact ne_cells e1 HI8.out.1 (by decide) e
            · obtain ⟨cs', e2, _⟩ := row_block HI8.out.2 e.symm
              exact ne_cells e1 e2 (by decide) rfl
          have hnr2 : V.ownsRow w2.heap.size 9 1 (.slice A4 n.length c4) n.length ((lower n).map strV) := by
            have h0 := own_below HSX.out.2.2 hb80
            refine Kept.row h0 hC (fun k hkb e => ?_)
            obtain ⟨cs, e1, _⟩ := row_block h0 hkb
            rcases e with e | e
            · exact ne_cells e1 HI8.out.1 (by decide) e
            · obtain ⟨cs', e2, _⟩ := row_block HI8.out.2 e.symm
              exact ne_cells e1 e2 (by decide) rfl
          have HNR2 := Lib.hid hnr2
          have hgs2 : BlobOwn V W.heap.size u := own_base gs.2 (Nat.le_trans hbel.size hb80.size)
          have HG := Lib.hid (And.intro g1 (And.intro g2 g3))
          clear hR g1 g2 g3 hC
          simp [relAct, dstAt, Act.put]
          generalize vals 0 = k0x
          generalize vals 1 = k1x
          generalize vals 2 = k2x
          generalize vals 3 = k3x
          generalize vals 4 = k4x
          generalize vals 5 = k5x
          generalize vals 6 = k6x
          generalize vals 7 = k7x
          generalize vals 8 = k8x
          go_wp2_with fail
          refine ⟨⟨j + 1, A, c, bl ++ [u], by omega, by go_num, HG.out.2.2, by simpa using HG.out.1, HG.out.2.1, hbelV, by
            rw [List.map_append, HSX.out.1, HTK.out]
            simp [gs.1], fun y hy => ?_, HNR2.out⟩, by simp [intOf]; omega⟩
          rcases List.mem_append.1 hy with h | h
          · exact hbo y h
          · rcases List.mem_cons.1 h with rfl | h
            · exact hgs2
            · cases h
      · have hjl : j = ds.length := by omega
        subst hjl
        have hRr := (hbel.block w.heap.size (by omega)).trans hR3
        clear HST HAt HLo
        go_wp2_with (first | (refine wpList_store_row rfl 28 (.tmp 6) (.tmp 45) rfl w.heap.size #[.slice A4 n.length c4, .int .u16 t, .int .u32 ttl, .slice Aj ds.length cj] rfl rfl 28 _ hRr (by kernel_rfl) rfl (by simp [Value.oneCell']) ?_))
        have hrb := setRow_block wr w.heap.size #[.slice A4 n.length c4, .int .u16 t, .int .u32 ttl, .slice Aj ds.length cj] _ _ _ hRr
        have hgr := setRow_grown wr w.heap.size #[.slice A4 n.length c4, .int .u16 t, .int .u32 ttl, .slice Aj ds.length cj]
        obtain ⟨f0, f1, f2, f3, _⟩ := cells4 hrb
        have hk : Kept (fun k => k = w.heap.size) wr (wr.setRow w.heap.size #[.slice A4 n.length c4, .int .u16 t, .int .u32 ttl, .slice Aj ds.length cj]) := (Kept.of_grown hgr).mono (fun k _ h => by cases h; rfl)
        have hown2 := Kept.row hown hk (fun k hkb e => by have := (hown.lt k hkb).1; have := hE3.size; omega)
        have hnm2 := Kept.row HSX.out.2.2 hk (fun k hkb e => by
          obtain ⟨cs, e1, _⟩ := row_block HSX.out.2.2 hkb
          exact ne_cells e1 hRr (by decide) e)
        have hbo2 : ∀ y ∈ bl, BlobOwn (wr.setRow w.heap.size #[.slice A4 n.length c4, .int .u16 t, .int .u32 ttl, .slice Aj ds.length cj]) W.heap.size y := fun y hy => Kept.row (HSX.out.2.1 y hy) hk (fun k hkb e => by have := (World.ownsRow.lt (HSX.out.2.1 y hy) k hkb).1; have := hE3.size; omega)
        have hsz29 : w.heap.size ≤ w2.heap.size := hE2.size
        have hle1 : bl.map (·.l) = ds.map (·.1.l) := by rw [HSX.out.1, List.take_length]
        generalize wr.setRow w.heap.size #[.slice A4 n.length c4, .int .u16 t, .int .u32 ttl, .slice Aj ds.length cj] = w9 at *
        refine bodyPost_ret (v := .tuple #[.agg #[.slice A4 n.length c4, .int .u16 t, .int .u32 ttl, .slice Aj ds.length cj], .bool true]) ?_ rfl ⟨hBW.trans (hk.below hBW.size (fun k hk e => by omega)), A4, c4, Aj, cj, bl, rfl, own_base hnm2 hsz29, own_base hown2 hE3.size, hle1, fun y hy => own_base (hbo2 y hy) hE3.size⟩
        simp [results, Tryz.results28, go_sem, f0, f1, f2, f3]
end Nm
end Go.Proofs.YtkeimgamjnpcbaaGreat

/- A zone of any records: a set more, a name more. -/
namespace Go.Proofs.YtkeimgamjnpcbaaGreat
open Go.RowKit
set_option linter.unusedVariables false
set_option linter.unusedSimpArgs false
namespace Nm
theorem total_snoc (Q : List Sq) (q : Sq) : total (Q ++ [q]) = total Q + q.ds.length := by simp [total]
theorem cntP_snoc (ap : List Lab) (P : List Nq) (p : Nq) : cntP ap (P ++ [p]) = cnt (cntP ap P) p.n 1 (p.n.length - ap.length + 1) := by
  funext m
  simp [cntP, cnt]
theorem setsOf_snoc (Q : List Sq) (q : Sq) (n : List Lab) : setsOf (Q ++ [q]) n = setsOf Q n ++ (if q.n = n then [q] else []) := by
  unfold setsOf
  rw [List.filter_append, List.filter_cons]
  by_cases h : q.n = n <;> simp [h]
theorem Zn.mono {w : World} {B z bn bb : Nat} {ap : List Lab} {c : Int} {D : DataW Unit} {f : Lab → Int} {N N' : Nat} (h : Zn w B z bn bb ap c D f N) (hN : N ≤ N') : Zn w B z bn bb ap c D f N' := by
  obtain ⟨E, g3, g4⟩ := h.below
  exact ⟨h.blk, h.nodes.mono hN, ⟨E, g3.mono hN, g4⟩, h.ne, h.h1, h.h2, h.h3⟩
theorem NdG.mono {w : World} {B x bs : Nat} {n : List Lab} {N N' : Nat} {D2 : DataW Unit} (h : NdG w B x bs n N D2) (hN : N ≤ N') : NdG w B x bs n N' D2 := ⟨h.node, h.sets.mono hN, h.h1⟩
section
variable {w w' : World} {B z bn bb : Nat} {ap : List Lab} {P : List Nq} {Q : List Sq} {N N' : Nat}
theorem uniq_of {α β : Type} (f : α → β) {l : List α} (h : (l.map f).Nodup) {a b : α} (ha : a ∈ l) (hb : b ∈ l) (e : f a = f b) : a = b := by
  induction l with
  | nil => cases ha
  | cons q l ih =>
    rw [List.map_cons, List.nodup_cons] at h
    rcases List.mem_cons.1 ha with e1 | ha'
    · rcases List.mem_cons.1 hb with e2 | hb'
      · rw [e1, e2]
      · exact absurd (List.mem_map.2 ⟨b, hb', by rw [← e1]; exact e.symm⟩) h.1
    · rcases List.mem_cons.1 hb with e2 | hb'
      · exact absurd (List.mem_map.2 ⟨a, ha', by rw [← e2]; exact e⟩) h.1
      · exact ih h.2 ha' hb'
theorem dbs_ne {a b : Nat} {P : List Nq} (h : (a :: b :: P.map (·.bs)).Nodup) {p r : Nq} (hp : p ∈ P) (hr : r ∈ P) (e : p.bs = r.bs) : p = r := by
  rw [List.nodup_cons, List.nodup_cons] at h
  exact uniq_of _ h.2.2 hp hr e
theorem uniq_n {ap : List Lab} {P : List Nq} {Q : List Sq} (h : Wf ap P Q) {p r : Nq} (hp : p ∈ P) (hr : r ∈ P) (e : p.n = r.n) : p = r := uniq_of _ h.kP hp hr e
/-- a set that is new -/
theorem ZG.addS (h : ZG w B z bn bb ap P Q N) (hw : Wf ap P Q) {p : Nq} (hp : p ∈ P) {q2 : Sq} (hn : q2.n = p.n) {S : Nat → Prop} (hk : Kept S w w') (hS : ∀ k, S k → k = z ∨ k = p.bs)
    {D D2 : DataW Unit} {c : Int} (hD : Ents D (P.map Nq.ent)) (hzn : Zn w' B z bn bb ap c D (cntP ap P) N) (hc : c = total Q + q2.ds.length) (hnd : NdG w' B p.x p.bs p.n N' D2) (hD2 : Ents D2 ((setsOf Q p.n).map Sq.ent ++ [q2.ent])) (hN : N ≤ N')
    (hsd : SdG w' B q2.s q2.ttl q2.v q2.ds) (hs : w.heap.size ≤ q2.s) (hat : ∀ k, q2.v.ownBlock = some k → w.heap.size ≤ k) :
    ZG w' B z bn bb ap P (Q ++ [q2]) N' ∧ (∀ k, zblk z bn bb P (Q ++ [q2]) k → zblk z bn bb P Q k ∨ w.heap.size ≤ k) := by
  obtain ⟨D0, h1, _⟩ := h.zn
  obtain ⟨A, ca, g1, _⟩ := h1.blk
  obtain ⟨D20, h20, _⟩ := h.nd p hp
  have hZ : Zonal S w := fun k e => h.zonal k (by
    rcases hS k e with e | e
    · exact .inl e
    · exact .inr (.inr (.inr (.inl ⟨p, hp, e⟩))))
  have hcS : ∀ {g : Nat} {cs : Array Value} {T : TypeId} {fr : Nat × Nat}, w.heap[g]? = some (.cells cs T fr) → T ≠ 100 → ¬ S g := fun hg hT e => by
    rcases hS _ e with e | e
    · exact ne_cells hg g1 hT e
    · exact ne_map h20.sets hg e.symm
  refine ⟨⟨⟨D, ?_, hD⟩, fun r hr => ?_, fun r hr => ?_, h.dbs, ?_, ?_⟩, ?_⟩
  · rw [total_snoc]
    have : ((total Q + q2.ds.length : Nat) : Int) = c := by omega
    rw [this]
    exact hzn.mono hN
  · by_cases e : r.n = p.n
    · have := uniq_n hw hr hp e
      subst this
      refine ⟨D2, hnd, ?_⟩
      rw [setsOf_snoc, if_pos hn, List.map_append]
      exact hD2
    · obtain ⟨D3, h3, h4⟩ := h.nd r hr
      refine ⟨D3, (h3.kept hk hZ (fun es => ?_)).mono hN, ?_⟩
      · rcases hS _ es with e1 | e1
        · exact ne_map h3.sets g1 e1
        · exact e (by rw [dbs_ne h.dbs hr hp e1])
      · rw [setsOf_snoc, if_neg (fun e1 => e (by rw [← e1, hn])), List.append_nil]
        exact h4
  · rcases List.mem_append.1 hr with hr | hr
    · have h3 := h.sd r hr
      refine h3.kept hk hZ (hcS h3.set (by decide)) (fun b hb => ?_)
      obtain ⟨cs, e1, _⟩ := row_block h3.row hb
      exact hcS e1 (by decide)
    · rcases List.mem_cons.1 hr with rfl | hr
      · exact hsd
      · cases hr
  · rw [List.map_append]
    refine List.nodup_append.2 ⟨h.ds, by simp, fun a ha b hb e => ?_⟩
    simp at hb
    obtain ⟨r, hr, rfl⟩ := List.mem_map.1 ha
    have := lt_block (h.sd r hr).set
    omega
  · refine List.pairwise_append.2 ⟨h.dv, by simp, fun a ha b hb k h1 h2 => ?_⟩
    simp at hb
    subst hb
    have := ((h.sd a ha).row.lt k h1).2
    have := hat k h2
    omega
  · rintro k (e | e | e | e | ⟨r, hr, e⟩)
    · exact .inl (.inl e)
    · exact .inl (.inr (.inl e))
    · exact .inl (.inr (.inr (.inl e)))
    · exact .inl (.inr (.inr (.inr (.inl e))))
    · rcases List.mem_append.1 hr with hr | hr
      · exact .inl (.inr (.inr (.inr (.inr ⟨r, hr, e⟩))))
      · simp at hr
        subst hr
        rcases e with e | e
        · exact .inr (by omega)
        · exact .inr (hat k e.symm)
/-- a name that is new -/
theorem ZG.addN (h : ZG w B z bn bb ap P Q N) (hw : Wf ap P Q) {p2 : Nq} {q2 : Sq} (hn : q2.n = p2.n) (hfr : ∀ p ∈ P, p.n ≠ p2.n) {S : Nat → Prop} (hk : Kept S w w') (hS : ∀ k, S k → k = z ∨ k = bn ∨ k = bb)
    {D : DataW Unit} {c : Int} (hD : Ents D (P.map Nq.ent ++ [p2.ent])) (hzn : Zn w' B z bn bb ap c D (cntP ap (P ++ [p2])) N') (hc : c = total Q + q2.ds.length) {N2 : Nat} (hnd : NdG w' B p2.x p2.bs p2.n N2 (.map [q2.ent])) (hN : N ≤ N') (hN2 : N2 ≤ N')
    (hsd : SdG w' B q2.s q2.ttl q2.v q2.ds) (hs : w.heap.size ≤ q2.s) (hb : w.heap.size ≤ p2.bs) (hat : ∀ k, q2.v.ownBlock = some k → w.heap.size ≤ k) :
    ZG w' B z bn bb ap (P ++ [p2]) (Q ++ [q2]) N' ∧ (∀ k, zblk z bn bb (P ++ [p2]) (Q ++ [q2]) k → zblk z bn bb P Q k ∨ w.heap.size ≤ k) := by
  obtain ⟨D0, h1, _⟩ := h.zn
  obtain ⟨A, ca, g1, _⟩ := h1.blk
  obtain ⟨E, g3, _⟩ := h1.below
  have hnl := h1.nodes.lt
  have hbl := g3.lt
  have hZ : Zonal S w := fun k e => h.zonal k (by
    rcases hS k e with e | e | e
    · exact .inl e
    · exact .inr (.inl e)
    · exact .inr (.inr (.inl e)))
  have hcS : ∀ {g : Nat} {cs : Array Value} {T : TypeId} {fr : Nat × Nat}, w.heap[g]? = some (.cells cs T fr) → T ≠ 100 → ¬ S g := fun hg hT e => by
    rcases hS _ e with e | e | e
    · exact ne_cells hg g1 hT e
    · exact ne_map h1.nodes hg e.symm
    · exact ne_map g3 hg e.symm
  have hnone : ∀ q ∈ Q, q.n ≠ p2.n := fun q hq e => by
    obtain ⟨p, hp, e2⟩ := hw.own q hq
    exact hfr p hp (e2.trans e)
  refine ⟨⟨⟨D, ?_, ?_⟩, fun r hr => ?_, fun r hr => ?_, ?_, ?_, ?_⟩, ?_⟩
  · rw [total_snoc]
    have : ((total Q + q2.ds.length : Nat) : Int) = c := by omega
    rw [this]
    exact hzn
  · rw [List.map_append]
    exact hD
  · rcases List.mem_append.1 hr with hr | hr
    · obtain ⟨D3, h3, h4⟩ := h.nd r hr
      refine ⟨D3, (h3.kept hk hZ (fun es => ?_)).mono hN, ?_⟩
      · obtain ⟨b1, b2⟩ := h.bs_ne hr
        rcases hS _ es with e1 | e1 | e1
        · exact ne_map h3.sets g1 e1
        · exact b1 e1
        · exact b2 e1
      · rw [setsOf_snoc, if_neg (fun e1 => hfr r hr (by rw [← e1, hn])), List.append_nil]
        exact h4
    · simp at hr
      subst hr
      refine ⟨_, hnd.mono hN2, ?_⟩
      rw [setsOf_snoc, if_pos hn]
      have : setsOf Q r.n = [] := List.filter_eq_nil_iff.2 fun q hq e => hnone q hq (by simpa using e)
      rw [this]
      exact ⟨_, rfl, List.Perm.refl _⟩
  · rcases List.mem_append.1 hr with hr | hr
    · have h3 := h.sd r hr
      refine h3.kept hk hZ (hcS h3.set (by decide)) (fun b hb => ?_)
      obtain ⟨cs, e1, _⟩ := row_block h3.row hb
      exact hcS e1 (by decide)
    · simp at hr
      subst hr
      exact hsd
  · have hd := h.dbs
    rw [List.map_append, ← List.cons_append, ← List.cons_append]
    refine List.nodup_append.2 ⟨hd, by simp, fun a ha b hb2 e => ?_⟩
    simp at hb2
    rcases List.mem_cons.1 ha with rfl | ha
    · omega
    · rcases List.mem_cons.1 ha with rfl | ha
      · omega
      · obtain ⟨r, hr, rfl⟩ := List.mem_map.1 ha
        obtain ⟨D3, h3, _⟩ := h.nd r hr
        have := h3.sets.lt
        omega
  · rw [List.map_append]
    refine List.nodup_append.2 ⟨h.ds, by simp, fun a ha b hb e => ?_⟩
    simp at hb
    obtain ⟨r, hr, rfl⟩ := List.mem_map.1 ha
    have := lt_block (h.sd r hr).set
    omega
  · refine List.pairwise_append.2 ⟨h.dv, by simp, fun a ha b hb k h1 h2 => ?_⟩
    simp at hb
    subst hb
    have := ((h.sd a ha).row.lt k h1).2
    have := hat k h2
    omega
  · rintro k (e | e | e | ⟨r, hr, e⟩ | ⟨r, hr, e⟩)
    · exact .inl (.inl e)
    · exact .inl (.inr (.inl e))
    · exact .inl (.inr (.inr (.inl e)))
    · rcases List.mem_append.1 hr with hr | hr
      · exact .inl (.inr (.inr (.inr (.inl ⟨r, hr, e⟩))))
      · simp at hr
        subst hr
        exact .inr (by omega)
    · rcases List.mem_append.1 hr with hr | hr
      · exact .inl (.inr (.inr (.inr (.inr ⟨r, hr, e⟩))))
      · simp at hr
        subst hr
        rcases e with e | e
        · exact .inr (by omega)
        · exact .inr (hat k e.symm)
end
end Nm
end Go.Proofs.YtkeimgamjnpcbaaGreat
