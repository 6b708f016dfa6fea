/-
  Texts merged by a program (SoaB, Soa1, ReadS, RdK, Key1, WrK).
-/
import Derived.Test.YtkeimgamjnpcbaaGreatCk3
import Derived.Test.YtkeimgamjnpcbaaGreatCk4
set_option linter.unusedSimpArgs false
set_option linter.unusedVariables false
/- Contracts of package rdata: SoaBytes. -/
namespace Go.Proofs.YtkeimgamjnpcbaaGreat
open Go.RowKit
set_option linter.unusedVariables false
namespace Nm
/-- a SOA's parts -/
structure SoaM where
  m : List Lab
  x : List Lab
  s1 : Nat
  s2 : Nat
  s3 : Nat
  s4 : Nat
  s5 : Nat
structure SoaM.fits (g : SoaM) : Prop where
  m : Small g.m
  x : Small g.x
  s1 : g.s1 < 4294967296
  s2 : g.s2 < 4294967296
  s3 : g.s3 < 4294967296
  s4 : g.s4 < 4294967296
  s5 : g.s5 < 4294967296
def SoaM.bytes (g : SoaM) : Lab := wire g.m ++ wire g.x ++ be4 g.s1 ++ be4 g.s2 ++ be4 g.s3 ++ be4 g.s4 ++ be4 g.s5
def SoaM.v (g : SoaM) (A : Option Addr) (ca : Nat) (B : Option Addr) (cb : Nat) : Value := .agg #[.slice A g.m.length ca, .slice B g.x.length cb, .int .u32 g.s1, .int .u32 g.s2, .int .u32 g.s3, .int .u32 g.s4, .int .u32 g.s5]
theorem cells7 {w : World} {g : Nat} {T : TypeId} {c0 c1 c2 c3 c4 c5 c6 : Value} (h : w.heap[g]? = some (.cells #[c0, c1, c2, c3, c4, c5, c6] T (0, 0))) :
    w.cell? ⟨g, 0, none⟩ = some c0 ∧ w.cell? ⟨g, 1, none⟩ = some c1 ∧ w.cell? ⟨g, 2, none⟩ = some c2 ∧ w.cell? ⟨g, 3, none⟩ = some c3 ∧ w.cell? ⟨g, 4, none⟩ = some c4 ∧ w.cell? ⟨g, 5, none⟩ = some c5 ∧ w.cell? ⟨g, 6, none⟩ = some c6 ∧ ∀ i, w.frozen? ⟨g, i, none⟩ = false := by
  refine ⟨?_, ?_, ?_, ?_, ?_, ?_, ?_, fun i => by simp [World.frozen?, h]⟩ <;> (rw [cell_of_row w g _ _ _ _ h]; rfl)
set_option maxRecDepth 100000 in
set_option maxHeartbeats 20000000 in
theorem SoaBytes (g : SoaM) (hg : g.fits) (A B : Option Addr) (ca cb : Nat) (w : World) (hA : Cs w A (g.m.map strV)) (hB : Cs w B (g.x.map strV)) :
    Calls Tryz.prog 131 #[g.v A ca B cb] w fun e w' => ∃ v, e = .returned v ∧ w'.ownsRow w.heap.size 5 1 v g.bytes.length (g.bytes.map byteV) ∧ Below w.heap.size w w' := by
  obtain ⟨i0, hi, hz0, hz1, hz2⟩ := info_parts info_u8
  unfold SoaM.v
  have hb1 : Below w.heap.size w (w.alloc (.cells #[.slice A g.m.length ca, .slice B g.x.length cb, .int .u32 g.s1, .int .u32 g.s2, .int .u32 g.s3, .int .u32 g.s4, .int .u32 g.s5] 147)) := (Below.refl _ _).alloc (Nat.le_refl _) _
  have hblk := heap_alloc_new w (.cells #[.slice A g.m.length ca, .slice B g.x.length cb, .int .u32 g.s1, .int .u32 g.s2, .int .u32 g.s3, .int .u32 g.s4, .int .u32 g.s5] 147)
  obtain ⟨k0, k1, k2, k3, k4, k5, k6, _⟩ := cells7 hblk
  have hsz : (w.alloc (.cells #[.slice A g.m.length ca, .slice B g.x.length cb, .int .u32 g.s1, .int .u32 g.s2, .int .u32 g.s3, .int .u32 g.s4, .int .u32 g.s5] 147)).heap.size = w.heap.size + 1 := by simp
  go_enter Tryz.func131, Tryz.ntmps131
  go_wp2_with fail
  generalize w.alloc (.cells #[.slice A g.m.length ca, .slice B g.x.length cb, .int .u32 g.s1, .int .u32 g.s2, .int .u32 g.s3, .int .u32 g.s4, .int .u32 g.s5] 147) = w1 at *
  have hwm := wire_len_few hg.m
  have hwx := wire_len_few hg.x
  have HWA : Hid (∀ W, Below w1.heap.size w1 W → Calls Tryz.prog 61 #[.slice A g.m.length ca] W fun e w' => ∃ v, e = .returned v ∧ w'.ownsRow W.heap.size 5 1 v (wire g.m).length ((wire g.m).map byteV) ∧ Below W.heap.size W w') := Lib.hid fun W hW => Wire A g.m ca W ((hA.below hb1).below hW) hg.m
  have HWB : Hid (∀ W, Below w1.heap.size w1 W → Calls Tryz.prog 61 #[.slice B g.x.length cb] W fun e w' => ∃ v, e = .returned v ∧ w'.ownsRow W.heap.size 5 1 v (wire g.x).length ((wire g.x).map byteV) ∧ Below W.heap.size W w') := Lib.hid fun W hW => Wire B g.x cb W ((hB.below hb1).below hW) hg.x
  have HBY : Hid (∀ a b, wire g.m = a → wire g.x = b → g.bytes = a ++ b ++ be4 g.s1 ++ be4 g.s2 ++ be4 g.s3 ++ be4 g.s4 ++ be4 g.s5) := Lib.hid fun a b h1 h2 => by rw [← h1, ← h2]; rfl
  clear hA hB hblk
  generalize hwa : wire g.m = a at *
  generalize hwb : wire g.x = b at *
  have HB2 := Lib.hid (HBY.out a b rfl rfl)
  have HG := Lib.hid hg
  clear HBY hwa hwb hg
  refine wp_region_mono mixed0 (by kernel_rfl) [.is (.pointer (some ⟨w.heap.size, 0, none⟩)), .is (.slice A g.m.length ca), .own w1.heap.size 5 1 a.length (a.map byteV), .is (.pointer (some ⟨w.heap.size, 1, none⟩)), .is (.slice B g.x.length cb), .own w1.heap.size 5 1 b.length (b.map byteV),
    blobsF [a, b], .own w1.heap.size 5 1 (a ++ b).length ((a ++ b).map byteV), .own w1.heap.size 5 1 (a ++ b).length ((a ++ b).map byteV)] rfl ?_ ?_
  · intro i o hio vals W hE haf
    have e0 := (bcl (o := 0) hE (by omega)).trans k0
    have e1 := (bcl (o := 1) hE (by omega)).trans k1
    rcases i with _ | _ | _ | _ | _ | _ | _ | _ | _ | i
    all_goals first
      | (exfalso; simp at hio; done)
      | (simp at hio; subst hio; simp [bindD, rdB, Region.binds, factAt] at haf; simp [opYield_def, yieldUpon, relAct, dstAt, Act.put, Region.wanted, go_sem, haf, e0, e1, Ext.refl, factAt]; done)
      | skip
    all_goals
      simp at hio
      subst hio
      simp [bindD, rdB, Region.binds, factAt] at haf
    · simp [opYield_def, yieldUpon, relAct, dstAt, Act.put, Region.wanted, go_sem, haf, factAt]
      refine (HWA.out W hE).mono fun e W' h5 => ?_
      obtain ⟨v, he, ho, hb⟩ := h5
      exact ⟨v, he, hb, own_base ho hE.size⟩
    · simp [opYield_def, yieldUpon, relAct, dstAt, Act.put, Region.wanted, go_sem, haf, factAt]
      refine (HWB.out W hE).mono fun e W' h5 => ?_
      obtain ⟨v, he, ho, hb⟩ := h5
      exact ⟨v, he, hb, own_base ho hE.size⟩
    · obtain ⟨h2, h5⟩ := haf
      obtain ⟨A4, c4, e4, _, hc4⟩ := Cs.of_own h2
      obtain ⟨A7, c7, e7', _, hc7⟩ := Cs.of_own h5
      simp [opYield_def, yieldUpon, relAct, dstAt, Act.put, Region.wanted, go_sem, e4, e7', factAt]
      have hb5 : Below W.heap.size W (W.alloc (.cells #[.slice A4 a.length c4, .slice A7 b.length c7] 31)) := (Below.refl _ _).alloc (Nat.le_refl _) _
      refine ⟨hb5, some ⟨W.heap.size, 0, none⟩, [⟨A4, a, c4⟩, ⟨A7, b, c7⟩], rfl, ?_, rfl, ?_⟩
      · exact cs_new W 31 [.slice A4 a.length c4, .slice A7 b.length c7] (0, 0)
      · intro z hz
        rcases List.mem_cons.1 hz with rfl | hz
        · exact Cs.below (w := W) hc4 hb5
        · rcases List.mem_cons.1 hz with rfl | hz
          · exact Cs.below (w := W) hc7 hb5
          · cases hz
    · rw [blobs_p] at haf
      obtain ⟨A9, bs, h1, h2, h3, h4⟩ := haf
      simp [opYield_def, yieldUpon, relAct, dstAt, Act.put, Region.wanted, go_sem, h1, factAt]
      have hbl : bs.length = 2 := by have := congrArg List.length h3; simpa using this
      have hj : join bs = a ++ b := by rw [join_of h3]; simp
      have hcc := Concat A9 bs 2 W h2 h4 (by omega) (by rw [hj]; simp; omega)
      rw [hbl] at hcc
      refine hcc.mono fun e W' h5 => ?_
      obtain ⟨v, he, ho, hb⟩ := h5
      refine ⟨v, he, hb, ?_⟩
      rw [hj] at ho
      simpa using own_base ho hE.size
  · intro vals W hE hF
    simp only [facts] at hF
    obtain ⟨_, _, _, _, _, _, _, _, h8, _⟩ := hF
    have h9 : W.ownsRow w1.heap.size 5 1 (vals 8) (a ++ b).length ((a ++ b).map byteV) := h8
    simp [relAct, dstAt, Act.put]
    have e2 := (bcl (o := 2) hE (by omega)).trans k2
    have e3 := (bcl (o := 3) hE (by omega)).trans k3
    have e4 := (bcl (o := 4) hE (by omega)).trans k4
    have e5 := (bcl (o := 5) hE (by omega)).trans k5
    have e6 := (bcl (o := 6) hE (by omega)).trans k6
    have hz := hE.size
    have hlab : (a ++ b).length ≤ 2002002 := by simp; omega
    generalize a ++ b = xs0 at *
    generalize vals 8 = v0 at *
    have hlt0 := fun k hk => (h9.lt k hk)
    clear k0 k1 k2 k3 k4 k5 k6
    have hbz : Below W.heap.size W (W.alloc (.cells #[.int .u32 g.s1, .int .u32 g.s2, .int .u32 g.s3, .int .u32 g.s4, .int .u32 g.s5] 25)) := (Below.refl _ _).alloc (Nat.le_refl _) _
    have hq : (W.alloc (.cells #[.int .u32 g.s1, .int .u32 g.s2, .int .u32 g.s3, .int .u32 g.s4, .int .u32 g.s5] 25)).heap[W.heap.size]? = some (.cells #[.int .u32 g.s1, .int .u32 g.s2, .int .u32 g.s3, .int .u32 g.s4, .int .u32 g.s5] 25 (0, 0)) := heap_alloc_new W _
    have q0 : (W.alloc (.cells #[.int .u32 g.s1, .int .u32 g.s2, .int .u32 g.s3, .int .u32 g.s4, .int .u32 g.s5] 25)).cell? ⟨W.heap.size, 0, none⟩ = some (.int .u32 g.s1) := by rw [cell_of_row _ _ 0 _ _ _ hq]; rfl
    have q1 : (W.alloc (.cells #[.int .u32 g.s1, .int .u32 g.s2, .int .u32 g.s3, .int .u32 g.s4, .int .u32 g.s5] 25)).cell? ⟨W.heap.size, 1, none⟩ = some (.int .u32 g.s2) := by rw [cell_of_row _ _ 1 _ _ _ hq]; rfl
    have q2 : (W.alloc (.cells #[.int .u32 g.s1, .int .u32 g.s2, .int .u32 g.s3, .int .u32 g.s4, .int .u32 g.s5] 25)).cell? ⟨W.heap.size, 2, none⟩ = some (.int .u32 g.s3) := by rw [cell_of_row _ _ 2 _ _ _ hq]; rfl
    have q3 : (W.alloc (.cells #[.int .u32 g.s1, .int .u32 g.s2, .int .u32 g.s3, .int .u32 g.s4, .int .u32 g.s5] 25)).cell? ⟨W.heap.size, 3, none⟩ = some (.int .u32 g.s4) := by rw [cell_of_row _ _ 3 _ _ _ hq]; rfl
    have q4 : (W.alloc (.cells #[.int .u32 g.s1, .int .u32 g.s2, .int .u32 g.s3, .int .u32 g.s4, .int .u32 g.s5] 25)).cell? ⟨W.heap.size, 4, none⟩ = some (.int .u32 g.s5) := by rw [cell_of_row _ _ 4 _ _ _ hq]; rfl
    have hzz : (W.alloc (.cells #[.int .u32 g.s1, .int .u32 g.s2, .int .u32 g.s3, .int .u32 g.s4, .int .u32 g.s5] 25)).heap.size = W.heap.size + 1 := by simp
    have HO0 := Lib.hid (own_below h9 hbz)
    have hn1 : ¬ some W.heap.size = v0.ownBlock := fun h => by have := hlt0 _ h.symm; omega
    have hBz := (hb1.trans (hE.mono (by omega))).trans (hbz.mono (by omega))
    clear hq h9 hlt0 hbz
    go_wp2_with fail
    clear e2 e3 e4 e5 e6
    refine wp_loop_rounds 6 ?_
    rw [rounds_succ]
    go_wp2_with fail
    generalize W.alloc (.cells #[.int .u32 g.s1, .int .u32 g.s2, .int .u32 g.s3, .int .u32 g.s4, .int .u32 g.s5] 25) = W0 at *
    have mv0 := Moved.refl v0 W0
    refine (put4 w1.heap.size v0 (xs0.length) _ g.s1 W0 HO0.out (by omega) (by omega) HG.out.s1).mono ?_
    rintro e W1 ⟨v1, rfl, own1, mvn1⟩
    have mv1 := mv0.trans mvn1
    have s1 := mv1.kept.size
    have r1 := (mv1.kept.cell (o := 1) (show W.heap.size < _ by omega) hn1).trans q1
    have HO1 := Lib.hid own1
    clear own1
    go_wp2_with fail
    rw [rounds_succ]
    go_wp2_with fail
    refine (put4 w1.heap.size v1 (xs0.length + 4) _ g.s2 W1 HO1.out (by omega) (by omega) HG.out.s2).mono ?_
    rintro e W2 ⟨v2, rfl, own2, mvn2⟩
    have mv2 := mv1.trans mvn2
    have s2 := mv2.kept.size
    have r2 := (mv2.kept.cell (o := 2) (show W.heap.size < _ by omega) hn1).trans q2
    have HO2 := Lib.hid own2
    clear own2
    go_wp2_with fail
    rw [rounds_succ]
    go_wp2_with fail
    refine (put4 w1.heap.size v2 (xs0.length + 4 + 4) _ g.s3 W2 HO2.out (by omega) (by omega) HG.out.s3).mono ?_
    rintro e W3 ⟨v3, rfl, own3, mvn3⟩
    have mv3 := mv2.trans mvn3
    have s3 := mv3.kept.size
    have r3 := (mv3.kept.cell (o := 3) (show W.heap.size < _ by omega) hn1).trans q3
    have HO3 := Lib.hid own3
    clear own3
    go_wp2_with fail
    rw [rounds_succ]
    go_wp2_with fail
    refine (put4 w1.heap.size v3 (xs0.length + 4 + 4 + 4) _ g.s4 W3 HO3.out (by omega) (by omega) HG.out.s4).mono ?_
    rintro e W4 ⟨v4, rfl, own4, mvn4⟩
    have mv4 := mv3.trans mvn4
    have s4 := mv4.kept.size
    have r4 := (mv4.kept.cell (o := 4) (show W.heap.size < _ by omega) hn1).trans q4
    have HO4 := Lib.hid own4
    clear own4
    go_wp2_with fail
    rw [rounds_succ]
    go_wp2_with fail
    refine (put4 w1.heap.size v4 (xs0.length + 4 + 4 + 4 + 4) _ g.s5 W4 HO4.out (by omega) (by omega) HG.out.s5).mono ?_
    rintro e W5 ⟨v5, rfl, own5, mvn5⟩
    have mv5 := mv4.trans mvn5
    have s5 := mv5.kept.size
    have HO5 := Lib.hid own5
    clear own5
    go_wp2_with fail
    rw [rounds_succ]
    go_wp2_with fail
    go_ret
    have hbF := hBz.trans (mv5.below HO0.out (by omega) |>.mono (by omega))
    refine ⟨_, rfl, ?_, hbF⟩
    have ho := own_base HO5.out (show w.heap.size ≤ w1.heap.size by omega)
    rw [HB2.out]
    have hl : (xs0 ++ be4 g.s1 ++ be4 g.s2 ++ be4 g.s3 ++ be4 g.s4 ++ be4 g.s5).length = xs0.length + 4 + 4 + 4 + 4 + 4 := by simp [be4]
    rw [hl]
    exact ho
end Nm
end Go.Proofs.YtkeimgamjnpcbaaGreat

/- Contracts of package rdata: the reading of a SOA. -/
namespace Go.Proofs.YtkeimgamjnpcbaaGreat
open Go.RowKit
set_option linter.unusedVariables false
namespace Nm
/-- where a SOA's numbers begin -/
def soaK (l : Lab) : Nat := openK l + openK (l.drop (openK l))
def soaM (l : Lab) : SoaM := ⟨openN l, openN (l.drop (openK l)), numOf ((l.drop (soaK l)).take 4) 0, numOf ((l.drop (soaK l + 4)).take 4) 0, numOf ((l.drop (soaK l + 8)).take 4) 0, numOf ((l.drop (soaK l + 12)).take 4) 0, numOf ((l.drop (soaK l + 16)).take 4) 0⟩
theorem soa_some {l : Lab} {m x : List Lab} {i k : Nat} (h1 : openO l = some (m, i)) (h2 : openO (l.drop i) = some (x, k)) : openN l = m ∧ openK l = i ∧ openN (l.drop i) = x ∧ soaK l = i + k ∧ (soaO l).isSome = decide (l.length = i + k + 20) := by
  obtain ⟨_, _, _, e1, e2⟩ := openO_some h1
  obtain ⟨_, _, _, e3, e4⟩ := openO_some h2
  refine ⟨e1, e2, e3, ?_, ?_⟩
  · unfold soaK
    rw [e2, e4]
  · unfold soaO
    rw [h1]
    simp only []
    rw [h2]
    simp only []
    split <;> simp_all
theorem heap_set {w : World} {g i : Nat} {cs : Array Value} {T : TypeId} {fr : Nat × Nat} {v : Value} (h : w.heap[g]? = some (.cells cs T fr)) : (w.setCell ⟨g, i, none⟩ v).heap[g]? = some (.cells (cs.setIfInBounds i v) T fr) := by
  simp [World.setCell, Array.getElem?_modify, h]
set_option maxRecDepth 100000 in
set_option maxHeartbeats 20000000 in
theorem Soa1 (r : Nat) (A : Option Addr) (l : Lab) (cap : Nat) (w : World) (h : Rdr w r A l cap 0) (hrw : r < w.heap.size) :
    Calls Tryz.prog 135 #[.pointer (some ⟨r, 0, none⟩)] w fun e w' =>
      Kept (fun b => b = r) w w' ∧ ((∃ j Am ca Bx cb, e = .returned ((soaM l).v Am ca Bx cb) ∧ Rdr w' r A l cap j ∧ (soaO l).isSome = decide (j = l.length) ∧
        w'.ownsRow w.heap.size 9 1 (.slice Am (soaM l).m.length ca) (soaM l).m.length ((soaM l).m.map strV) ∧ w'.ownsRow w.heap.size 9 1 (.slice Bx (soaM l).x.length cb) (soaM l).x.length ((soaM l).x.map strV)) ∨ ((soaO l).isSome = false ∧ e = .panicked mustP)) := by
  have hlen := h.len
  have H := Lib.hid h
  clear h
  go_enter Tryz.func135, Tryz.ntmps135
  go_wp2_with fail
  generalize hw1 : w.alloc (.cells #[.slice none 0 0, .slice none 0 0, .int .u32 0, .int .u32 0, .int .u32 0, .int .u32 0, .int .u32 0] 147) = w1
  have hb1 : Below w.heap.size w w1 := by rw [← hw1]; exact (Below.refl _ _).alloc (Nat.le_refl _) _
  have hz1 : w1.heap.size = w.heap.size + 1 := by rw [← hw1]; simp
  have hq1 : w1.heap[w.heap.size]? = some (.cells #[.slice none 0 0, .slice none 0 0, .int .u32 0, .int .u32 0, .int .u32 0, .int .u32 0, .int .u32 0] 147 (0, 0)) := by
    rw [← hw1]; exact heap_alloc_new w _
  have hR1 := H.out.ext hb1
  have hk01 := (Kept.of_ext hb1).mono (S' := fun b => b = r) (fun _ _ h => h.elim)
  clear hw1
  refine (name r A l cap 0 w1 hR1).mono ?_
  rintro e w2 ⟨hk2, ⟨m, i, v2, ho, rfl, hr2, hown2⟩ | ⟨ho, rfl⟩⟩
  · rw [List.drop_zero] at ho
    rw [Nat.zero_add] at hr2
    obtain ⟨Am, ca, rfl, _, _⟩ := Cs.of_own hown2
    have HO1 := Lib.hid ho
    have HW2 := Lib.hid hown2
    have hz2 := hk2.size
    clear ho hown2
    go_wp2_with fail
    refine (name r A l cap i w2 hr2).mono ?_
    rintro e w3 ⟨hk3, ⟨x, k, v3, ho, rfl, hr3, hown3⟩ | ⟨ho, rfl⟩⟩
    · obtain ⟨Bx, cb, rfl, _, _⟩ := Cs.of_own hown3
      obtain ⟨e1, e2, e3, e4, e5⟩ := soa_some HO1.out ho
      have HE1 := Lib.hid e1
      have HE2 := Lib.hid e2
      have HE3 := Lib.hid e3
      have HE4 := Lib.hid e4
      have HE5 := Lib.hid e5
      have HW3 := Lib.hid hown3
      have hz3 := hk3.size
      clear ho hown3 e1 e2 e3 e4 e5 HO1
      go_wp2_with fail
      generalize hkk : i + k = kk at *
      clear hkk
      generalize hw4 : w3.alloc (.cells #[.slice Am m.length ca, .slice Bx x.length cb, .int .u32 0, .int .u32 0, .int .u32 0, .int .u32 0, .int .u32 0] 147) = w4
      have hb4 : Below w3.heap.size w3 w4 := by rw [← hw4]; exact (Below.refl _ _).alloc (Nat.le_refl _) _
      have hz4 : w4.heap.size = w3.heap.size + 1 := by rw [← hw4]; simp
      have hg4 : w4.heap[w3.heap.size]? = some (.cells #[.slice Am m.length ca, .slice Bx x.length cb, .int .u32 0, .int .u32 0, .int .u32 0, .int .u32 0, .int .u32 0] 147 (0, 0)) := by rw [← hw4]; exact heap_alloc_new w3 _
      have hr4 := hr3.ext hb4
      have hq4 := (hb4.block _ (show w.heap.size < w3.heap.size by omega)).trans ((hk3.block _ (show w.heap.size < w2.heap.size by omega) (by omega)).trans ((hk2.block _ (show w.heap.size < w1.heap.size by omega) (by omega)).trans hq1))
      have hk04 := ((hk01.trans hk2).trans hk3).trans ((Kept.of_ext hb4).mono (S' := fun b => b = r) (fun _ _ h => h.elim))
      have HW2' := Lib.hid (own_below (Kept.row HW2.out hk3 (fun b hb => by have := (HW2.out.lt b hb).1; omega)) hb4)
      have HW3' := Lib.hid (own_below HW3.out hb4)
      have hgA : ∀ a, A = some a → l.map byteV ≠ [] → ¬ a.block = w3.heap.size := fun a ha hx => by have := H.out.cs.where ha hx; omega
      have HGA := Lib.hid hgA
      have hgr : ¬ w3.heap.size = r := by omega
      have hwr : ¬ w.heap.size = r := by omega
      have hwg : ¬ w.heap.size = w3.heap.size := by omega
      generalize hg3 : w3.heap.size = g at *
      clear hw4 hr3 hq1 hgA hR1 hr2 hb1 hk01 hk2 hk3 hb4
      by_cases hc1 : kk + 4 ≤ l.length
      · refine (num_yes r A l cap (kk) 4 w4 hr4 hc1).mono ?_
        rintro e wn1 ⟨rfl, hrn1, hkn1⟩
        have hqn1 := (hkn1.block _ (show w.heap.size < w4.heap.size from lt_block hq4) hwr).trans hq4
        have hgn1 := (hkn1.block _ (lt_block hg4) hgr).trans hg4
        have hkk1 := hk04.trans hkn1
        have HA1 := Lib.hid (Kept.row HW2'.out hkn1 (fun b hb hbr => by have := (HW2.out.lt b hb).1; omega))
        have HB1 := Lib.hid (Kept.row HW3'.out hkn1 (fun b hb hbr => by have := (HW3.out.lt b hb).1; omega))
        have HNU1 := numOf_lt ((l.drop (kk)).take 4) 0 (by omega)
        generalize hNE : numOf ((l.drop (kk)).take 4) 0 = n1 at *
        have HNE1 : Hid (numOf ((l.drop (kk + 0)).take 4) 0 = n1) := Lib.hid hNE
        clear hNE
        go_wp2_with fail
        by_cases hc2 : kk + 4 + 4 ≤ l.length
        · refine (num_yes r A l cap (kk + 4) 4 wn1 hrn1 hc2).mono ?_
          rintro e wn2 ⟨rfl, hrn2, hkn2⟩
          have hqn2 := (hkn2.block _ (show w.heap.size < wn1.heap.size from lt_block hqn1) hwr).trans hqn1
          have hgn2 := (hkn2.block _ (lt_block hgn1) hgr).trans hgn1
          have hkk2 := hkk1.trans hkn2
          have HA2 := Lib.hid (Kept.row HA1.out hkn2 (fun b hb hbr => by have := (HW2.out.lt b hb).1; omega))
          have HB2 := Lib.hid (Kept.row HB1.out hkn2 (fun b hb hbr => by have := (HW3.out.lt b hb).1; omega))
          have HNU2 := numOf_lt ((l.drop (kk + 4)).take 4) 0 (by omega)
          generalize hNE : numOf ((l.drop (kk + 4)).take 4) 0 = n2 at *
          have HNE2 : Hid (numOf ((l.drop (kk + 4)).take 4) 0 = n2) := Lib.hid hNE
          clear hNE
          go_wp2_with fail
          by_cases hc3 : kk + 4 + 4 + 4 ≤ l.length
          · refine (num_yes r A l cap (kk + 4 + 4) 4 wn2 hrn2 hc3).mono ?_
            rintro e wn3 ⟨rfl, hrn3, hkn3⟩
            have hqn3 := (hkn3.block _ (show w.heap.size < wn2.heap.size from lt_block hqn2) hwr).trans hqn2
            have hgn3 := (hkn3.block _ (lt_block hgn2) hgr).trans hgn2
            have hkk3 := hkk2.trans hkn3
            have HA3 := Lib.hid (Kept.row HA2.out hkn3 (fun b hb hbr => by have := (HW2.out.lt b hb).1; omega))
            have HB3 := Lib.hid (Kept.row HB2.out hkn3 (fun b hb hbr => by have := (HW3.out.lt b hb).1; omega))
            have HNU3 := numOf_lt ((l.drop (kk + 4 + 4)).take 4) 0 (by omega)
            generalize hNE : numOf ((l.drop (kk + 4 + 4)).take 4) 0 = n3 at *
            have HNE3 : Hid (numOf ((l.drop (kk + 8)).take 4) 0 = n3) := Lib.hid hNE
            clear hNE
            obtain ⟨u0, u1, u2, u3, u4, u5, u6, uf⟩ := cells7 hgn3
            have uf2 := uf 2
            have uf3 := uf 3
            have uf4 := uf 4
            go_wp2_with fail
            clear u0 u1 u2 u3 u4 u5 u6 uf uf2 uf3 uf4
            generalize hw8 : ((wn3.setCell ⟨g, 2, none⟩ (.int .u32 n1)).setCell ⟨g, 3, none⟩ (.int .u32 n2)).setCell ⟨g, 4, none⟩ (.int .u32 n3) = w8
            have hk8 : Kept (fun b => b = g) wn3 w8 := by rw [← hw8]; exact (((Kept.refl (fun b => b = g) _).setCell (p := ⟨g, 2, none⟩) (fun _ => rfl) _).setCell (p := ⟨g, 3, none⟩) (fun _ => rfl) _).setCell (p := ⟨g, 4, none⟩) (fun _ => rfl) _
            have hg8 : w8.heap[g]? = some (.cells #[.slice Am m.length ca, .slice Bx x.length cb, .int .u32 n1, .int .u32 n2, .int .u32 n3, .int .u32 0, .int .u32 0] 147 (0, 0)) := by rw [← hw8]; exact heap_set (heap_set (heap_set hgn3))
            have hq8 := (hk8.block _ (lt_block hqn3) hwg).trans hqn3
            have hr8 := hrn3.kept hk8 (fun h => hgr h.symm) HGA.out
            have hk08 := hkk3.then hk8 (fun b hb h => by omega)
            have HA8 := Lib.hid (Kept.row HA3.out hk8 (fun b hb hbr => by have := (HW2.out.lt b hb).2; omega))
            have HB8 := Lib.hid (Kept.row HB3.out hk8 (fun b hb hbr => by have := (HW3.out.lt b hb).2; omega))
            clear hw8 hqn1 hqn2 hqn3 hgn1 hgn2 hgn3 hrn1 hrn2 hrn3 hk8 hg4 hq4
            by_cases hc4 : kk + 4 + 4 + 4 + 4 ≤ l.length
            · refine (num_yes r A l cap (kk + 4 + 4 + 4) 4 w8 hr8 hc4).mono ?_
              rintro e wn4 ⟨rfl, hrn4, hkn4⟩
              have hqn4 := (hkn4.block _ (show w.heap.size < w8.heap.size from lt_block hq8) hwr).trans hq8
              have hgn4 := (hkn4.block _ (lt_block hg8) hgr).trans hg8
              have hkk4 := hk08.trans hkn4
              have HA4 := Lib.hid (Kept.row HA8.out hkn4 (fun b hb hbr => by have := (HW2.out.lt b hb).1; omega))
              have HB4 := Lib.hid (Kept.row HB8.out hkn4 (fun b hb hbr => by have := (HW3.out.lt b hb).1; omega))
              have HNU4 := numOf_lt ((l.drop (kk + 4 + 4 + 4)).take 4) 0 (by omega)
              generalize hNE : numOf ((l.drop (kk + 4 + 4 + 4)).take 4) 0 = n4 at *
              have HNE4 : Hid (numOf ((l.drop (kk + 12)).take 4) 0 = n4) := Lib.hid hNE
              clear hNE
              go_wp2_with fail
              by_cases hc5 : kk + 4 + 4 + 4 + 4 + 4 ≤ l.length
              · refine (num_yes r A l cap (kk + 4 + 4 + 4 + 4) 4 wn4 hrn4 hc5).mono ?_
                rintro e wn5 ⟨rfl, hrn5, hkn5⟩
                have hqn5 := (hkn5.block _ (show w.heap.size < wn4.heap.size from lt_block hqn4) hwr).trans hqn4
                have hgn5 := (hkn5.block _ (lt_block hgn4) hgr).trans hgn4
                have hkk5 := hkk4.trans hkn5
                have HA5 := Lib.hid (Kept.row HA4.out hkn5 (fun b hb hbr => by have := (HW2.out.lt b hb).1; omega))
                have HB5 := Lib.hid (Kept.row HB4.out hkn5 (fun b hb hbr => by have := (HW3.out.lt b hb).1; omega))
                have HNU5 := numOf_lt ((l.drop (kk + 4 + 4 + 4 + 4)).take 4) 0 (by omega)
                generalize hNE : numOf ((l.drop (kk + 4 + 4 + 4 + 4)).take 4) 0 = n5 at *
                have HNE5 : Hid (numOf ((l.drop (kk + 16)).take 4) 0 = n5) := Lib.hid hNE
                clear hNE
                obtain ⟨u0, u1, u2, u3, u4, u5, u6, uf⟩ := cells7 hgn5
                obtain ⟨q0, q1, q2, q3, q4, q5, q6, qf⟩ := cells7 hqn5
                have uf5 := uf 5
                have uf6 := uf 6
                have qf0 := qf 0
                have qf1 := qf 1
                have qf2 := qf 2
                have qf3 := qf 3
                have qf4 := qf 4
                have qf5 := qf 5
                have qf6 := qf 6
                go_wp2_with fail
                have hkg : Kept (fun b => b = g) wn5 ((wn5.setCell ⟨g, 5, none⟩ (.int .u32 n4)).setCell ⟨g, 6, none⟩ (.int .u32 n5)) := ((Kept.refl (fun b => b = g) wn5).setCell (p := ⟨g, 5, none⟩) (fun _ => rfl) (.int .u32 n4)).setCell (p := ⟨g, 6, none⟩) (fun _ => rfl) (.int .u32 n5)
                have hq10 := (hkg.block _ (lt_block hqn5) hwg).trans hqn5
                have hkw : Kept (fun b => b = w.heap.size) ((wn5.setCell ⟨g, 5, none⟩ (.int .u32 n4)).setCell ⟨g, 6, none⟩ (.int .u32 n5)) (((((((((wn5.setCell ⟨g, 5, none⟩ (.int .u32 n4)).setCell ⟨g, 6, none⟩ (.int .u32 n5)).setCell ⟨w.heap.size, 0, none⟩ (.slice Am m.length ca)).setCell ⟨w.heap.size, 1, none⟩ (.slice Bx x.length cb)).setCell ⟨w.heap.size, 2, none⟩ (.int .u32 n1)).setCell ⟨w.heap.size, 3, none⟩ (.int .u32 n2)).setCell ⟨w.heap.size, 4, none⟩ (.int .u32 n3)).setCell ⟨w.heap.size, 5, none⟩ (.int .u32 n4)).setCell ⟨w.heap.size, 6, none⟩ (.int .u32 n5)) := ((((((((Kept.refl (fun b => b = w.heap.size) _).setCell (p := ⟨w.heap.size, 0, none⟩) (fun _ => rfl) (.slice Am m.length ca)).setCell (p := ⟨w.heap.size, 1, none⟩) (fun _ => rfl) (.slice Bx x.length cb)).setCell (p := ⟨w.heap.size, 2, none⟩) (fun _ => rfl) (.int .u32 n1)).setCell (p := ⟨w.heap.size, 3, none⟩) (fun _ => rfl) (.int .u32 n2)).setCell (p := ⟨w.heap.size, 4, none⟩) (fun _ => rfl) (.int .u32 n3)).setCell (p := ⟨w.heap.size, 5, none⟩) (fun _ => rfl) (.int .u32 n4)).setCell (p := ⟨w.heap.size, 6, none⟩) (fun _ => rfl) (.int .u32 n5))
                have hq11 : (((((((((wn5.setCell ⟨g, 5, none⟩ (.int .u32 n4)).setCell ⟨g, 6, none⟩ (.int .u32 n5)).setCell ⟨w.heap.size, 0, none⟩ (.slice Am m.length ca)).setCell ⟨w.heap.size, 1, none⟩ (.slice Bx x.length cb)).setCell ⟨w.heap.size, 2, none⟩ (.int .u32 n1)).setCell ⟨w.heap.size, 3, none⟩ (.int .u32 n2)).setCell ⟨w.heap.size, 4, none⟩ (.int .u32 n3)).setCell ⟨w.heap.size, 5, none⟩ (.int .u32 n4)).setCell ⟨w.heap.size, 6, none⟩ (.int .u32 n5)).heap[w.heap.size]? = some (.cells #[.slice Am m.length ca, .slice Bx x.length cb, .int .u32 n1, .int .u32 n2, .int .u32 n3, .int .u32 n4, .int .u32 n5] 147 (0, 0)) := (heap_set (heap_set (heap_set (heap_set (heap_set (heap_set (heap_set hq10)))))))
                generalize (((((((((wn5.setCell ⟨g, 5, none⟩ (.int .u32 n4)).setCell ⟨g, 6, none⟩ (.int .u32 n5)).setCell ⟨w.heap.size, 0, none⟩ (.slice Am m.length ca)).setCell ⟨w.heap.size, 1, none⟩ (.slice Bx x.length cb)).setCell ⟨w.heap.size, 2, none⟩ (.int .u32 n1)).setCell ⟨w.heap.size, 3, none⟩ (.int .u32 n2)).setCell ⟨w.heap.size, 4, none⟩ (.int .u32 n3)).setCell ⟨w.heap.size, 5, none⟩ (.int .u32 n4)).setCell ⟨w.heap.size, 6, none⟩ (.int .u32 n5)) = w11 at *
                have hrF := (hrn5.kept hkg (fun h => hgr h.symm) HGA.out).kept hkw (fun h => hwr h.symm) (fun a ha hx => by have := H.out.cs.where ha hx; omega)
                have hkF := (hkk5.then hkg (fun b hb h => by omega)).then hkw (fun b hb h => by omega)
                have HAF := own_base (Kept.row (Kept.row HA5.out hkg (fun b hb hbr => by have := (HW2.out.lt b hb).2; omega)) hkw (fun b hb hbr => by have := (HW2.out.lt b hb).1; omega)) (show w.heap.size ≤ w1.heap.size by omega)
                have HBF := own_base (Kept.row (Kept.row HB5.out hkg (fun b hb hbr => by have := (HW3.out.lt b hb).2; omega)) hkw (fun b hb hbr => by have := (HW3.out.lt b hb).1; omega)) (show w.heap.size ≤ w2.heap.size by omega)
                obtain ⟨z0, z1, z2, z3, z4, z5, z6, _⟩ := cells7 hq11
                have hM : soaM l = ⟨m, x, n1, n2, n3, n4, n5⟩ := by
                  unfold soaM
                  rw [HE1.out, HE2.out, HE3.out, HE4.out, HNE2.out, HNE3.out, HNE4.out, HNE5.out, show (l.drop kk).take 4 = (l.drop (kk + 0)).take 4 from rfl, HNE1.out]
                rw [hM]
                refine bodyPost_ret (v := .agg #[.slice Am m.length ca, .slice Bx x.length cb, .int .u32 n1, .int .u32 n2, .int .u32 n3, .int .u32 n4, .int .u32 n5]) ?_ rfl ⟨hkF, .inl ⟨_, Am, ca, Bx, cb, rfl, hrF, ?_, HAF, HBF⟩⟩
                · simp [results, Tryz.results135, go_sem, z0, z1, z2, z3, z4, z5, z6]
                · rw [HE5.out, Bool.eq_iff_iff]
                  simp
                  omega
              · refine (num_no r A l cap (kk + 4 + 4 + 4 + 4) 4 wn4 hrn4 hc5 (by omega)).mono ?_
                rintro e wx ⟨rfl, hkx⟩
                have HN : Hid ((soaO l).isSome = false) := Lib.hid (by rw [HE5.out]; simp; omega)
                go_wp2_with fail
                exact ⟨rfl, hkk4.trans hkx, .inr ⟨HN.out, rfl⟩⟩
            · refine (num_no r A l cap (kk + 4 + 4 + 4) 4 w8 hr8 hc4 (by omega)).mono ?_
              rintro e wx ⟨rfl, hkx⟩
              have HN : Hid ((soaO l).isSome = false) := Lib.hid (by rw [HE5.out]; simp; omega)
              go_wp2_with fail
              exact ⟨rfl, hk08.trans hkx, .inr ⟨HN.out, rfl⟩⟩
          · refine (num_no r A l cap (kk + 4 + 4) 4 wn2 hrn2 hc3 (by omega)).mono ?_
            rintro e wx ⟨rfl, hkx⟩
            have HN : Hid ((soaO l).isSome = false) := Lib.hid (by rw [HE5.out]; simp; omega)
            go_wp2_with fail
            exact ⟨rfl, hkk2.trans hkx, .inr ⟨HN.out, rfl⟩⟩
        · refine (num_no r A l cap (kk + 4) 4 wn1 hrn1 hc2 (by omega)).mono ?_
          rintro e wx ⟨rfl, hkx⟩
          have HN : Hid ((soaO l).isSome = false) := Lib.hid (by rw [HE5.out]; simp; omega)
          go_wp2_with fail
          exact ⟨rfl, hkk1.trans hkx, .inr ⟨HN.out, rfl⟩⟩
      · refine (num_no r A l cap (kk) 4 w4 hr4 hc1 (by omega)).mono ?_
        rintro e wx ⟨rfl, hkx⟩
        have HN : Hid ((soaO l).isSome = false) := Lib.hid (by rw [HE5.out]; simp; omega)
        go_wp2_with fail
        exact ⟨rfl, hk04.trans hkx, .inr ⟨HN.out, rfl⟩⟩
    · have HO := Lib.hid ho
      clear ho
      go_wp2_with fail
      refine ⟨rfl, (hk01.trans hk2).trans hk3, .inr ⟨?_, rfl⟩⟩
      unfold soaO
      rw [HO1.out]
      simp only []
      rw [HO.out]
      rfl
  · have HO := Lib.hid ho
    clear ho
    go_wp2_with fail
    refine ⟨rfl, hk01.trans hk2, .inr ⟨?_, rfl⟩⟩
    have := HO.out
    rw [List.drop_zero] at this
    unfold soaO
    rw [this]
    rfl
end Nm
end Go.Proofs.YtkeimgamjnpcbaaGreat

/- Contracts of package rdata: read[Soa], Soa. -/
namespace Go.Proofs.YtkeimgamjnpcbaaGreat
open Go.RowKit
set_option linter.unusedVariables false
namespace Nm
set_option maxHeartbeats 4000000 in
theorem set7 {w : World} {a : Nat} {y0 y1 y2 y3 y4 y5 y6 : Value} {T : TypeId} (h : w.heap[a]? = some (.cells #[y0, y1, y2, y3, y4, y5, y6] T (0, 0))) (v0 v1 v2 v3 v4 v5 v6 : Value) {w' : World} (hw : w' = (((((((w.setCell ⟨a, 0, none⟩ v0).setCell ⟨a, 1, none⟩ v1).setCell ⟨a, 2, none⟩ v2).setCell ⟨a, 3, none⟩ v3).setCell ⟨a, 4, none⟩ v4).setCell ⟨a, 5, none⟩ v5).setCell ⟨a, 6, none⟩ v6)) :
    w'.heap[a]? = some (.cells #[v0, v1, v2, v3, v4, v5, v6] T (0, 0)) ∧ Kept (fun k => k = a) w w' := by
  subst hw
  exact ⟨(heap_set (heap_set (heap_set (heap_set (heap_set (heap_set (heap_set h))))))), ((((((((Kept.refl (fun k => k = a) w).setCell (p := ⟨a, 0, none⟩) (fun _ => rfl) v0).setCell (p := ⟨a, 1, none⟩) (fun _ => rfl) v1).setCell (p := ⟨a, 2, none⟩) (fun _ => rfl) v2).setCell (p := ⟨a, 3, none⟩) (fun _ => rfl) v3).setCell (p := ⟨a, 4, none⟩) (fun _ => rfl) v4).setCell (p := ⟨a, 5, none⟩) (fun _ => rfl) v5).setCell (p := ⟨a, 6, none⟩) (fun _ => rfl) v6)⟩
set_option maxRecDepth 100000 in
set_option maxHeartbeats 4000000 in
theorem readS1_panic (a b : Nat) (y0 y1 y2 y3 y4 y5 y6 x1 : Value) (w : World) (h0 : w.heap[a]? = some (.cells #[y0, y1, y2, y3, y4, y5, y6] 147 (0, 0))) (h1 : w.cell? ⟨b, 0, none⟩ = some x1)
    (f1 : w.frozen? ⟨b, 0, none⟩ = false) (l0 : a < w.heap.size) (l1 : b < w.heap.size) (hab : a < b) :
    CallsD Tryz.prog 183 #[.pointer (some ⟨a, 0, none⟩), .pointer (some ⟨b, 0, none⟩)] (.panicking mustP) w fun e u' w' =>
      e = .returned (.tuple #[]) ∧ u' = mustR ∧ w'.heap[a]? = some (.cells #[.slice none 0 0, .slice none 0 0, .int .u32 0, .int .u32 0, .int .u32 0, .int .u32 0, .int .u32 0] 147 (0, 0)) ∧ w'.cell? ⟨b, 0, none⟩ = some (.int .i64 50) ∧ Below a w w' := by
  have hta := asserted_must
  obtain ⟨g0, g1, g2, g3, g4, g5, g6, gf⟩ := cells7 h0
  have gf0 := gf 0
  have gf1 := gf 1
  have gf2 := gf 2
  have gf3 := gf 3
  have gf4 := gf 4
  have gf5 := gf 5
  have gf6 := gf 6
  refine callsD_of_wpS Tryz.func183 rfl fun c₀ cs hu => ?_
  apply wpS_seq
  apply wpS_region
  simp [wpOpsS, go_sem, recoverD, mustP, hu, Tryz.ntmps183, Exit.thenS]
  refine wpS_of_wp ?_
  simp only [Array.replicate_succ, Array.replicate_zero, List.push_toArray, List.append_toArray, List.nil_append, List.cons_append, List.setIfInBounds_toArray, List.set_cons_succ, List.set_cons_zero]
  have n0 : ¬ a = w.heap.size := by omega
  have n1 : ¬ b = w.heap.size := by omega
  have m0 : ¬ w.heap.size = a := by omega
  have m1 : ¬ w.heap.size = b := by omega
  have n2 : ¬ a = w.heap.size + 1 := by omega
  have n3 : ¬ b = w.heap.size + 1 := by omega
  have m2 : ¬ w.heap.size + 1 = a := by omega
  have m3 : ¬ w.heap.size + 1 = b := by omega
  have d0 : ¬ a = b := by omega
  have d1 : ¬ b = a := by omega
  go_wp2_with fail
  obtain ⟨z0, hk⟩ := set7 h0 (.slice none 0 0) (.slice none 0 0) (.int .u32 0) (.int .u32 0) (.int .u32 0) (.int .u32 0) (.int .u32 0) rfl
  have z1 := setc_same (v := .int .i64 50) ((hk.cell (o := 0) l1 (by omega)).trans h1)
  have hs := hk.size
  have hk2 := hk.setCell (S := fun k => k = a) (p := ⟨b, 0, none⟩)
  have z2 : ((World.setCell (((((((w.setCell ⟨a, 0, none⟩ (.slice none 0 0)).setCell ⟨a, 1, none⟩ (.slice none 0 0)).setCell ⟨a, 2, none⟩ (.int .u32 0)).setCell ⟨a, 3, none⟩ (.int .u32 0)).setCell ⟨a, 4, none⟩ (.int .u32 0)).setCell ⟨a, 5, none⟩ (.int .u32 0)).setCell ⟨a, 6, none⟩ (.int .u32 0)) ⟨b, 0, none⟩ (.int .i64 50))).heap[a]? = some (.cells #[.slice none 0 0, .slice none 0 0, .int .u32 0, .int .u32 0, .int .u32 0, .int .u32 0, .int .u32 0] 147 (0, 0)) :=
    (Below.heap_setCell _ _ _ _ (show a ≠ b by omega)).trans z0
  have hB := ((hk.below (B := a) (by omega) (fun k hk => by omega)).setCell (p := ⟨b, 0, none⟩) (show a ≤ b by omega) (.int .i64 50))
  have hBs := hB.size
  clear hk2 z0 hk
  generalize (World.setCell (((((((w.setCell ⟨a, 0, none⟩ (.slice none 0 0)).setCell ⟨a, 1, none⟩ (.slice none 0 0)).setCell ⟨a, 2, none⟩ (.int .u32 0)).setCell ⟨a, 3, none⟩ (.int .u32 0)).setCell ⟨a, 4, none⟩ (.int .u32 0)).setCell ⟨a, 5, none⟩ (.int .u32 0)).setCell ⟨a, 6, none⟩ (.int .u32 0)) ⟨b, 0, none⟩ (.int .i64 50)) = W at *
  have la : a < W.heap.size := by omega
  exact ⟨rfl, _, rfl, _, results_none rfl _ _ _, rfl, rfl, (Below.heap_alloc _ _ _ (by simp; omega)).trans ((Below.heap_alloc _ _ _ la).trans z2), alloc_cell _ (alloc_cell _ z1), (hB.alloc (by omega) _).alloc (by simp; omega) _⟩
theorem readS1_idle (a b : Addr) (w : World) : CallsD Tryz.prog 183 #[.pointer (some a), .pointer (some b)] .returning w fun e u' w' => e = .returned (.tuple #[]) ∧ u' = .returning ∧ w' = w := by
  refine callsD_of_wpS Tryz.func183 rfl fun c₀ cs hu => ?_
  apply wpS_seq
  apply wpS_region
  simp [wpOpsS, go_sem, recoverD, hu, Tryz.ntmps183, Exit.thenS]
  refine wpS_of_wp ?_
  simp only [Array.replicate_succ, Array.replicate_zero, List.push_toArray, List.append_toArray, List.nil_append, List.cons_append, List.setIfInBounds_toArray, List.set_cons_succ, List.set_cons_zero]
  go_wp2_with fail
  exact ⟨rfl, .returning, by cases c₀; simp_all, _, results_none rfl _ _ _, rfl, rfl, rfl⟩
def soaB (l : Lab) : Bool := (soaO l).isSome
def SoaPost (w w' : World) (l : Lab) (v : Value) : Prop := (soaB l = false → v = .agg #[.slice none 0 0, .slice none 0 0, .int .u32 0, .int .u32 0, .int .u32 0, .int .u32 0, .int .u32 0]) ∧ (soaB l = true → ∃ Am ca Bx cb, v = (soaM l).v Am ca Bx cb ∧
  w'.ownsRow w.heap.size 9 1 (.slice Am (soaM l).m.length ca) (soaM l).m.length ((soaM l).m.map strV) ∧ w'.ownsRow w.heap.size 9 1 (.slice Bx (soaM l).x.length cb) (soaM l).x.length ((soaM l).x.map strV))
set_option maxRecDepth 100000 in
set_option maxHeartbeats 4000000 in
theorem readS (A : Option Addr) (l : Lab) (cap : Nat) (w : World) (hc : Cs w A (l.map byteV)) (hl : l.length ≤ 100000) (hcap : l.length ≤ cap) (hcap2 : cap ≤ maxLen) :
    Calls Tryz.prog 134 #[.slice A l.length cap, .func (.func 135) #[] #[]] w fun e w' =>
      Below w.heap.size w w' ∧ ∃ v, e = .returned (.tuple #[v, .int .i64 (code50 (soaB l))]) ∧ SoaPost w w' l v := by
  have hmf : ∀ (fn : Fn) (first cap : Array Value) (w : World), (Instr.makeFunc fn first cap).run Tryz.prog w = .ok (.func fn first cap) w := fun _ _ _ _ => rfl
  go_enter_defers Tryz.func134, Tryz.ntmps134
  go_wp2_with fail
  generalize hw3 : ((w.alloc (.cells #[.slice none 0 0, .slice none 0 0, .int .u32 0, .int .u32 0, .int .u32 0, .int .u32 0, .int .u32 0] 147)).alloc (.cells #[.int .i64 0] 52)).alloc (.cells #[.slice A l.length cap, .int .i64 0] 201) = w3
  have hb3 : Below w.heap.size w w3 := by rw [← hw3]; exact (((Below.refl _ _).alloc (Nat.le_refl _) _).alloc (by simp) _).alloc (by simp; omega) _
  have hsz3 : w3.heap.size = w.heap.size + 3 := by rw [← hw3]; simp
  have q3 : w3.heap[w.heap.size]? = some (.cells #[.slice none 0 0, .slice none 0 0, .int .u32 0, .int .u32 0, .int .u32 0, .int .u32 0, .int .u32 0] 147 (0, 0)) := by
    rw [← hw3]
    rw [Below.heap_alloc _ _ _ (by simp; omega), Below.heap_alloc _ _ _ (by simp)]
    exact heap_alloc_new w _
  have c1 : w3.cell? ⟨w.heap.size + 1, 0, none⟩ = some (.int .i64 0) := by rw [← hw3]; simp [go_sem]
  have f1 : w3.frozen? ⟨w.heap.size + 1, 0, none⟩ = false := by rw [← hw3]; simp [go_sem]
  have hR : Rdr w3 (w.heap.size + 1 + 1) A l cap 0 := by
    refine ⟨by rw [← hw3]; simp [go_sem], by rw [← hw3]; simp [go_sem], by rw [← hw3]; simp [go_sem], by omega, hc.below hb3, ?_, hl, hcap, hcap2, Nat.zero_le _⟩
    intro a ha hx
    have := hc.where ha hx
    omega
  clear hw3
  refine (Soa1 (w.heap.size + 1 + 1) A l cap w3 hR (by omega)).mono ?_
  rintro e w4 ⟨hk4, hcase⟩
  have q4 := (hk4.block _ (show w.heap.size < w3.heap.size by omega) (by omega)).trans q3
  have d1 := (hk4.cell (b := w.heap.size + 1) (o := 0) (by omega) (by omega)).trans c1
  have g1 := (hk4.frozen (b := w.heap.size + 1) (o := 0) (by omega) (by omega)).trans f1
  have hsz4 := hk4.size
  have hb4 : Below w.heap.size w w4 := hb3.trans (hk4.below (by omega) (fun k hk => by omega))
  clear c1 f1 hR q3 hk4
  have door : ∀ (y0 y1 y2 y3 y4 y5 y6 : Value) (W : World), Below w.heap.size w W → W.heap[w.heap.size]? = some (.cells #[y0, y1, y2, y3, y4, y5, y6] 147 (0, 0)) → W.cell? ⟨w.heap.size + 1, 0, none⟩ = some (.int .i64 0) → W.frozen? ⟨w.heap.size + 1, 0, none⟩ = false → w.heap.size + 3 ≤ W.heap.size →
      CallsD Tryz.prog 183 #[.pointer (some ⟨w.heap.size, 0, none⟩), .pointer (some ⟨w.heap.size + 1, 0, none⟩)] (.panicking mustP) W fun e u' w' =>
      e = .returned (.tuple #[]) ∧ u' = mustR ∧ w'.heap[w.heap.size]? = some (.cells #[.slice none 0 0, .slice none 0 0, .int .u32 0, .int .u32 0, .int .u32 0, .int .u32 0, .int .u32 0] 147 (0, 0)) ∧ w'.cell? ⟨w.heap.size + 1, 0, none⟩ = some (.int .i64 50) ∧ Below w.heap.size w w' := fun y0 y1 y2 y3 y4 y5 y6 W hb k0 k1 j1 hs =>
    (readS1_panic w.heap.size (w.heap.size + 1) _ _ _ _ _ _ _ _ W k0 k1 j1 (by omega) (by omega) (by omega)).mono fun e u' w' ⟨h1, h2, h3, h4, h5⟩ => ⟨h1, h2, h3, h4, hb.trans h5⟩
  have HD := Lib.hid door
  clear door
  obtain ⟨M, X, n1, n2, n3, n4, n5, hsm⟩ : ∃ M X n1 n2 n3 n4 n5, soaM l = ⟨M, X, n1, n2, n3, n4, n5⟩ := ⟨_, _, _, _, _, _, _, rfl⟩
  rw [hsm] at hcase
  unfold SoaM.v at hcase
  simp only at hcase
  have HSM := Lib.hid hsm
  clear hsm
  have HSO : Hid ((soaO l).isSome = soaB l) := Lib.hid rfl
  rw [HSO.out] at hcase
  have n0 : ¬ w.heap.size = w.heap.size + 1 := by omega
  have nn1 : ¬ w.heap.size = w.heap.size + 1 + 1 := by omega
  have nn2 : ¬ w.heap.size + 1 = w.heap.size := by omega
  have nn3 : ¬ w.heap.size + 1 + 1 = w.heap.size := by omega
  rcases hcase with ⟨j, Am, ca, Bx, cb, rfl, hr, hs, hownM, hownX⟩ | ⟨hs, rfl⟩
  · have HS := Lib.hid hs
    have e1 := hr.c1
    have hlj := hr.le
    obtain ⟨u0, u1, u2, u3, u4, u5, u6, uf⟩ := cells7 q4
    have uf0 := uf 0
    have uf1 := uf 1
    have uf2 := uf 2
    have uf3 := uf 3
    have uf4 := uf 4
    have uf5 := uf 5
    have uf6 := uf 6
    clear hs hr
    by_cases hj : j = l.length
    · have hjb : ((j : Int) == (l.length : Int)) = true := by simp [hj]
      have HT : Hid (soaB l = true) := Lib.hid (by rw [HS.out]; simpa using hj)
      clear hj HS
      go_wp2_with fail
      obtain ⟨qA, hkA⟩ := set7 q4 (.slice Am M.length ca) (.slice Bx X.length cb) (.int .u32 n1) (.int .u32 n2) (.int .u32 n3) (.int .u32 n4) (.int .u32 n5) rfl
      generalize (((((((w4.setCell ⟨w.heap.size, 0, none⟩ (.slice Am M.length ca)).setCell ⟨w.heap.size, 1, none⟩ (.slice Bx X.length cb)).setCell ⟨w.heap.size, 2, none⟩ (.int .u32 n1)).setCell ⟨w.heap.size, 3, none⟩ (.int .u32 n2)).setCell ⟨w.heap.size, 4, none⟩ (.int .u32 n3)).setCell ⟨w.heap.size, 5, none⟩ (.int .u32 n4)).setCell ⟨w.heap.size, 6, none⟩ (.int .u32 n5)) = w5 at *
      have hbA : Below w.heap.size w w5 := hb4.trans (hkA.below (B := w.heap.size) (by omega) (fun k hk => by omega))
      have hsA := hkA.size
      have dA := (hkA.cell (b := w.heap.size + 1) (o := 0) (by omega) (by omega)).trans d1
      have gA := (hkA.frozen (b := w.heap.size + 1) (o := 0) (by omega) (by omega)).trans g1
      obtain ⟨t0, t1, t2, t3, t4, t5, t6, tf⟩ := cells7 qA
      have tf0 := tf 0
      have tf1 := tf 1
      have tf2 := tf 2
      have tf3 := tf 3
      have tf4 := tf 4
      have tf5 := tf 5
      have tf6 := tf 6
      have hownM' := Kept.row hownM hkA (fun k hk => by have := (hownM.lt k hk).1; omega)
      have hownX' := Kept.row hownX hkA (fun k hk => by have := (hownX.lt k hk).1; omega)
      clear u0 u1 u2 u3 u4 u5 u6 uf uf0 uf1 uf2 uf3 uf4 uf5 uf6 q4 d1 g1 e1 hkA
      refine (must_yes _).mono ?_
      rintro e w' ⟨rfl, rfl⟩
      go_wp2_with fail
      obtain ⟨qB, hkB⟩ := set7 qA (.slice Am M.length ca) (.slice Bx X.length cb) (.int .u32 n1) (.int .u32 n2) (.int .u32 n3) (.int .u32 n4) (.int .u32 n5) rfl
      have hsB := hkB.size
      have dB := (hkB.cell (b := w.heap.size + 1) (o := 0) (by omega) (by omega)).trans dA
      have hbB := hbA.trans (hkB.below (B := w.heap.size) (by omega) (fun k hk => by omega))
      have hownM2 := Kept.row hownM' hkB (fun k hk => by have := (hownM.lt k hk).1; omega)
      have hownX2 := Kept.row hownX' hkB (fun k hk => by have := (hownX.lt k hk).1; omega)
      generalize (((((((w5.setCell ⟨w.heap.size, 0, none⟩ (.slice Am M.length ca)).setCell ⟨w.heap.size, 1, none⟩ (.slice Bx X.length cb)).setCell ⟨w.heap.size, 2, none⟩ (.int .u32 n1)).setCell ⟨w.heap.size, 3, none⟩ (.int .u32 n2)).setCell ⟨w.heap.size, 4, none⟩ (.int .u32 n3)).setCell ⟨w.heap.size, 5, none⟩ (.int .u32 n4)).setCell ⟨w.heap.size, 6, none⟩ (.int .u32 n5)) = w6 at *
      have hkC : Kept (fun k => k = w.heap.size + 1) w6 (w6.setCell ⟨w.heap.size + 1, 0, none⟩ (.int .i64 0)) := (Kept.refl _ _).setCell (S := fun k => k = w.heap.size + 1) (p := ⟨w.heap.size + 1, 0, none⟩) (fun _ => rfl) _
      have qC := (hkC.block _ (show w.heap.size < w6.heap.size by omega) (by omega)).trans qB
      have dC := setc_same (v := .int .i64 0) dB
      have hbC := hbB.trans (hkC.below (B := w.heap.size) (by omega) (fun k hk => by omega))
      have hownM3 := Kept.row hownM2 hkC (fun k hk => by have := (hownM.lt k hk).1; omega)
      have hownX3 := Kept.row hownX2 hkC (fun k hk => by have := (hownX.lt k hk).1; omega)
      generalize w6.setCell ⟨w.heap.size + 1, 0, none⟩ (.int .i64 0) = w7 at *
      refine leaves_cons (f := 183) (args := #[.pointer (some ⟨w.heap.size, 0, none⟩), .pointer (some ⟨w.heap.size + 1, 0, none⟩)]) (by simp) (by simp [go_sem]) ?_
      refine (readS1_idle _ _ _).mono ?_
      rintro e u' w9 ⟨rfl, rfl, rfl⟩
      obtain ⟨y0, y1, y2, y3, y4, y5, y6, _⟩ := cells7 qC
      simp [Leaves, settle, results, Tryz.results134, go_sem, y0, y1, y2, y3, y4, y5, y6, dC]
      refine ⟨hbC, _, ⟨rfl, by rw [HT.out]; rfl⟩, fun h => ?_, fun _ => ⟨Am, ca, Bx, cb, ?_, ?_, ?_⟩⟩
      · rw [HT.out] at h; cases h
      · rw [HSM.out]; rfl
      · rw [HSM.out]; exact own_base hownM3 (by omega)
      · rw [HSM.out]; exact own_base hownX3 (by omega)
    · have hjb : ((j : Int) == (l.length : Int)) = false := by simp; omega
      have HT : Hid (soaB l = false) := Lib.hid (by rw [HS.out]; simpa using hj)
      clear hj HS
      go_wp2_with fail
      obtain ⟨qA, hkA⟩ := set7 q4 (.slice Am M.length ca) (.slice Bx X.length cb) (.int .u32 n1) (.int .u32 n2) (.int .u32 n3) (.int .u32 n4) (.int .u32 n5) rfl
      generalize (((((((w4.setCell ⟨w.heap.size, 0, none⟩ (.slice Am M.length ca)).setCell ⟨w.heap.size, 1, none⟩ (.slice Bx X.length cb)).setCell ⟨w.heap.size, 2, none⟩ (.int .u32 n1)).setCell ⟨w.heap.size, 3, none⟩ (.int .u32 n2)).setCell ⟨w.heap.size, 4, none⟩ (.int .u32 n3)).setCell ⟨w.heap.size, 5, none⟩ (.int .u32 n4)).setCell ⟨w.heap.size, 6, none⟩ (.int .u32 n5)) = w5 at *
      have hbA : Below w.heap.size w w5 := hb4.trans (hkA.below (B := w.heap.size) (by omega) (fun k hk => by omega))
      have hsA := hkA.size
      have dA := (hkA.cell (b := w.heap.size + 1) (o := 0) (by omega) (by omega)).trans d1
      have gA := (hkA.frozen (b := w.heap.size + 1) (o := 0) (by omega) (by omega)).trans g1
      clear u0 u1 u2 u3 u4 u5 u6 uf uf0 uf1 uf2 uf3 uf4 uf5 uf6 q4 d1 g1 e1 hkA
      refine (must_no _).mono ?_
      rintro e w' ⟨rfl, rfl⟩
      go_wp2_with fail
      refine leaves_cons (f := 183) (args := #[.pointer (some ⟨w.heap.size, 0, none⟩), .pointer (some ⟨w.heap.size + 1, 0, none⟩)]) (by simp) (by simp [go_sem]) ?_
      refine (HD.out _ _ _ _ _ _ _ w5 hbA qA dA gA (by omega)).mono ?_
      rintro e u' w9 ⟨rfl, rfl, zq, z1, hb5⟩
      obtain ⟨y0, y1, y2, y3, y4, y5, y6, _⟩ := cells7 zq
      simp [Leaves, settle, mustR, results, Tryz.results134, go_sem, y0, y1, y2, y3, y4, y5, y6, z1]
      refine ⟨hb5, _, ⟨rfl, by rw [HT.out]; rfl⟩, fun _ => rfl, fun h => ?_⟩
      rw [HT.out] at h
      cases h
  · have HS := Lib.hid hs
    clear hs
    go_wp2_with fail
    refine leaves_cons (f := 183) (args := #[.pointer (some ⟨w.heap.size, 0, none⟩), .pointer (some ⟨w.heap.size + 1, 0, none⟩)]) (by simp) (by simp [go_sem]) ?_
    refine (HD.out _ _ _ _ _ _ _ w4 hb4 q4 d1 g1 (by omega)).mono ?_
    rintro e u' w5 ⟨rfl, rfl, zq, z1, hb5⟩
    obtain ⟨y0, y1, y2, y3, y4, y5, y6, _⟩ := cells7 zq
    simp [Leaves, settle, mustR, results, Tryz.results134, go_sem, y0, y1, y2, y3, y4, y5, y6, z1]
    refine ⟨hb5, _, ⟨rfl, by rw [HS.out]; rfl⟩, fun _ => rfl, fun h => ?_⟩
    rw [HS.out] at h
    cases h
end Nm
end Go.Proofs.YtkeimgamjnpcbaaGreat

/- Contracts of package rdata: read[api.KeyData], whatever is read. (Printed by a program.) -/
namespace Go.Proofs.YtkeimgamjnpcbaaGreat
open Go.RowKit
set_option linter.unusedVariables false
set_option linter.unusedSimpArgs false
namespace Nm
theorem cellsK {w : World} {g : Nat} {T : TypeId} {c0 c1 c2 c3 : Value} (h : w.heap[g]? = some (.cells #[c0, c1, c2, c3] T (0, 0))) :
    w.cell? ⟨g, 0, none⟩ = some c0 ∧ w.cell? ⟨g, 1, none⟩ = some c1 ∧ w.cell? ⟨g, 2, none⟩ = some c2 ∧ w.cell? ⟨g, 3, none⟩ = some c3 ∧ ∀ i, w.frozen? ⟨g, i, none⟩ = false := by
  refine ⟨?_, ?_, ?_, ?_, fun i => by simp [World.frozen?, h]⟩ <;> (rw [cell_of_row w g _ _ _ _ h]; rfl)
set_option maxHeartbeats 4000000 in
theorem setK {w : World} {a : Nat} {y0 y1 y2 y3 : Value} {T : TypeId} (h : w.heap[a]? = some (.cells #[y0, y1, y2, y3] T (0, 0))) (v0 v1 v2 v3 : Value) {w' : World} (hw : w' = ((((w).setCell ⟨a, 0, none⟩ v0).setCell ⟨a, 1, none⟩ v1).setCell ⟨a, 2, none⟩ v2).setCell ⟨a, 3, none⟩ v3) :
    w'.heap[a]? = some (.cells #[v0, v1, v2, v3] T (0, 0)) ∧ Kept (fun k => k = a) w w' := by
  subst hw
  have e0 : ((w).setCell ⟨a, 0, none⟩ v0).heap[a]? = some (.cells #[v0, y1, y2, y3] T (0, 0)) := heap_set h
  have e1 : (((w).setCell ⟨a, 0, none⟩ v0).setCell ⟨a, 1, none⟩ v1).heap[a]? = some (.cells #[v0, v1, y2, y3] T (0, 0)) := heap_set e0
  have e2 : ((((w).setCell ⟨a, 0, none⟩ v0).setCell ⟨a, 1, none⟩ v1).setCell ⟨a, 2, none⟩ v2).heap[a]? = some (.cells #[v0, v1, v2, y3] T (0, 0)) := heap_set e1
  have e3 : (((((w).setCell ⟨a, 0, none⟩ v0).setCell ⟨a, 1, none⟩ v1).setCell ⟨a, 2, none⟩ v2).setCell ⟨a, 3, none⟩ v3).heap[a]? = some (.cells #[v0, v1, v2, v3] T (0, 0)) := heap_set e2
  exact ⟨e3, ((((Kept.refl (fun k => k = a) w).setCell (p := ⟨a, 0, none⟩) (fun _ => rfl) v0).setCell (p := ⟨a, 1, none⟩) (fun _ => rfl) v1).setCell (p := ⟨a, 2, none⟩) (fun _ => rfl) v2).setCell (p := ⟨a, 3, none⟩) (fun _ => rfl) v3⟩
set_option maxRecDepth 100000 in
set_option maxHeartbeats 8000000 in
theorem readK_panic (a b : Nat) (y0 y1 y2 y3 x1 : Value) (w : World) (h0 : w.heap[a]? = some (.cells #[y0, y1, y2, y3] 157 (0, 0))) (h1 : w.cell? ⟨b, 0, none⟩ = some x1)
    (f1 : w.frozen? ⟨b, 0, none⟩ = false) (l0 : a < w.heap.size) (l1 : b < w.heap.size) (hab : a < b) :
    CallsD Tryz.prog 188 #[.pointer (some ⟨a, 0, none⟩), .pointer (some ⟨b, 0, none⟩)] (.panicking mustP) w fun e u' w' =>
      e = .returned (.tuple #[]) ∧ u' = mustR ∧ w'.heap[a]? = some (.cells #[.int .u16 0, .int .u8 0, .int .u8 0, .slice none 0 0] 157 (0, 0)) ∧ w'.cell? ⟨b, 0, none⟩ = some (.int .i64 50) ∧ Below a w w' := by
  have hta := asserted_must
  obtain ⟨g0, g1, g2, g3, gf⟩ := cellsK h0
  have gf0 := gf 0
  have gf1 := gf 1
  have gf2 := gf 2
  have gf3 := gf 3
  refine callsD_of_wpS Tryz.func188 rfl fun c₀ cs hu => ?_
  apply wpS_seq
  apply wpS_region
  simp [wpOpsS, go_sem, recoverD, mustP, hu, Tryz.ntmps188, Exit.thenS]
  refine wpS_of_wp ?_
  simp only [Array.replicate_succ, Array.replicate_zero, List.push_toArray, List.append_toArray, List.nil_append, List.cons_append, List.setIfInBounds_toArray, List.set_cons_succ, List.set_cons_zero]
  have n0 : ¬ a = w.heap.size := by omega
  have n1 : ¬ b = w.heap.size := by omega
  have m0 : ¬ w.heap.size = a := by omega
  have m1 : ¬ w.heap.size = b := by omega
  have n2 : ¬ a = w.heap.size + 1 := by omega
  have n3 : ¬ b = w.heap.size + 1 := by omega
  have m2 : ¬ w.heap.size + 1 = a := by omega
  have m3 : ¬ w.heap.size + 1 = b := by omega
  have d0 : ¬ a = b := by omega
  have d1 : ¬ b = a := by omega
  go_wp2_with fail
  obtain ⟨z0, hk⟩ := setK h0 (.int .u16 0) (.int .u8 0) (.int .u8 0) (.slice none 0 0) rfl
  have z1 := setc_same (v := .int .i64 50) ((hk.cell (o := 0) l1 (by omega)).trans h1)
  have hs := hk.size
  have z2 : (World.setCell (((((w).setCell ⟨a, 0, none⟩ (.int .u16 0)).setCell ⟨a, 1, none⟩ (.int .u8 0)).setCell ⟨a, 2, none⟩ (.int .u8 0)).setCell ⟨a, 3, none⟩ (.slice none 0 0)) ⟨b, 0, none⟩ (.int .i64 50)).heap[a]? = some (.cells #[.int .u16 0, .int .u8 0, .int .u8 0, .slice none 0 0] 157 (0, 0)) :=
    (Below.heap_setCell _ _ _ _ (show a ≠ b by omega)).trans z0
  have hB := ((hk.below (B := a) (by omega) (fun k hk => by omega)).setCell (p := ⟨b, 0, none⟩) (show a ≤ b by omega) (.int .i64 50))
  have hBs := hB.size
  clear z0 hk
  generalize World.setCell (((((w).setCell ⟨a, 0, none⟩ (.int .u16 0)).setCell ⟨a, 1, none⟩ (.int .u8 0)).setCell ⟨a, 2, none⟩ (.int .u8 0)).setCell ⟨a, 3, none⟩ (.slice none 0 0)) ⟨b, 0, none⟩ (.int .i64 50) = W at *
  have la : a < W.heap.size := by omega
  exact ⟨rfl, _, rfl, _, results_none rfl _ _ _, rfl, rfl, (Below.heap_alloc _ _ _ (by simp; omega)).trans ((Below.heap_alloc _ _ _ la).trans z2), alloc_cell _ (alloc_cell _ z1), (hB.alloc (by omega) _).alloc (by simp; omega) _⟩
theorem readK_idle (a b : Addr) (w : World) : CallsD Tryz.prog 188 #[.pointer (some a), .pointer (some b)] .returning w fun e u' w' => e = .returned (.tuple #[]) ∧ u' = .returning ∧ w' = w := by
  refine callsD_of_wpS Tryz.func188 rfl fun c₀ cs hu => ?_
  apply wpS_seq
  apply wpS_region
  simp [wpOpsS, go_sem, recoverD, hu, Tryz.ntmps188, Exit.thenS]
  refine wpS_of_wp ?_
  simp only [Array.replicate_succ, Array.replicate_zero, List.push_toArray, List.append_toArray, List.nil_append, List.cons_append, List.setIfInBounds_toArray, List.set_cons_succ, List.set_cons_zero]
  go_wp2_with fail
  exact ⟨rfl, .returning, by cases c₀; simp_all, _, results_none rfl _ _ _, rfl, rfl, rfl⟩
/-- what is said of the cells that are read: rows of their own from block B on -/
structure SaysK (P : Value → Value → Value → Value → Nat → World → Prop) : Prop where
  keep : ∀ v0 v1 v2 v3 B (S : Nat → Prop) W W', P v0 v1 v2 v3 B W → Kept S W W' → (∀ b, B ≤ b → ¬ S b) → P v0 v1 v2 v3 B W'
  base : ∀ v0 v1 v2 v3 B B' W, B' ≤ B → P v0 v1 v2 v3 B W → P v0 v1 v2 v3 B' W
set_option maxRecDepth 100000 in
set_option maxHeartbeats 8000000 in
theorem readK (G : Bool → Prop) (P : Value → Value → Value → Value → Nat → World → Prop) (hP : SaysK P) (A : Option Addr) (l : Lab) (cap : Nat) (w : World) (hc : Cs w A (l.map byteV)) (hl : l.length ≤ 100000) (hcap : l.length ≤ cap) (hcap2 : cap ≤ maxLen)
    (HC : ∀ W r, Rdr W r A l cap 0 → r < W.heap.size → Calls Tryz.prog 147 #[.pointer (some ⟨r, 0, none⟩)] W fun e w' => Kept (fun b => b = r) W w' ∧ ∃ ok, G ok ∧ ((∃ j i0 i1 i2 A3 n3 c3, e = .returned (.agg #[.int .u16 i0, .int .u8 i1, .int .u8 i2, .slice A3 n3 c3]) ∧ Rdr w' r A l cap j ∧ ok = decide (j = l.length) ∧ P (.int .u16 i0) (.int .u8 i1) (.int .u8 i2) (.slice A3 n3 c3) W.heap.size w') ∨ (ok = false ∧ e = .panicked mustP))) :
    Calls Tryz.prog 146 #[.slice A l.length cap, .func (.func 147) #[] #[]] w fun e w' =>
      Below w.heap.size w w' ∧ ∃ ok, G ok ∧ ((ok = true ∧ ∃ i0 i1 i2 A3 n3 c3, e = .returned (.tuple #[.agg #[.int .u16 i0, .int .u8 i1, .int .u8 i2, .slice A3 n3 c3], .int .i64 0]) ∧ P (.int .u16 i0) (.int .u8 i1) (.int .u8 i2) (.slice A3 n3 c3) w.heap.size w') ∨ (ok = false ∧ e = .returned (.tuple #[.agg #[.int .u16 0, .int .u8 0, .int .u8 0, .slice none 0 0], .int .i64 50]))) := by
  have hmf : ∀ (fn : Fn) (first cap : Array Value) (w : World), (Instr.makeFunc fn first cap).run Tryz.prog w = .ok (.func fn first cap) w := fun _ _ _ _ => rfl
  have HCl := Lib.hid HC
  clear HC
  go_enter_defers Tryz.func146, Tryz.ntmps146
  go_wp2_with fail
  generalize hw3 : ((w.alloc (.cells #[.int .u16 0, .int .u8 0, .int .u8 0, .slice none 0 0] 157)).alloc (.cells #[.int .i64 0] 52)).alloc (.cells #[.slice A l.length cap, .int .i64 0] 201) = w3
  have hb3 : Below w.heap.size w w3 := by rw [← hw3]; exact (((Below.refl _ _).alloc (Nat.le_refl _) _).alloc (by simp) _).alloc (by simp; omega) _
  have hsz3 : w3.heap.size = w.heap.size + 3 := by rw [← hw3]; simp
  have q3 : w3.heap[w.heap.size]? = some (.cells #[.int .u16 0, .int .u8 0, .int .u8 0, .slice none 0 0] 157 (0, 0)) := by
    rw [← hw3]
    rw [Below.heap_alloc _ _ _ (by simp; omega), Below.heap_alloc _ _ _ (by simp)]
    exact heap_alloc_new w _
  have c1 : w3.cell? ⟨w.heap.size + 1, 0, none⟩ = some (.int .i64 0) := by rw [← hw3]; simp [go_sem]
  have f1 : w3.frozen? ⟨w.heap.size + 1, 0, none⟩ = false := by rw [← hw3]; simp [go_sem]
  have hR : Rdr w3 (w.heap.size + 1 + 1) A l cap 0 := by
    refine ⟨by rw [← hw3]; simp [go_sem], by rw [← hw3]; simp [go_sem], by rw [← hw3]; simp [go_sem], by omega, hc.below hb3, ?_, hl, hcap, hcap2, Nat.zero_le _⟩
    intro a ha hx
    have := hc.where ha hx
    omega
  clear hw3
  refine (HCl.out w3 (w.heap.size + 1 + 1) hR (by omega)).mono ?_
  rintro e w4 ⟨hk4, ok, hG, hcase⟩
  have q4 := (hk4.block _ (show w.heap.size < w3.heap.size by omega) (by omega)).trans q3
  have d1 := (hk4.cell (b := w.heap.size + 1) (o := 0) (by omega) (by omega)).trans c1
  have g1 := (hk4.frozen (b := w.heap.size + 1) (o := 0) (by omega) (by omega)).trans f1
  have hsz4 := hk4.size
  have hb4 : Below w.heap.size w w4 := hb3.trans (hk4.below (by omega) (fun k hk => by omega))
  clear c1 f1 hR q3 hk4
  have door : ∀ (y0 y1 y2 y3 : Value) (W : World), Below w.heap.size w W → W.heap[w.heap.size]? = some (.cells #[y0, y1, y2, y3] 157 (0, 0)) → W.cell? ⟨w.heap.size + 1, 0, none⟩ = some (.int .i64 0) → W.frozen? ⟨w.heap.size + 1, 0, none⟩ = false → w.heap.size + 3 ≤ W.heap.size →
      CallsD Tryz.prog 188 #[.pointer (some ⟨w.heap.size, 0, none⟩), .pointer (some ⟨w.heap.size + 1, 0, none⟩)] (.panicking mustP) W fun e u' w' =>
      e = .returned (.tuple #[]) ∧ u' = mustR ∧ w'.heap[w.heap.size]? = some (.cells #[.int .u16 0, .int .u8 0, .int .u8 0, .slice none 0 0] 157 (0, 0)) ∧ w'.cell? ⟨w.heap.size + 1, 0, none⟩ = some (.int .i64 50) ∧ Below w.heap.size w w' := fun y0 y1 y2 y3 W hb k0 k1 j1 hs =>
    (readK_panic w.heap.size (w.heap.size + 1) _ _ _ _ _ W k0 k1 j1 (by omega) (by omega) (by omega)).mono fun e u' w' ⟨h1, h2, h3, h4, h5⟩ => ⟨h1, h2, h3, h4, hb.trans h5⟩
  have HD := Lib.hid door
  have HG := Lib.hid hG
  clear door hG
  have n0 : ¬ w.heap.size = w.heap.size + 1 := by omega
  have nn1 : ¬ w.heap.size = w.heap.size + 1 + 1 := by omega
  have nn2 : ¬ w.heap.size + 1 = w.heap.size := by omega
  have nn3 : ¬ w.heap.size + 1 + 1 = w.heap.size := by omega
  rcases hcase with ⟨j, i0, i1, i2, A3, n3, c3, rfl, hr, hs, hPv⟩ | ⟨hs, rfl⟩
  · have HS := Lib.hid hs
    have HPv := Lib.hid hPv
    have e1 := hr.c1
    have hlj := hr.le
    obtain ⟨u0, u1, u2, u3, uf⟩ := cellsK q4
    have uf0 := uf 0
    have uf1 := uf 1
    have uf2 := uf 2
    have uf3 := uf 3
    clear hs hr hPv
    by_cases hj : j = l.length
    · have hjb : ((j : Int) == (l.length : Int)) = true := by simp [hj]
      have HT : Hid (ok = true) := Lib.hid (by rw [HS.out]; simpa using hj)
      clear hj HS
      go_wp2_with fail
      obtain ⟨qA, hkA⟩ := setK q4 (.int .u16 i0) (.int .u8 i1) (.int .u8 i2) (.slice A3 n3 c3) rfl
      generalize ((((w4).setCell ⟨w.heap.size, 0, none⟩ (.int .u16 i0)).setCell ⟨w.heap.size, 1, none⟩ (.int .u8 i1)).setCell ⟨w.heap.size, 2, none⟩ (.int .u8 i2)).setCell ⟨w.heap.size, 3, none⟩ (.slice A3 n3 c3) = w5 at *
      have hbA : Below w.heap.size w w5 := hb4.trans (hkA.below (B := w.heap.size) (by omega) (fun k hk => by omega))
      have hsA := hkA.size
      have dA := (hkA.cell (b := w.heap.size + 1) (o := 0) (by omega) (by omega)).trans d1
      have gA := (hkA.frozen (b := w.heap.size + 1) (o := 0) (by omega) (by omega)).trans g1
      obtain ⟨t0, t1, t2, t3, tf⟩ := cellsK qA
      have tf0 := tf 0
      have tf1 := tf 1
      have tf2 := tf 2
      have tf3 := tf 3
      have HP1 := Lib.hid (hP.keep _ _ _ _ _ _ _ _ HPv.out hkA (fun b hb e => by omega))
      clear u0 u1 u2 u3 uf uf0 uf1 uf2 uf3 q4 d1 g1 e1 hkA
      refine (must_yes _).mono ?_
      rintro e w' ⟨rfl, rfl⟩
      go_wp2_with fail
      obtain ⟨qB, hkB⟩ := setK qA (.int .u16 i0) (.int .u8 i1) (.int .u8 i2) (.slice A3 n3 c3) rfl
      have hsB := hkB.size
      have dB := (hkB.cell (b := w.heap.size + 1) (o := 0) (by omega) (by omega)).trans dA
      have hbB := hbA.trans (hkB.below (B := w.heap.size) (by omega) (fun k hk => by omega))
      have HP2 := Lib.hid (hP.keep _ _ _ _ _ _ _ _ HP1.out hkB (fun b hb e => by omega))
      generalize ((((w5).setCell ⟨w.heap.size, 0, none⟩ (.int .u16 i0)).setCell ⟨w.heap.size, 1, none⟩ (.int .u8 i1)).setCell ⟨w.heap.size, 2, none⟩ (.int .u8 i2)).setCell ⟨w.heap.size, 3, none⟩ (.slice A3 n3 c3) = w6 at *
      have hkC : Kept (fun k => k = w.heap.size + 1) w6 (w6.setCell ⟨w.heap.size + 1, 0, none⟩ (.int .i64 0)) := (Kept.refl _ _).setCell (S := fun k => k = w.heap.size + 1) (p := ⟨w.heap.size + 1, 0, none⟩) (fun _ => rfl) _
      have qC := (hkC.block _ (show w.heap.size < w6.heap.size by omega) (by omega)).trans qB
      have dC := setc_same (v := .int .i64 0) dB
      have hbC := hbB.trans (hkC.below (B := w.heap.size) (by omega) (fun k hk => by omega))
      have HP3 := Lib.hid (hP.base _ _ _ _ _ w.heap.size _ (by omega) (hP.keep _ _ _ _ _ _ _ _ HP2.out hkC (fun b hb e => by omega)))
      generalize w6.setCell ⟨w.heap.size + 1, 0, none⟩ (.int .i64 0) = w7 at *
      refine leaves_cons (f := 188) (args := #[.pointer (some ⟨w.heap.size, 0, none⟩), .pointer (some ⟨w.heap.size + 1, 0, none⟩)]) (by simp) (by simp [go_sem]) ?_
      refine (readK_idle _ _ _).mono ?_
      rintro e u' w9 ⟨rfl, rfl, rfl⟩
      obtain ⟨y0, y1, y2, y3, _⟩ := cellsK qC
      simp [Leaves, settle, results, Tryz.results146, go_sem, y0, y1, y2, y3, dC]
      exact ⟨hbC, (by rw [← HT.out]; exact HG.out), i0, i1, i2, A3, n3, c3, (by simp), HP3.out⟩
    · have hjb : ((j : Int) == (l.length : Int)) = false := by simp; omega
      have HT : Hid (ok = false) := Lib.hid (by rw [HS.out]; simpa using hj)
      clear hj HS
      go_wp2_with fail
      obtain ⟨qA, hkA⟩ := setK q4 (.int .u16 i0) (.int .u8 i1) (.int .u8 i2) (.slice A3 n3 c3) rfl
      generalize ((((w4).setCell ⟨w.heap.size, 0, none⟩ (.int .u16 i0)).setCell ⟨w.heap.size, 1, none⟩ (.int .u8 i1)).setCell ⟨w.heap.size, 2, none⟩ (.int .u8 i2)).setCell ⟨w.heap.size, 3, none⟩ (.slice A3 n3 c3) = w5 at *
      have hbA : Below w.heap.size w w5 := hb4.trans (hkA.below (B := w.heap.size) (by omega) (fun k hk => by omega))
      have hsA := hkA.size
      have dA := (hkA.cell (b := w.heap.size + 1) (o := 0) (by omega) (by omega)).trans d1
      have gA := (hkA.frozen (b := w.heap.size + 1) (o := 0) (by omega) (by omega)).trans g1
      clear u0 u1 u2 u3 uf uf0 uf1 uf2 uf3 q4 d1 g1 e1 hkA
      refine (must_no _).mono ?_
      rintro e w' ⟨rfl, rfl⟩
      go_wp2_with fail
      refine leaves_cons (f := 188) (args := #[.pointer (some ⟨w.heap.size, 0, none⟩), .pointer (some ⟨w.heap.size + 1, 0, none⟩)]) (by simp) (by simp [go_sem]) ?_
      refine (HD.out _ _ _ _ w5 hbA qA dA gA (by omega)).mono ?_
      rintro e u' w9 ⟨rfl, rfl, zq, z1, hb5⟩
      obtain ⟨y0, y1, y2, y3, _⟩ := cellsK zq
      simp [Leaves, settle, mustR, results, Tryz.results146, go_sem, y0, y1, y2, y3, z1]
      exact ⟨hb5, by rw [← HT.out]; exact HG.out⟩
  · have HS := Lib.hid hs
    clear hs
    go_wp2_with fail
    refine leaves_cons (f := 188) (args := #[.pointer (some ⟨w.heap.size, 0, none⟩), .pointer (some ⟨w.heap.size + 1, 0, none⟩)]) (by simp) (by simp [go_sem]) ?_
    refine (HD.out _ _ _ _ w4 hb4 q4 d1 g1 (by omega)).mono ?_
    rintro e u' w5 ⟨rfl, rfl, zq, z1, hb5⟩
    obtain ⟨y0, y1, y2, y3, _⟩ := cellsK zq
    simp [Leaves, settle, mustR, results, Tryz.results146, go_sem, y0, y1, y2, y3, z1]
    exact ⟨hb5, by rw [← HS.out]; exact HG.out⟩
end Nm
end Go.Proofs.YtkeimgamjnpcbaaGreat

/- Contracts of package rdata: what a reader takes, whatever it is; Key (DNSKEY): it is read, or refused. -/
namespace Go.Proofs.YtkeimgamjnpcbaaGreat
open Go.RowKit
set_option linter.unusedVariables false
set_option linter.unusedSimpArgs false
namespace Nm
theorem own_formR {w : World} {B : Nat} {e : TypeId} {size : Nat} {v : Value} {n : Nat} {xs : List Value} (h : w.ownsRow B e size v n xs) : ∃ A c, v = .slice A n c ∧ n ≤ c ∧ c ≤ maxLen := by
  rcases h.2 with ⟨rfl, rfl⟩ | ⟨g, cap, cur, rfl, hg, hh, hc1, hc2, _⟩
  · exact ⟨none, 0, rfl, Nat.le_refl _, by unfold maxLen; omega⟩
  · exact ⟨_, cap, rfl, hc1, hc2⟩
theorem num_any {r : Nat} {A : Option Addr} {l : Lab} {cap k : Nat} (n : Nat) {w : World} (h : Rdr w r A l cap k) (hn2 : n ≤ 100000) :
    Calls Tryz.prog 137 #[.pointer (some ⟨r, 0, none⟩), .int .i64 n] w fun e w' => Kept (fun b => b = r) w w' ∧ ((∃ x : Nat, e = .returned (.int .u32 x) ∧ x < 4294967296 ∧ Rdr w' r A l cap (k + n)) ∨ e = .panicked mustP) := by
  by_cases hn : k + n ≤ l.length
  · exact (num_yes r A l cap k n w h hn).mono fun e w' ⟨h1, h2, h3⟩ => ⟨h3, .inl ⟨_, h1, numOf_lt _ 0 (by omega), h2⟩⟩
  · exact (num_no r A l cap k n w h hn hn2).mono fun e w' ⟨h1, h2⟩ => ⟨h2, .inr h1⟩
theorem text_any {r : Nat} {A : Option Addr} {l : Lab} {cap k : Nat} {w : World} (h : Rdr w r A l cap k) :
    Calls Tryz.prog 143 #[.pointer (some ⟨r, 0, none⟩)] w fun e w' => Kept (fun b => b = r) w w' ∧ ((∃ k' B n c, e = .returned (.slice B n c) ∧ Rdr w' r A l cap k' ∧ n ≤ 100000) ∨ e = .panicked mustP) := by
  by_cases hn : ∃ hk : k < l.length, k + 1 + l[k].toNat ≤ l.length
  · obtain ⟨hk, hn⟩ := hn
    refine (text_yes r A l cap k w h hk hn).mono fun e w' ⟨h1, h2, v, h3, h4⟩ => ⟨h1, .inl ?_⟩
    obtain ⟨B, c, rfl, _⟩ := own_formR h4
    have := h.len
    exact ⟨_, B, _, c, h3, h2, by omega⟩
  · exact (text_no r A l cap k w h hn).mono fun e w' ⟨h1, h2⟩ => ⟨h1, .inr h2⟩
set_option maxRecDepth 100000 in
set_option maxHeartbeats 8000000 in
theorem Key1 (A : Option Addr) (l : Lab) (cap : Nat) (w : World) (r : Nat) (h : Rdr w r A l cap 0) (hrw : r < w.heap.size) :
    Calls Tryz.prog 147 #[.pointer (some ⟨r, 0, none⟩)] w fun e w' => Kept (fun b => b = r) w w' ∧ ∃ ok : Bool, True ∧ ((∃ (j : Nat) (i0 i1 i2 : Int) (A3 : Option Addr) (n3 c3 : Nat), e = .returned (.agg #[.int .u16 i0, .int .u8 i1, .int .u8 i2, .slice A3 n3 c3]) ∧ Rdr w' r A l cap j ∧ ok = decide (j = l.length) ∧ True) ∨ (ok = false ∧ e = .panicked mustP)) := by
  have hlen := h.len
  have H := Lib.hid h
  clear h
  go_enter Tryz.func147, Tryz.ntmps147
  go_wp2_with fail
  generalize hw1 : w.alloc (.cells #[.int .u16 0, .int .u8 0, .int .u8 0, .slice none 0 0] 157) = w1
  have hb1 : Below w.heap.size w w1 := by rw [← hw1]; exact (Below.refl _ _).alloc (Nat.le_refl _) _
  have hq1 : w1.heap[w.heap.size]? = some (.cells #[.int .u16 0, .int .u8 0, .int .u8 0, .slice none 0 0] 157 (0, 0)) := by
    rw [← hw1]; exact heap_alloc_new w _
  have hR1 := H.out.ext hb1
  have hk01 := (Kept.of_ext hb1).mono (S' := fun b => b = r) (fun _ _ h => h.elim)
  have hwr : ¬ w.heap.size = r := by omega
  clear hw1
  refine (num_any 2 hR1 (by omega)).mono ?_
  rintro e w2 ⟨hk2, ⟨x2, rfl, hx2, hr2⟩ | rfl⟩
  · have hq2 := (hk2.block _ (lt_block hq1) hwr).trans hq1
    have hk02 := hk01.trans hk2
    clear hq1 hk2 hR1 hb1 hk01
    go_wp2_with fail
    refine (num_any 1 hr2 (by omega)).mono ?_
    rintro e w3 ⟨hk3, ⟨x3, rfl, hx3, hr3⟩ | rfl⟩
    · have hq3 := (hk3.block _ (lt_block hq2) hwr).trans hq2
      have hk03 := hk02.trans hk3
      clear hq2 hk3 hr2 hk02
      go_wp2_with fail
      refine (num_any 1 hr3 (by omega)).mono ?_
      rintro e w4 ⟨hk4, ⟨x4, rfl, hx4, hr4⟩ | rfl⟩
      · have hq4 := (hk4.block _ (lt_block hq3) hwr).trans hq3
        have hk04 := hk03.trans hk4
        clear hq3 hk4 hr3 hk03
        go_wp2_with fail
        refine (rest r A l cap _ w4 hr4).mono ?_
        rintro e w5 ⟨hk5, hr5, v5, rfl, ho5⟩
        obtain ⟨A5, c5, rfl, _⟩ := own_formR ho5
        have hq5 := (hk5.block _ (lt_block hq4) hwr).trans hq4
        have hk05 := hk04.trans hk5
        obtain ⟨t0, t1, t2, t3, tf⟩ := cellsK hq5
        have tf0 := tf 0
        have tf1 := tf 1
        have tf2 := tf 2
        have tf3 := tf 3
        clear hq4 hk5 hr4 hk04 ho5
        go_wp2_with fail
        obtain ⟨hq6, hk6⟩ := setK hq5 (.int .u16 (IntKind.u16.wrap ↑x2)) (.int .u8 ((x3 : Int) % 256)) (.int .u8 ((x4 : Int) % 256)) (.slice A5 (l.length - 4) c5) rfl
        obtain ⟨z0, z1, z2, z3, _⟩ := cellsK hq6
        have hrF := hr5.kept hk6 (fun h => hwr h.symm) (fun a ha hx => by have := H.out.cs.where ha hx; omega)
        have hkF := hk05.then hk6 (fun b hb h => by omega)
        refine bodyPost_ret (v := .agg #[.int .u16 (IntKind.u16.wrap ↑x2), .int .u8 ((x3 : Int) % 256), .int .u8 ((x4 : Int) % 256), .slice A5 (l.length - 4) c5]) ?_ rfl ⟨hkF, _, trivial, .inl ⟨_, _, _, _, A5, _, c5, rfl, hrF, rfl, trivial⟩⟩
        simp [results, Tryz.results147, go_sem, z0, z1, z2, z3]
      · have hk04 := hk03.trans hk4
        go_wp2_with fail
        exact ⟨rfl, hk04, false, trivial, .inr ⟨rfl, rfl⟩⟩
    · have hk03 := hk02.trans hk3
      go_wp2_with fail
      exact ⟨rfl, hk03, false, trivial, .inr ⟨rfl, rfl⟩⟩
  · have hk02 := hk01.trans hk2
    go_wp2_with fail
    exact ⟨rfl, hk02, false, trivial, .inr ⟨rfl, rfl⟩⟩
end Nm
end Go.Proofs.YtkeimgamjnpcbaaGreat

/- Contracts of package rdata: Key. (Printed by a program: wip/gen_wrap.py.) -/
namespace Go.Proofs.YtkeimgamjnpcbaaGreat
open Go.RowKit
set_option linter.unusedVariables false
set_option linter.unusedSimpArgs false
namespace Nm
def anyK : Value → Value → Value → Value → Nat → World → Prop := fun _ _ _ _ _ _ => True
theorem saysK : SaysK anyK := ⟨fun _ _ _ _ _ _ _ _ _ _ _ => trivial, fun _ _ _ _ _ _ _ _ _ => trivial⟩
set_option maxRecDepth 100000 in
set_option maxHeartbeats 8000000 in
theorem KeyW (A : Option Addr) (l : Lab) (cap : Nat) (w : World) (hc : Cs w A (l.map byteV)) (hl : l.length ≤ 100000) (hcap : l.length ≤ cap) (hcap2 : cap ≤ maxLen) :
    Calls Tryz.prog 107 #[.slice A l.length cap] w fun e w' => Below w.heap.size w w' ∧ ∃ ok, (fun _ => True) ok ∧ ((ok = true ∧ ∃ i0 i1 i2 A3 n3 c3, e = .returned (.tuple #[.agg #[.int .u16 i0, .int .u8 i1, .int .u8 i2, .slice A3 n3 c3], .int .i64 0]) ∧ (anyK) (.int .u16 i0) (.int .u8 i1) (.int .u8 i2) (.slice A3 n3 c3) w.heap.size w') ∨ (ok = false ∧ e = .returned (.tuple #[.agg #[.int .u16 0, .int .u8 0, .int .u8 0, .slice none 0 0], .int .i64 50]))) := by
  go_enter Tryz.func107, Tryz.ntmps107
  go_wp2_with fail
  generalize hw2 : w.alloc (.cells #[.int .u16 0, .int .u8 0, .int .u8 0, .slice none 0 0] 157) = w2
  have hb2 : Below w.heap.size w w2 := by rw [← hw2]; exact (Below.refl _ _).alloc (Nat.le_refl _) _
  have hz2 : w2.heap.size = w.heap.size + 1 := by rw [← hw2]; simp
  have q2 : w2.heap[w.heap.size]? = some (.cells #[.int .u16 0, .int .u8 0, .int .u8 0, .slice none 0 0] 157 (0, 0)) := by rw [← hw2]; exact heap_alloc_new w _
  clear hw2
  refine (readK (fun _ => True) (anyK) saysK A l cap w2 (hc.below hb2) hl hcap hcap2 (fun W r h1 h2 => Key1 A l cap W r h1 h2)).mono ?_
  rintro e w3 ⟨hb3, hcase⟩
  have q3 := (hb3.block _ (show w.heap.size < w2.heap.size by omega)).trans q2
  have hz3 := hb3.size
  have hb13 := hb2.trans (hb3.mono (by omega))
  obtain ⟨u0, u1, u2, u3, uf⟩ := cellsK q3
  have uf0 := uf 0
  have uf1 := uf 1
  have uf2 := uf 2
  have uf3 := uf 3
  rcases hcase with ⟨ok, hG, ⟨rfl, i0, i1, i2, A3, n3, c3, rfl, hP⟩ | ⟨rfl, rfl⟩⟩
  · have HG := Lib.hid hG
    have HP := Lib.hid hP
    clear hG hP
    go_wp2_with fail
    obtain ⟨qA, hkA⟩ := setK q3 (.int .u16 i0) (.int .u8 i1) (.int .u8 i2) (.slice A3 n3 c3) rfl
    have hbF := hb13.trans (hkA.below (B := w.heap.size) (by omega) (fun k hk => by omega))
    have HPF := Lib.hid (saysK.base _ _ _ _ _ w.heap.size _ (by omega) (saysK.keep _ _ _ _ _ (fun k => k = w.heap.size) _ _ HP.out hkA (fun b hb => by omega)))
    generalize (((w3.setCell ⟨w.heap.size, 0, none⟩ (.int .u16 i0)).setCell ⟨w.heap.size, 1, none⟩ (.int .u8 i1)).setCell ⟨w.heap.size, 2, none⟩ (.int .u8 i2)).setCell ⟨w.heap.size, 3, none⟩ (.slice A3 n3 c3) = wF at *
    obtain ⟨z0, z1, z2, z3, _⟩ := cellsK qA
    refine bodyPost_ret (v := .tuple #[.agg #[.int .u16 i0, .int .u8 i1, .int .u8 i2, .slice A3 n3 c3], .int .i64 0]) ?_ rfl ⟨hbF, true, HG.out, .inl ⟨rfl, i0, i1, i2, A3, n3, c3, rfl, HPF.out⟩⟩
    simp [results, Tryz.results107, go_sem, z0, z1, z2, z3]
  · have HG := Lib.hid hG
    clear hG
    go_wp2_with fail
    obtain ⟨qA, hkA⟩ := setK q3 (.int .u16 0) (.int .u8 0) (.int .u8 0) (.slice none 0 0) rfl
    have hbF := hb13.trans (hkA.below (B := w.heap.size) (by omega) (fun k hk => by omega))
    generalize (((w3.setCell ⟨w.heap.size, 0, none⟩ (.int .u16 0)).setCell ⟨w.heap.size, 1, none⟩ (.int .u8 0)).setCell ⟨w.heap.size, 2, none⟩ (.int .u8 0)).setCell ⟨w.heap.size, 3, none⟩ (.slice none 0 0) = wF at *
    obtain ⟨z0, z1, z2, z3, _⟩ := cellsK qA
    refine bodyPost_ret (v := .tuple #[.agg #[.int .u16 0, .int .u8 0, .int .u8 0, .slice none 0 0], .int .i64 50]) ?_ rfl ⟨hbF, false, HG.out, .inr ⟨rfl, rfl⟩⟩
    simp [results, Tryz.results107, go_sem, z0, z1, z2, z3]
set_option maxRecDepth 100000 in
set_option maxHeartbeats 4000000 in
theorem Check48 (A : Option Addr) (l : Lab) (cap : Nat) (w : World) (hc : Cs w A (l.map byteV)) (hl : l.length ≤ 100000) (hcap : l.length ≤ cap) (hcap2 : cap ≤ maxLen) :
    Calls Tryz.prog 67 #[.int .u16 48, .slice A l.length cap] w fun e w' => Below w.heap.size w w' ∧ ∃ k, e = .returned (.int .i64 k) := by
  have hb1 : Below w.heap.size w (w.alloc (.cells #[.int .u16 48] 24)) := (Below.refl _ _).alloc (Nat.le_refl _) _
  have hs1 : (w.alloc (.cells #[.int .u16 48] 24)).heap.size = w.heap.size + 1 := by simp
  have HR := Lib.hid (KeyW A l cap (w.alloc (.cells #[.int .u16 48] 24)) (hc.below hb1) hl hcap hcap2)
  clear hc
  by_cases h8 : 8192 < l.length
  · go_enter Tryz.func67, Tryz.ntmps67
    go_wp2_with fail
    go_ret
    exact ⟨hb1, _, rfl⟩
  · go_enter Tryz.func67, Tryz.ntmps67
    go_wp2_with fail
    refine HR.out.mono ?_
    rintro e w2 ⟨hb2, ok, _, ⟨rfl, i0, i1, i2, A3, n3, c3, rfl, _⟩ | ⟨rfl, rfl⟩⟩
    · have hbF := hb1.trans (hb2.mono (by omega))
      go_wp2_with fail
      go_ret
      exact ⟨hbF, _, rfl⟩
    · have hbF := hb1.trans (hb2.mono (by omega))
      go_wp2_with fail
      go_ret
      exact ⟨hbF, _, rfl⟩
set_option maxRecDepth 100000 in
set_option maxHeartbeats 4000000 in
theorem Canon48 (A : Option Addr) (l : Lab) (cap : Nat) (w : World) (hc : Cs w A (l.map byteV)) (hl : l.length ≤ 100000) (hcap : l.length ≤ cap) (hcap2 : cap ≤ maxLen) :
    Calls Tryz.prog 97 #[.int .u16 48, .slice A l.length cap] w fun e w' =>
      Below w.heap.size w w' ∧ ∃ v k, e = .returned (.tuple #[v, .int .i64 k]) ∧ (k = 0 ∧ w'.ownsRow w.heap.size 5 1 v l.length (l.map byteV) ∨ k ≠ 0) := by
  have HK := Lib.hid (Check48 A l cap w hc hl hcap hcap2)
  have HCs := Lib.hid hc
  clear hc
  go_enter Tryz.func97, Tryz.ntmps97
  go_wp2_with fail
  refine HK.out.mono ?_
  rintro e w1 ⟨hb1, k, rfl⟩
  by_cases hk : k = 0
  · subst hk
    go_wp2_with fail
    refine (CloneB A l cap w1 (HCs.out.below hb1) (by omega)).mono ?_
    rintro e w3 ⟨v3, rfl, hown3, hb3⟩
    go_wp2_with fail
    go_ret2
    exact ⟨hb1.trans (hb3.mono hb1.size), _, _, rfl, .inl ⟨rfl, own_base hown3 hb1.size⟩⟩
  · go_wp2_with fail
    go_ret2
    exact ⟨hb1, _, _, rfl, .inr hk⟩
end Nm
end Go.Proofs.YtkeimgamjnpcbaaGreat
