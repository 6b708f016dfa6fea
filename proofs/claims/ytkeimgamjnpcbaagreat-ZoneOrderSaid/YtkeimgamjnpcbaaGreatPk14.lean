/-
  Texts merged by a program (GPutS, Gz, Rng, NamesG, KeysG).
-/
import Derived.Test.YtkeimgamjnpcbaaGreatPk6
import Derived.Test.YtkeimgamjnpcbaaGreatPk7
import Derived.Test.YtkeimgamjnpcbaaGreatPk12
import Derived.Test.YtkeimgamjnpcbaaGreatPk13
set_option linter.unusedSimpArgs false
set_option linter.unusedVariables false
/- Contracts of package zone: Put in any zone, the first record of a type at a name that is there. -/
namespace Go.Proofs.YtkeimgamjnpcbaaGreat
open Go.RowKit
set_option linter.unusedVariables false
set_option linter.unusedSimpArgs false
namespace Nm
/-- a type's first record: its set is new -/
structure NewS (w w' : World) (B z bn bb x bs s : Nat) (ap n : List Lab) (t : Int) (c : Int) (D : DataW Unit) (f : Lab → Int) (N : Nat) (ttl : Int) (v2 : Value) (d : Blob × Blob) (N2 : Nat) (D2 : DataW Unit) : Prop where
  more : More w w' B z bn bb s ap c D f N ttl (.slice none 0 0) v2 [d] (fun k => k = z ∨ k = bs)
  nd : NdG w' B x bs n N2 D2
  hs : w.heap.size ≤ s
set_option maxRecDepth 100000 in
set_option maxHeartbeats 20000000 in
theorem GPutSet (w : World) (B z bn bb : Nat) (ap n : List Lab) (t : Int) (cq : Int) (hcz0 : 0 ≤ cq) (hcz : cq < 2000) (D : DataW Unit) (f : Lab → Int) (N : Nat) (h : Zn w B z bn bb ap cq D f N) (x bs N2 : Nat) (D2 : DataW Unit) (hnd : NdG w B x bs n N2 D2) (hbsn : bs ≠ bn ∧ bs ≠ bb) (hD : D.atKey (.string (zkey n)) .nil = ptrD (some x)) (hD2 : D2.atKey (.int .u16 t) .nil = ptrD none) (hN2 : N2 ≤ 100000) (An : Option Addr) (cn : Nat) (Ad : Option Addr) (d : Lab) (cd : Nat) (ttl2 : Int) (hAn : Cs w An (n.map strV)) (hAd : w.ownsRow 0 5 1 (.slice Ad d.length cd) d.length (d.map byteV)) (c : Lab) (hr : RecG n ap t d c cn cd) (hap : Small ap) :
    Calls Tryz.prog 27 #[.pointer (some ⟨z, 0, none⟩), .agg #[.slice An n.length cn, .int .u16 t, .int .u16 1, .int .u32 ttl2, .slice Ad d.length cd]] w fun e w' => e = .returned (.tuple #[.bool true, .int .i64 0]) ∧ ∃ s v2 b1 b2, b1.l = d ∧ b2.l = c ∧ NewS w w' B z bn bb x bs s ap n t (cq + 1) D f N ttl2 v2 (b1, b2) (N2 + 1) (D2.put (.int .u16 t) (.lit (.int .i64 (s : Int)))) := by
  have hmm := @run_makeMap Tryz.prog
  have hb1 : Below w.heap.size w (w.alloc (.cells #[.slice An n.length cn, .int .u16 t, .int .u16 1, .int .u32 ttl2, .slice Ad d.length cd] 51)) := (Below.refl _ _).alloc (Nat.le_refl _) _
  have hblk := heap_alloc_new w (.cells #[.slice An n.length cn, .int .u16 t, .int .u16 1, .int .u32 ttl2, .slice Ad d.length cd] 51)
  obtain ⟨k0, k1, k2, k3, k4, kf⟩ := cells5 hblk
  have hsz : (w.alloc (.cells #[.slice An n.length cn, .int .u16 t, .int .u16 1, .int .u32 ttl2, .slice Ad d.length cd] 51)).heap.size = w.heap.size + 1 := by simp
  have hO := h.ext hb1
  obtain ⟨An2, cn2, hxb0, hxn0⟩ := hnd.node
  have hxl0 := lt_block hxb0
  have hbl0 := hnd.sets.lt
  have hxb1 := (hb1.block _ hxl0).trans hxb0
  have hxn1 := own_below hxn0 hb1
  have hst1 := hnd.sets.kept (row := none) ⟨hb1.os, hb1.tape, hb1.output, hb1.size, fun k hk _ => hb1.block k hk⟩ (by simp)
  have hBbs := hnd.h1
  have hAn1 := hAn.below hb1
  have hAd1 := own_below hAd hb1
  go_enter Tryz.func27, Tryz.ntmps27
  go_wp2_with fail
  generalize w.alloc (.cells #[.slice An n.length cn, .int .u16 t, .int .u16 1, .int .u32 ttl2, .slice Ad d.length cd] 51) = w1 at *
  have hrl : w.heap.size < w1.heap.size := by omega
  obtain ⟨Aa, ca, hzb, hza⟩ := hO.blk
  have hzl := lt_block hzb
  obtain ⟨z0, z1, z2, z3, zf⟩ := cells4 hzb
  have hcs_ap := (cs_own hza).2
  obtain ⟨hr1, hr2, hr3, hr4, hr5, hr6, hr7, hr8, hr9, hr10, hr11⟩ := hr
  have HCk : Hid (∀ W, Below w1.heap.size w1 W → Calls Tryz.prog 65 #[.slice An n.length cn] W fun e w' => e = .returned (.int .i64 0) ∧ W = w') := Lib.hid fun W hW => by
    have := Check An n cn W (hAn1.below hW) hr1.few
    rw [hr2] at this
    exact this
  have HWi : Hid (∀ W, Below w1.heap.size w1 W → Calls Tryz.prog 66 #[.slice An n.length cn, .slice Aa ap.length ca] W fun e w' => Below W.heap.size W w' ∧ e = .returned (.bool true)) := Lib.hid fun W hW => by
    have := Within An Aa n ap cn ca W (hAn1.below hW) (hcs_ap.below hW) hr1.few hap.few hr8 hr9
    rw [hr3] at this
    exact this
  have HRc : Hid (∀ W, Below w1.heap.size w1 W → Calls Tryz.prog 67 #[.int .u16 t, .slice Ad d.length cd] W fun e w' => Below W.heap.size W w' ∧ e = .returned (.int .i64 0)) := Lib.hid fun W hW => hr4 Ad W ((cs_own hAd1).2.below hW)
  have HCa : Hid (∀ W, Below w1.heap.size w1 W → Calls Tryz.prog 68 #[.int .u16 t, .slice Ad d.length cd] W fun e w' => Below W.heap.size W w' ∧ ∃ v, e = .returned v ∧ w'.ownsRow W.heap.size 5 1 v c.length (c.map byteV)) := Lib.hid fun W hW =>
    hr6 Ad W ((cs_own hAd1).2.below hW)
  have hxl1 := lt_block hxb1
  obtain ⟨_, hxc1, _⟩ := cells2 hxb1
  have HAt : Hid (∀ W, Below w1.heap.size w1 W → Calls Tryz.prog 69 #[.pointer (some ⟨z, 0, none⟩), .slice An n.length cn, .int .u16 t] W fun e w' => e = .returned (.pointer none) ∧ Below W.heap.size W w') := Lib.hid fun W hW => by
    have hOW := hO.ext hW
    exact ZAt z bn An n cn t N N2 D D2 (some x) none W ((bcl (o := 1) hW hzl).trans z1) (Nat.lt_of_lt_of_le hzl hW.size) hOW.nodes (hAn1.below hW) hr1 hr5 hD (fun x' hx' => by
      cases hx'
      exact ⟨Nat.lt_of_lt_of_le hxl1 hW.size, bs, (bcl (o := 1) hW hxl1).trans hxc1, hst1.kept (row := none) ⟨hW.os, hW.tape, hW.output, hW.size, fun k hk _ => hW.block k hk⟩ (by simp), hD2⟩)
  have HX1 := Lib.hid hxb1
  have HXN1 := Lib.hid hxn1
  have HST1 := Lib.hid hst1
  have HK : Hid (∀ W, Below w1.heap.size w1 W → Calls Tryz.prog 71 #[.slice An n.length cn] W fun e w' => e = .returned (strV (zkey n)) ∧ Below W.heap.size W w') := Lib.hid fun W hW => ZKey An n cn W (hAn1.below hW) hr1
  have hnl := hr1.1
  have HR : Hid (RecG n ap t d c cn cd) := Lib.hid ⟨hr1, hr2, hr3, hr4, hr5, hr6, hr7, hr8, hr9, hr10, hr11⟩
  have HAn := Lib.hid hAn1
  have HAd := Lib.hid hAd1
  have HO := Lib.hid hO
  have HB : Hid (B ≤ w1.heap.size) := Lib.hid (Nat.le_trans hO.h1 (Nat.le_of_lt hzl))
  have HTu : Hid (Kept (fun k => k = bs) w w1) := Lib.hid ((Kept.of_ext hb1).mono (fun _ _ h => h.elim))
  have HIM := Lib.hid h.nodes.isMap
  have HAdo := Lib.hid hAd1
  clear h hnd hxb0 hxn0 hxb1 hxn1 hst1 hAn hAd hAn1 hAd1 hza hcs_ap hr1 hr2 hr3 hr4 hr5 hr6 hap
  refine wp_region_mono mixed0 (by kernel_rfl) [.is (.pointer (some ⟨w.heap.size, 0, none⟩)), .is (.slice An n.length cn), .is (.int .i64 0), .is (.bool false), .is (.bool false), .is (.pointer (some ⟨w.heap.size, 0, none⟩)), .is (.slice An n.length cn), .is (.pointer (some ⟨z, 0, none⟩)), .is (.pointer (some ⟨z, 0, none⟩)), .is (.pointer (some ⟨z, 0, none⟩)), .is (.slice Aa ap.length ca), .is (.bool true), .is (.bool false), .is (.bool false), .is (.bool false)] rfl ?_ ?_
  · intro i q hio vals W hE haf
    have e0 := (bcl (o := 0) hE hrl).trans k0
    have y0 := (bcl (o := 0) hE hzl).trans z0
    rcases i with _ | _ | _ | _ | _ | _ | _ | _ | _ | _ | _ | _ | _ | _ | _ | i
    all_goals first
      | (exfalso; simp at hio; done)
      | (simp at hio; subst hio; simp [bindD, rdB, Region.binds, factAt] at haf; simp [opYield_def, yieldUpon, yielded, relAct, dstAt, Act.put, Region.wanted, go_sem, haf, e0, y0, Ext.refl, factAt]; done)
      | skip
    all_goals
      simp at hio
      subst hio
      simp [bindD, rdB, Region.binds, factAt] at haf
    · simp [opYield_def, yieldUpon, yielded, relAct, dstAt, Act.put, Region.wanted, go_sem, haf, factAt]
      refine (HCk.out W hE).mono fun e W' h => ?_
      obtain ⟨h1, h2⟩ := h
      subst h2
      exact ⟨h1, Below.refl _ _⟩
    · simp [opYield_def, yieldUpon, yielded, relAct, dstAt, Act.put, Region.wanted, go_sem, haf, factAt]
      refine (HWi.out W hE).mono fun e W' h => ?_
      exact ⟨h.2, h.1⟩
  · intro vals W hE hF
    simp only [facts] at hF
    obtain ⟨_, _, _, _, _, _, _, _, _, _, _, _, _, _, h14, _⟩ := hF
    have e14 : vals 14 = .bool false := h14
    simp [relAct, dstAt, Act.put]
    rw [e14]
    clear e14 h14
    generalize vals 0 = j0
    generalize vals 1 = j1
    generalize vals 2 = j2
    generalize vals 3 = j3
    generalize vals 4 = j4
    generalize vals 5 = j5
    generalize vals 6 = j6
    generalize vals 7 = j7
    generalize vals 8 = j8
    generalize vals 9 = j9
    generalize vals 10 = j10
    generalize vals 11 = j11
    generalize vals 12 = j12
    generalize vals 13 = j13
    have hE : Below w1.heap.size w1 W := hE
    have e1 := (bcl (o := 1) hE hrl).trans k1
    have e2 := (bcl (o := 2) hE hrl).trans k2
    have e4 := (bcl (o := 4) hE hrl).trans k4
    go_wp2_with fail
    refine (HRc.out W hE).mono ?_
    rintro e w2 ⟨hb2, rfl⟩
    have hE2 := hE.trans (hb2.mono hE.size)
    clear e1 e2 e4 hb2 hE
    have e1 := (bcl (o := 1) hE2 hrl).trans k1
    have e4 := (bcl (o := 4) hE2 hrl).trans k4
    go_wp2_with fail
    refine (HCa.out w2 hE2).mono ?_
    rintro e w3 ⟨hb3, vc, rfl, hown3⟩
    have hE3 := hE2.trans (hb3.mono hE2.size)
    have ho3 := own_base hown3 hE2.size
    obtain ⟨Ac, cc, rfl, _, hcc⟩ := Cs.of_own hown3
    clear e1 e4 hb3 hE2 hown3 w2
    have e0 := (bcl (o := 0) hE3 hrl).trans k0
    have e1 := (bcl (o := 1) hE3 hrl).trans k1
    go_wp2_with fail
    refine (HAt.out w3 hE3).mono ?_
    rintro e w4 ⟨rfl, hb4⟩
    have hE4 := hE3.trans (hb4.mono hE3.size)
    have ho4 := own_below ho3 hb4
    have hc4 := hcc.below hb4
    clear e0 e1 hb4 hE3 ho3 hcc w3
    have w5d : True := trivial
    have hE5 := hE4
    have ho5 := ho4
    go_wp2_with fail
    refine wp_region_mono mixed0 (by kernel_rfl) [.is (.bool false), .is (.bool false), .is undef, .is undef, .is undef, .is undef, .is undef, .is undef, .is undef, .is (.bool false), .is (.bool false)] rfl ?_ ?_
    · intro i q hio vals W hE haf
      rcases i with _ | _ | _ | _ | _ | _ | _ | _ | _ | _ | _ | i
      all_goals first
        | (exfalso; simp at hio; done)
        | (simp at hio; subst hio; simp [bindD, rdB, Region.binds, factAt] at haf; simp [opYield_def, yieldUpon, yielded, relAct, dstAt, Act.put, Region.wanted, go_sem, haf, Ext.refl, Ext.refl, factAt]; done)
        | skip
    · intro vals W hE hF
      simp only [facts] at hF
      obtain ⟨_, _, _, _, _, _, _, _, _, _, h10, _⟩ := hF
      have e10 : vals 10 = .bool false := h10
      simp [relAct, dstAt, Act.put]
      rw [e10]
      clear e10 h10
      generalize vals 0 = g0
      generalize vals 1 = g1
      generalize vals 2 = g2
      generalize vals 3 = g3
      generalize vals 4 = g4
      generalize vals 5 = g5
      generalize vals 6 = g6
      generalize vals 7 = g7
      generalize vals 8 = g8
      generalize vals 9 = g9
      have hE6 := hE5.trans (hE.mono hE5.size)
      have ho6 := own_below ho5 hE
      have y3 := (bcl (o := 3) hE6 hzl).trans z3
      have e0 := (bcl (o := 0) hE6 hrl).trans k0
      go_wp2_with fail
      refine (HK.out W hE6).mono ?_
      rintro e w7 ⟨rfl, hb7⟩
      have hE7 := hE6.trans (hb7.mono hE6.size)
      have ho7 := own_below ho6 hb7
      have hO7 := HO.out.ext hE7
      have y1 := (bcl (o := 1) hE7 hzl).trans z1
      have e0 := (bcl (o := 0) hE7 hrl).trans k0
      have l7 : (Instr.lookup 97 (.map (some bn)) (strV (zkey n)) false).run Tryz.prog w7 = .ok (.pointer (some ⟨x, 0, none⟩)) w7 := look_ptr hO7.nodes keyS Tryz.underlying97 rfl (keyOf_str _ (zkey_len HR.out.small)) (o := some x) hD
      go_wp2_with fail
      have hx11 := (hE7.block _ hxl1).trans HX1.out
      have hal11 := own_below HXN1.out hE7
      have hrb11 := (hE7.block _ hrl).trans hblk
      have had11 := own_below HAdo.out hE7
      have hoc11 := ho7
      have hbm11 := HST1.out.kept (row := none) ⟨hE7.os, hE7.tape, hE7.output, hE7.size, fun k hk _ => hE7.block k hk⟩ (by simp)
      have hT11 : Kept (fun k => k = bs) w w7 := HTu.out.trans ((Kept.of_ext hE7).mono (fun _ _ h => h.elim))
      have hO11 := hO7
      have hs11' := hT11.size
      clear hE7 hE6 hE5 hE4 hb7 ho7 ho6 ho5 ho4 hO7 w5d k0 k1 k2 k3 k4 kf z0 z1 z2 z3 zf y1 hblk hb1 hE l7 e0 y3 HX1 HXN1 HST1
      generalize w7 = w11 at *
      have hb12 : Below w11.heap.size w11 (w11.alloc (.cells #[.int .u32 0, .slice none 0 0] 110)) := (Below.refl _ _).alloc (Nat.le_refl _) _
      have hs12 := heap_alloc_new w11 (.cells #[.int .u32 0, .slice none 0 0] 110)
      have hBw11 : B ≤ w11.heap.size := Nat.le_trans hO11.h2 (Nat.le_of_lt hO11.nodes.lt)
      generalize w11.alloc (.cells #[.int .u32 0, .slice none 0 0] 110) = w12 at *
      have hO12 := hO11.ext hb12
      have hx12 := (hb12.block _ (lt_block hx11)).trans hx11
      have hal12 := own_below hal11 hb12
      have hrb12 := (hb12.block _ (lt_block hrb11)).trans hrb11
      have had12 := own_below had11 hb12
      have hoc12 := own_below hoc11 hb12
      have hbm12 := hbm11.kept (row := none) ⟨hb12.os, hb12.tape, hb12.output, hb12.size, fun k hk _ => hb12.block k hk⟩ (by simp)
      have hT12 := hT11.trans ((Kept.of_ext hb12).mono (fun _ _ h => h.elim))
      have hwss : w.heap.size ≤ w11.heap.size := hT11.size
      obtain ⟨s, hs⟩ : ∃ s, w11.heap.size = s := ⟨_, rfl⟩
      rw [hs] at hs12 hBw11 hwss
      rw [hs]
      have HO12 := Lib.hid hO12
      have HX12 := Lib.hid hx12
      have HAL12 := Lib.hid hal12
      have HRB12 := Lib.hid hrb12
      have HAD12 := Lib.hid had12
      have HOC12 := Lib.hid hoc12
      have HBM12 := Lib.hid hbm12
      have HT12 := Lib.hid hT12
      have HS12 := Lib.hid hs12
      have hku := keyOf_u16 t HR.out.wf
      have HBN := Lib.hid hbsn
      clear hO12 hx12 hal12 hrb12 had12 hoc12 hbm12 hT12 hs12 hO11 hx11 hal11 hrb11 had11 hoc11 hbm11 hT11 hb12 hs hs11'
      refine wp_region_dep mixed0 (by kernel_rfl) (fun i j => false) (by kernel_rfl)
        (fun i W W' => if i = 7 then Kept (fun k => k = bs) W W' else Ext W W')
        (fun W => Kept (fun k => k = bs) w12 W)
        (fun i vals W => match i with
          | 0 => vals 0 = .pointer (some ⟨x, 0, none⟩)
          | 1 => vals 1 = .pointer (some ⟨x, 0, none⟩)
          | 2 => vals 2 = .pointer (some ⟨x, 1, none⟩)
          | 3 => vals 3 = .map (some bs)
          | 4 => vals 4 = .pointer (some ⟨w.heap.size, 1, none⟩)
          | 5 => vals 5 = .int .u16 t
          | 6 => vals 6 = .pointer (some ⟨s, 0, none⟩)
          | 7 => W.ownsMap Tryz.prog 24 ptrR bs (N2 + 1) (D2.put (.int .u16 t) (.lit (.int .i64 (s : Int))))
          | _ => True) ?_ (fun W => W.ownsMap Tryz.prog 24 ptrR bs N2 D2) (fun i => i == 7) HBM12.out.drew ?_ ?_ ?_ ?_ ?_ ?_
      · intro j vals i v W hij hw hR
        rcases j with _ | _ | _ | _ | _ | _ | _ | _ | j
        all_goals first
          | exact trivial
          | exact hR
          | (simpa [hij, Ne.symm hij] using hR)
      · intro i W W' hk hC hI hT
        by_cases h7 : i = 7
        · subst h7; cases hk
        · simp only [h7, if_false] at hT
          exact hI.kept (row := none) ⟨hT.os, hT.tape, hT.output, hT.size, fun k hk _ => hT.block k hk⟩ (by simp)
      · exact (Kept.refl _ w12).drew
      · intro i W W' hC hT
        by_cases h7 : i = 7
        · simp only [h7, if_true] at hT
          exact hC.trans hT
        · simp only [h7, if_false] at hT
          exact hC.trans (Kept.mono (Kept.of_ext hT) (fun _ _ h => h.elim))
      · intro i j vals W W' hij hk hw hC hR hT
        rcases j with _ | _ | _ | _ | _ | _ | _ | _ | j
        all_goals first
          | exact trivial
          | exact hR
          | skip
        have h7 : ¬ i = 7 := hij
        simp only [h7, if_false] at hT
        exact World.ownsMap.kept hR (row := none) ⟨hT.os, hT.tape, hT.output, hT.size, fun k hk _ => hT.block k hk⟩ (by simp)
      · intro i o hio vals W hC haf hI0
        have hxW := cells_zonal HX12.out hC (Zonal.map HBM12.out) zT_node
        have hrW := cells_zonal HRB12.out hC (Zonal.map HBM12.out) zT_rec
        obtain ⟨_, x1, _⟩ := cells2 hxW
        obtain ⟨_, k1, _⟩ := cells5 hrW
        rcases i with _ | _ | _ | _ | _ | _ | _ | _ | i
        all_goals first
          | (exfalso; simp at hio; done)
          | skip
        all_goals
          simp at hio
          subst hio
          simp [bindD, rdB, Region.binds] at haf
        all_goals first
          | (simp [opYield_def, yieldUpon, relAct, dstAt, Act.put, Region.wanted, go_sem, haf, x1, k1, Ext.refl]; done)
          | skip
        have hI := hI0 (fun k hk hk2 => .inl (by simpa using hk2))
        obtain ⟨W', hrun, hm', hg'⟩ := hI.update keyT Tryz.underlying113 (by unfold maxLen; omega) hku (ptrR_at s)
        simp [opYield_def, yieldUpon, relAct, dstAt, Act.put, Region.wanted, go_sem, haf, hrun]
        exact ⟨(Kept.of_grown hg').mono (fun k _ h => by cases h; rfl), hm'⟩
      · intro vals W hC hR
        have h7 := hR 7 (by show 7 < 8; omega) (fun i _ => rfl)
        have hm13 : W.ownsMap Tryz.prog 24 ptrR bs (N2 + 1) (D2.put (.int .u16 t) (.lit (.int .i64 (s : Int)))) := h7
        have hZb : Zonal (fun k => k = bs) w12 := Zonal.map HBM12.out
        obtain ⟨Az, cz, hzb12, _⟩ := HO12.out.blk
        have hO13 := HO12.out.kept hC hZb (Ne.symm (ne_map HBM12.out hzb12)) (by have := HBN.out; omega) (by have := HBN.out; omega)
        have hx13 := cells_zonal HX12.out hC hZb zT_node
        have hal13 := row_zonal HAL12.out hC hZb zT_str
        have hrb13 := cells_zonal HRB12.out hC hZb zT_rec
        have had13 := row_zonal HAD12.out hC hZb zT_u8
        have hoc13 := row_zonal HOC12.out hC hZb zT_u8
        have hs13 := (hC.block s (lt_block HS12.out) (Ne.symm (ne_map HBM12.out HS12.out))).trans HS12.out
        have hT13 : Kept (fun k => k = bs) w W := HT12.out.trans hC
        have hkp : Kept (fun k => k = s) W (W.setCell ⟨s, 0, none⟩ (.int .u32 ttl2)) := (Kept.refl (fun k => k = s) W).setCell (fun _ => rfl) _
        have hZs : Zonal (fun k => k = s) W := Zonal.cells hs13 (.inr (.inl rfl))
        obtain ⟨Az3, cz3, hzb13, _⟩ := hO13.blk
        obtain ⟨E13, hE13, _⟩ := hO13.below
        have hset := heap_set (i := 0) (v := .int .u32 ttl2) hs13
        have H8 : Hid (Foc (W.setCell ⟨s, 0, none⟩ (.int .u32 ttl2)) B z bn bb x bs s ap n t ttl2 (.slice none 0 0) [] cq D (D2.put (.int .u16 t) (.lit (.int .i64 (s : Int)))) f N (N2 + 1)) := Lib.hid
          ⟨hO13.kept hkp hZs (ne_cells hzb13 hs13 (by decide)) (ne_map hO13.nodes hs13) (ne_map hE13 hs13),
            ⟨⟨An2, cn2, cells_zonal hx13 hkp hZs zT_node, row_zonal hal13 hkp hZs zT_str⟩, (ownsMap_block hm13 (hkp.block _ hm13.lt (ne_map hm13 hs13))).mono (by omega), hset, World.ownsRow_nil _ _ _ _, fun d hd => by (cases hd), hBbs, hBw11⟩, HBN.out.1, HBN.out.2, hD, Maps.atKey_put_same HBM12.out.isMap (key_int _ _) _ _⟩
        have HO8 := Lib.hid (row_zonal hoc13 hkp hZs zT_u8)
        have HAD8 := Lib.hid (row_zonal had13 hkp hZs zT_u8)
        have HRB8 := Lib.hid (cells_zonal hrb13 hkp hZs zT_rec)
        have HT14 := Lib.hid (hT13.then hkp (fun k hk e => by omega))
        obtain ⟨_, _, _, k3, _⟩ := cells5 hrb13
        obtain ⟨q0, _, qf⟩ := cells2 hs13
        have qf := qf 0
        clear hR h7 hm13 hZb hO13 hx13 hal13 hrb13 had13 hoc13 hT13 hkp hZs hzb13 hE13 hset hs13 hzb12
        simp [relAct, dstAt, Act.put]
        generalize vals 0 = p0x
        generalize vals 1 = p1x
        generalize vals 2 = p2x
        generalize vals 3 = p3x
        generalize vals 4 = p4x
        generalize vals 5 = p5x
        generalize vals 6 = p6x
        generalize vals 7 = p7x
        go_wp2_with fail
        generalize W.setCell ⟨s, 0, none⟩ (.int .u32 ttl2) = w14 at *
        obtain ⟨k08, k18, k28, k38, k48, _⟩ := cells5 HRB8.out
        have hsl8 := lt_block H8.out.st.set
        have HLT : Hid (∀ k, k = s ∨ some k = (Value.slice none 0 0).ownBlock → k < w14.heap.size) := Lib.hid (by
          rintro k (e | e)
          · rw [e]; exact hsl8
          · cases e)
        have HNE : Hid (∀ b, some b = (Value.slice none 0 0).ownBlock → b ≠ s) := Lib.hid fun b e => by cases e
        have HZ8 : Hid (Zonal (fun k => k = s ∨ some k = (Value.slice none 0 0).ownBlock) w14) := Lib.hid (by
          intro k hk2
          rcases hk2 with e | e
          · exact Zonal.cells H8.out.st.set (.inr (.inl rfl)) k e
          · cases e)
        have HRL : Hid (w.heap.size < w14.heap.size ∧ ¬ (w.heap.size = s ∨ some w.heap.size = (Value.slice none 0 0).ownBlock)) := Lib.hid ⟨lt_block HRB8.out, by
          rintro (e | e)
          · exact ne_cells HRB8.out H8.out.st.set (by decide) e
          · cases e⟩
        refine wp_region_dep mixed0 (by kernel_rfl) (fun i j => i == 15 && j == 12) (by kernel_rfl)
          (fun i W W' => if i = 12 then Kept (fun k => some k = (Value.slice none 0 0).ownBlock) W W' else if i = 15 then Kept (fun k => k = s) W W' else Ext W W')
          (fun W => Kept (fun k => k = s ∨ some k = (Value.slice none 0 0).ownBlock) w14 W)
          (fun i vals W => match i with
            | 0 => vals 0 = .pointer (some ⟨s, 0, none⟩)
            | 1 => vals 1 = .pointer (some ⟨s, 0, none⟩)
            | 2 => vals 2 = .pointer (some ⟨s, 0, none⟩)
            | 3 => vals 3 = .pointer (some ⟨s, 1, none⟩)
            | 4 => vals 4 = .slice none 0 0
            | 5 => vals 5 = .int .i64 0
            | 6 => vals 6 = .pointer (some ⟨w.heap.size, 4, none⟩)
            | 7 => vals 7 = .slice Ad d.length cd
            | 8 => ∃ Ak ck, vals 8 = .slice Ak d.length ck ∧ W.ownsRow w14.heap.size 5 1 (.slice Ak d.length ck) d.length (d.map byteV)
            | 9 => vals 9 = .slice Ac c.length cc
            | 10 => ∃ Ak ck, vals 10 = .agg #[.slice Ak d.length ck, .slice Ac c.length cc] ∧ W.ownsRow w14.heap.size 5 1 (.slice Ak d.length ck) d.length (d.map byteV)
            | 11 => ∃ g Ak ck, vals 11 = .slice (some ⟨g, 0, none⟩) 1 1 ∧ w14.heap.size ≤ g ∧ W.heap[g]? = some (.cells #[.slice Ak d.length ck, .slice Ac c.length cc] 119 (0, 0)) ∧ W.ownsRow w14.heap.size 5 1 (.slice Ak d.length ck) d.length (d.map byteV)
            | 12 => ∃ Ak ck, W.ownsRow w14.heap.size 5 1 (.slice Ak d.length ck) d.length (d.map byteV) ∧ W.ownsRow B 119 2 (vals 12) 1 ([.slice Ak d.length ck, .slice Ac c.length cc]) ∧ (∀ b, (vals 12).ownBlock = some b → some b = (Value.slice none 0 0).ownBlock ∨ w14.heap.size ≤ b) ∧ W.heap[s]? = some (.cells #[.int .u32 ttl2, .slice none 0 0] 110 (0, 0))
            | 13 => vals 13 = .pointer (some ⟨s, 0, none⟩)
            | 14 => vals 14 = .pointer (some ⟨s, 1, none⟩)
            | 15 => ∃ Ak ck v', W.ownsRow w14.heap.size 5 1 (.slice Ak d.length ck) d.length (d.map byteV) ∧ W.ownsRow B 119 2 v' 1 ([.slice Ak d.length ck, .slice Ac c.length cc]) ∧ (∀ b, v'.ownBlock = some b → some b = (Value.slice none 0 0).ownBlock ∨ w14.heap.size ≤ b) ∧ W.heap[s]? = some (.cells #[.int .u32 ttl2, v'] 110 (0, 0))
            | _ => True) ?_ (fun W => W.ownsRow B 119 2 (.slice none 0 0) 0 ([]) ∧ W.heap[s]? = some (.cells #[.int .u32 ttl2, .slice none 0 0] 110 (0, 0))) (fun i => i == 12 || i == 15) ⟨H8.out.st.row, H8.out.st.set⟩ ?_ ?_ ?_ ?_ ?_ ?_
        · intro j vals i v W hij hw hR
          have hwv : ∀ a b, waitsB _ a b = true → j = a → i = b → False := fun a b hab ha hb => by
            subst ha hb
            rw [hab] at hw
            cases hw
          rcases j with _ | _ | _ | _ | _ | _ | _ | _ | _ | _ | _ | _ | _ | _ | _ | _ | j
          all_goals first
            | exact trivial
            | exact hR
            | (simpa [hij, Ne.symm hij] using hR)
        · intro i W W' hk hC hI hT
          by_cases h12 : i = 12
          · subst h12; cases hk
          · by_cases h15 : i = 15
            · subst h15; cases hk
            · simp only [h12, h15, if_false] at hT
              exact ⟨own_below hI.1 hT, (hT.block _ (lt_block hI.2)).trans hI.2⟩
        · exact (Kept.refl _ w14).drew
        · intro i W W' hC hT
          by_cases h12 : i = 12
          · simp only [h12, if_true] at hT
            exact hC.trans (hT.mono (fun k _ h => .inr h))
          · by_cases h15 : i = 15
            · simp only [h15] at hT
              exact hC.trans (Kept.mono hT (fun k _ h => .inl h))
            · simp only [h12, h15, if_false] at hT
              exact hC.trans (Kept.mono (Kept.of_ext hT) (fun _ _ h => h.elim))
        · intro i j vals W W' hij hk hw hC hR hT
          have hnew : ∀ {S : Nat → Prop} {e : TypeId} {size : Nat} {u : Value} {m : Nat} {xs : List Value}, Kept S W W' → (∀ k, S k → k < w14.heap.size) → W.ownsRow w14.heap.size e size u m xs → W'.ownsRow w14.heap.size e size u m xs := fun hKk hS hr => Kept.row hr hKk (fun k hk2 hs => by have := (hr.lt k hk2).1; have := hS k hs; omega)
          by_cases h12 : i = 12
          · simp only [h12, if_true] at hT
            have hS : ∀ k, some k = (Value.slice none 0 0).ownBlock → k < w14.heap.size := fun k e => HLT.out k (.inr e)
            subst h12
            rcases j with _ | _ | _ | _ | _ | _ | _ | _ | _ | _ | _ | _ | _ | _ | _ | _ | j
            all_goals first
              | exact trivial
              | exact hR
              | (exfalso; exact hij rfl)
              | (exfalso; revert hw; decide)
              | skip
            · obtain ⟨Ak, ck, h1, h2⟩ := hR
              exact ⟨Ak, ck, h1, hnew hT hS h2⟩
            · obtain ⟨Ak, ck, h1, h2⟩ := hR
              exact ⟨Ak, ck, h1, hnew hT hS h2⟩
            · obtain ⟨g, Ak, ck, h1, h2, h3, h4⟩ := hR
              exact ⟨g, Ak, ck, h1, h2, (hT.block g (lt_block h3) (fun e => by have := hS g e; omega)).trans h3, hnew hT hS h4⟩
            · exfalso
              generalize hb : waitsB _ _ _ = b at hw
              have : b = true := by rw [← hb]; kernel_rfl
              rw [this] at hw
              cases hw
          · by_cases h15 : i = 15
            · simp only [h15] at hT
              have hT : Kept (fun k => k = s) W W' := hT
              have hS : ∀ k, k = s → k < w14.heap.size := fun k e => HLT.out k (.inl e)
              subst h15
              rcases j with _ | _ | _ | _ | _ | _ | _ | _ | _ | _ | _ | _ | _ | _ | _ | _ | j
              all_goals first
                | exact trivial
                | exact hR
                | (exfalso; exact hij rfl)
                | (cases hk; done)
                | skip
              · obtain ⟨Ak, ck, h1, h2⟩ := hR
                exact ⟨Ak, ck, h1, hnew hT hS h2⟩
              · obtain ⟨Ak, ck, h1, h2⟩ := hR
                exact ⟨Ak, ck, h1, hnew hT hS h2⟩
              · obtain ⟨g, Ak, ck, h1, h2, h3, h4⟩ := hR
                exact ⟨g, Ak, ck, h1, h2, (hT.block g (lt_block h3) (fun e => by have := hS g e; omega)).trans h3, hnew hT hS h4⟩
            · simp only [h12, h15, if_false] at hT
              rcases j with _ | _ | _ | _ | _ | _ | _ | _ | _ | _ | _ | _ | _ | _ | _ | _ | j
              all_goals first
                | exact trivial
                | exact hR
                | skip
              · obtain ⟨Ak, ck, h1, h2⟩ := hR
                exact ⟨Ak, ck, h1, own_below h2 hT⟩
              · obtain ⟨Ak, ck, h1, h2⟩ := hR
                exact ⟨Ak, ck, h1, own_below h2 hT⟩
              · obtain ⟨g, Ak, ck, h1, h2, h3, h4⟩ := hR
                exact ⟨g, Ak, ck, h1, h2, (hT.block g (lt_block h3)).trans h3, own_below h4 hT⟩
              · obtain ⟨Ak, ck, h1, h2, h3, h4⟩ := hR
                exact ⟨Ak, ck, own_below h1 hT, own_below h2 hT, h3, (hT.block _ (lt_block h4)).trans h4⟩
              · obtain ⟨Ak, ck, v', h1, h2, h3, h4⟩ := hR
                exact ⟨Ak, ck, v', own_below h1 hT, own_below h2 hT, h3, (hT.block _ (lt_block h4)).trans h4⟩
        · intro i o hio vals W hC haf hI0
          have e4 := (hC.cell (o := 4) HRL.out.1 HRL.out.2).trans k48
          rcases i with _ | _ | _ | _ | _ | _ | _ | _ | _ | _ | _ | _ | _ | _ | _ | _ | i
          all_goals first
            | (exfalso; simp at hio; done)
            | skip
          all_goals
            simp at hio
            subst hio
            simp [bindD, rdB, Region.binds] at haf
          all_goals first
            | (simp [opYield_def, yieldUpon, relAct, dstAt, Act.put, Region.wanted, go_sem, haf, e4, Ext.refl]; done)
            | skip
          · have hI := hI0 (fun k hk hk2 => by
              have h : k = 12 ∨ k = 15 := by simpa using hk2
              rcases h with rfl | rfl
              · exact .inr (by kernel_rfl)
              · exact .inr (by kernel_rfl))
            have e1 := (cells2 hI.2).2.1
            simp [opYield_def, yieldUpon, relAct, dstAt, Act.put, Region.wanted, go_sem, haf, e1, Ext.refl]
          · simp [opYield_def, yieldUpon, relAct, dstAt, Act.put, Region.wanted, go_sem, haf]
            refine (CloneB Ad d cd W (cs_own (row_zonal HAD8.out hC HZ8.out zT_u8)).2 (by omega)).mono fun e W' h => ?_
            obtain ⟨v, he, ho, hb⟩ := h
            obtain ⟨Ak, ck, rfl, _, _⟩ := Cs.of_own ho
            exact ⟨_, he, hb, Ak, ck, rfl, own_base ho hC.size⟩
          · obtain ⟨⟨Ak, ck, h1, h2⟩, h9⟩ := haf
            simp [opYield_def, yieldUpon, relAct, dstAt, Act.put, Region.wanted, go_sem, h1, h9, Ext.refl]
            exact ⟨Ak, ck, ⟨rfl, rfl⟩, h2⟩
          · obtain ⟨Ak, ck, h1, h2⟩ := haf
            simp [opYield_def, yieldUpon, relAct, dstAt, Act.put, Region.wanted, go_sem, h1, Ext.refl]
            exact ⟨(Below.refl _ _).alloc (Nat.le_refl _) _, hC.size, Ak, ck, by simp only [World.alloc, Array.getElem_push_eq], own_below h2 ((Below.refl _ _).alloc (Nat.le_refl _) _)⟩
          · obtain ⟨h4, h5, g, h11, hg, Ak, ck, hgb, hgo⟩ := haf
            have hI := hI0 (fun k hk hk2 => by
              have h : k = 12 ∨ k = 15 := by simpa using hk2
              rcases h with rfl | rfl
              · exact .inl rfl
              · exact .inr (by kernel_rfl))
            have hgh : W.heap[g]? = some (.cells #[.slice Ak d.length ck, .slice Ac c.length cc] 119 (0, 0)) := by first | exact hgb | (rw [Array.getElem?_eq_some_iff]; exact ⟨_, hgb⟩)
            simp [opYield_def, yieldUpon, relAct, dstAt, Act.put, Region.wanted, go_sem, h4, h5, h11]
            refine (InsertEnd B (.slice none 0 0) 0 ([]) g (.slice Ak d.length ck) (.slice Ac c.length cc) (0, 0) W hI.1 (Nat.le_trans H8.out.size hC.size) hgh (fun e => by have := HLT.out g (.inr e.symm); omega) rfl rfl (by omega)).mono fun e W' h => ?_
            obtain ⟨v', he, ho, hm⟩ := h
            refine ⟨v', he, hm.kept, Ak, ck, Kept.row hgo hm.kept (fun k hk2 hs => by have := (hgo.lt k hk2).1; have := HLT.out k (.inr hs); omega), ho, fun b hb => ?_, (hm.kept.block s (lt_block hI.2) (fun e => HNE.out s e rfl)).trans hI.2⟩
            rcases hm.at_ b hb with e | e
            · exact .inl e.symm
            · exact .inr (Nat.le_trans hC.size e)
          · obtain ⟨h14, Ak, ck, h1, h2, h3, h4⟩ := haf
            obtain ⟨A', c', hv, _⟩ := own_form h2
            rw [hv] at h2
            obtain ⟨_, e1, f1⟩ := cells2 h4
            have f1 := f1 1
            simp [opYield_def, yieldUpon, relAct, dstAt, Act.put, Region.wanted, go_sem, h14, hv, e1, f1]
            have hkk : Kept (fun k => k = s) W (W.setCell ⟨s, 1, none⟩ (.slice A' 1 c')) := (Kept.refl (fun k => k = s) W).setCell (fun _ => rfl) _
            refine ⟨hkk, Ak, ck, Kept.row h1 hkk (fun k hk2 hs => by have := (h1.lt k hk2).1; subst hs; omega), .slice A' 1 c', Kept.row h2 hkk (fun k hk2 hs => by rcases h3 k (hv ▸ hk2) with e | e; exact HNE.out k e hs; have := HLT.out k (.inl hs); omega), fun b hb => h3 b (hv ▸ hb), ?_⟩
            have := heap_set (i := 1) (v := .slice A' 1 c') h4
            first | exact this | (simpa using this)
        · intro vals W hC hR
          have h15 := hR 15 (by show 15 < 16; omega) (fun i _ => by simp)
          obtain ⟨Ak, ck, v', g1, g2, g4, g3⟩ := h15
          obtain ⟨Az, cz, hzb8, _⟩ := H8.out.zn.blk
          have hzS : ¬ (z = s ∨ some z = (Value.slice none 0 0).ownBlock) := by
            rintro (e | e)
            · exact ne_cells hzb8 H8.out.st.set (by decide) e
            · obtain ⟨cs, e1, _⟩ := row_block H8.out.st.row e.symm
              exact ne_cells hzb8 e1 (by decide) rfl
          obtain ⟨_, _, _, y3, yf⟩ := cells4 ((hC.block z (lt_block hzb8) hzS).trans hzb8)
          have yf := yf 3
          have hm := H8.out.more hC (b1 := ⟨Ak, d, ck⟩) (b2 := ⟨Ac, c, cc⟩) g3 0 (Nat.le_refl _) g2 (own_base g1 H8.out.size) (own_base (row_zonal HO8.out hC HZ8.out zT_u8) HB.out) g4
          have hnd := H8.out.nd_more hm.kept
          have HM := Lib.hid hm
          have HND := Lib.hid hnd
          clear hR hm hnd g1 g2 g3 g4
          simp [relAct, dstAt, Act.put]
          generalize vals 0 = w0x
          generalize vals 1 = w1x
          generalize vals 2 = w2x
          generalize vals 3 = w3x
          generalize vals 4 = w4x
          generalize vals 5 = w5x
          generalize vals 6 = w6x
          generalize vals 7 = w7x
          generalize vals 8 = w14x
          generalize vals 9 = w9x
          generalize vals 10 = w10x
          generalize vals 11 = w11x
          generalize vals 12 = w12x
          generalize vals 13 = w13x
          generalize vals 14 = w14x
          generalize vals 15 = w15x
          go_wp2_with fail
          go_ret2
          exact ⟨rfl, s, v', ⟨Ak, d, ck⟩, ⟨Ac, c, cc⟩, rfl, rfl, HM.out.before (HT14.out.mono (fun k _ h => .inr h)) (fun k hk e => by rcases e with e | e | e; exact .inl e; omega; cases e), HND.out, hwss⟩
end Nm
end Go.Proofs.YtkeimgamjnpcbaaGreat

/- A zone of any records: its names, its sets, in plain Lean and in memory. -/
namespace Go.Proofs.YtkeimgamjnpcbaaGreat
open Go.RowKit
set_option linter.unusedVariables false
set_option linter.unusedSimpArgs false
namespace Nm
/-- a name of a zone -/
structure Nq where
  n : List Lab
  x : Nat
  bs : Nat
/-- a set of a zone -/
structure Sq where
  n : List Lab
  t : Int
  ttl : Int
  s : Nat
  v : Value
  ds : List (Blob × Blob)
def Nq.ent (p : Nq) : Lit × DataW Unit := (.string (zkey p.n), .lit (.int .i64 (p.x : Int)))
def Sq.ent (q : Sq) : Lit × DataW Unit := (.int .u16 q.t, .lit (.int .i64 (q.s : Int)))
def setsOf (Q : List Sq) (n : List Lab) : List Sq := Q.filter fun q => decide (q.n = n)
def total (Q : List Sq) : Nat := (Q.map fun q => q.ds.length).sum
def cntP (ap : List Lab) (P : List Nq) : Lab → Int := fun m => (P.map fun p => occ p.n (p.n.length - ap.length + 1) m).sum
/-- the blocks that a zone writes -/
def zblk (z bn bb : Nat) (P : List Nq) (Q : List Sq) (k : Nat) : Prop := k = z ∨ k = bn ∨ k = bb ∨ (∃ p ∈ P, k = p.bs) ∨ ∃ q ∈ Q, k = q.s ∨ some k = q.v.ownBlock
/-- data stand in their order, none twice -/
def SortD (ds : List (Blob × Blob)) : Prop := ds.Pairwise fun a b => Lib.compareBytes a.2.l b.2.l < 0
structure SdG (w : World) (B s : Nat) (ttl : Int) (v : Value) (ds : List (Blob × Blob)) : Prop where
  set : w.heap[s]? = some (.cells #[.int .u32 ttl, v] 110 (0, 0))
  row : w.ownsRow B 119 2 v ds.length (datC ds)
  dat : DatOwn w B ds
  h2 : B ≤ s
/-- a name that may stand in a zone, in small letters -/
structure InZ (ap n : List Lab) : Prop where
  low : lower n = n
  small : Small n
  ok : nameE n = 0
  inn : within n ap = true
structure Wf (ap : List Lab) (P : List Nq) (Q : List Sq) : Prop where
  ok : ∀ p ∈ P, InZ ap p.n
  kP : (P.map (·.n)).Nodup
  kQ : (Q.map fun q => (q.n, q.t)).Nodup
  wt : ∀ q ∈ Q, (Lit.int .u16 q.t).wf = true
  own : ∀ q ∈ Q, ∃ p ∈ P, p.n = q.n
  has : ∀ p ∈ P, ∃ q ∈ Q, q.n = p.n
  full : ∀ q ∈ Q, q.ds ≠ []
  srt : ∀ q ∈ Q, SortD q.ds
structure ZG (w : World) (B z bn bb : Nat) (ap : List Lab) (P : List Nq) (Q : List Sq) (N : Nat) : Prop where
  zn : ∃ D, Zn w B z bn bb ap (total Q) D (cntP ap P) N ∧ Ents D (P.map Nq.ent)
  nd : ∀ p ∈ P, ∃ D2, NdG w B p.x p.bs p.n N D2 ∧ Ents D2 ((setsOf Q p.n).map Sq.ent)
  sd : ∀ q ∈ Q, SdG w B q.s q.ttl q.v q.ds
  dbs : (bn :: bb :: P.map (·.bs)).Nodup
  ds : (Q.map (·.s)).Nodup
  dv : Q.Pairwise fun a b => ∀ k, a.v.ownBlock = some k → b.v.ownBlock ≠ some k
theorem zkey_inj {n m : List Lab} (hn : nameE n = 0) (hm : nameE m = 0) (h : zkey n = zkey m) : lower n = lower m := by
  have h1 := (nameE_zero.1 hn).1
  have h2 := (nameE_zero.1 hm).1
  have : ∀ {k : List Lab}, (∀ l ∈ k, 1 ≤ l.length ∧ l.length ≤ 63) → ∀ l ∈ lower k, 1 ≤ l.length ∧ l.length ≤ 63 := by
    intro k hk l hl
    unfold lower at hl
    obtain ⟨x, hx, rfl⟩ := List.mem_map.1 hl
    have := hk x hx
    have e : (low x).length = x.length := by simp [low]
    omega
  exact wire_inj (this h1) (this h2) h
theorem zkey_low (n : List Lab) : zkey (lower n) = zkey n := by unfold zkey; rw [lower_idem]
theorem Wf.apartP {ap : List Lab} {P : List Nq} {Q : List Sq} (h : Wf ap P Q) : KApart (P.map Nq.ent) := by
  have h1 := h.kP
  have h2 := h.ok
  clear h
  induction P with
  | nil => exact List.Pairwise.nil
  | cons p P ih =>
    rw [List.map_cons, List.nodup_cons] at h1
    refine List.pairwise_cons.2 ⟨fun e he hk => ?_, ih h1.2 (fun q hq => h2 q (by simp [hq]))⟩
    obtain ⟨q, hq, rfl⟩ := List.mem_map.1 he
    have hk : Lit.string (zkey p.n) = Lit.string (zkey q.n) := hk
    injection hk with hk
    have := zkey_inj (h2 p (by simp)).ok (h2 q (by simp [hq])).ok hk
    rw [(h2 p (by simp)).low, (h2 q (by simp [hq])).low] at this
    exact h1.1 (List.mem_map.2 ⟨q, hq, this.symm⟩)
theorem Wf.apartQ {ap : List Lab} {P : List Nq} {Q : List Sq} (h : Wf ap P Q) (n : List Lab) : KApart ((setsOf Q n).map Sq.ent) := by
  have h1 := h.kQ
  clear h
  induction Q with
  | nil => exact List.Pairwise.nil
  | cons q Q ih =>
    rw [List.map_cons, List.nodup_cons] at h1
    unfold setsOf at ih ⊢
    rw [List.filter_cons]
    split
    · rename_i hq
      have hq : q.n = n := by simpa using hq
      refine List.pairwise_cons.2 ⟨fun e he hk => ?_, ih h1.2⟩
      obtain ⟨r, hr, rfl⟩ := List.mem_map.1 he
      obtain ⟨hr1, hr2⟩ := List.mem_filter.1 hr
      have hr2 : r.n = n := by simpa using hr2
      have hk : Lit.int .u16 q.t = Lit.int .u16 r.t := hk
      injection hk with _ hk
      exact h1.1 (List.mem_map.2 ⟨r, hr1, by rw [hq, hr2, hk]⟩)
    · exact ih h1.2
theorem mem_setsOf {Q : List Sq} {n : List Lab} {q : Sq} : q ∈ setsOf Q n ↔ q ∈ Q ∧ q.n = n := by simp [setsOf]
section
variable {w w' : World} {B z bn bb : Nat} {ap : List Lab} {P : List Nq} {Q : List Sq} {N : Nat}
theorem SdG.kept {S : Nat → Prop} {s : Nat} {ttl : Int} {v : Value} {ds : List (Blob × Blob)} (h : SdG w B s ttl v ds) (hk : Kept S w w') (hZ : Zonal S w) (h1 : ¬ S s) (h3 : ∀ b, v.ownBlock = some b → ¬ S b) : SdG w' B s ttl v ds :=
  ⟨(hk.block _ (lt_block h.set) h1).trans h.set, Kept.row h.row hk h3, h.dat.zonal hk hZ, h.h2⟩
theorem Kept.ext' (hb : Below w.heap.size w w') : Kept (fun _ => False) w w' := Kept.of_ext hb
theorem Zonal.none : Zonal (fun _ => False) w := fun k h => h.elim
theorem ZG.kept {S : Nat → Prop} (h : ZG w B z bn bb ap P Q N) (hk : Kept S w w') (hZ : Zonal S w) (hS : ∀ k, S k → ¬ zblk z bn bb P Q k) : ZG w' B z bn bb ap P Q N := by
  obtain ⟨D, h1, h2⟩ := h.zn
  refine ⟨⟨D, h1.kept hk hZ (fun e => hS _ e (.inl rfl)) (fun e => hS _ e (.inr (.inl rfl))) (fun e => hS _ e (.inr (.inr (.inl rfl)))), h2⟩, fun p hp => ?_, fun q hq => ?_, h.dbs, h.ds, h.dv⟩
  · obtain ⟨D2, h3, h4⟩ := h.nd p hp
    exact ⟨D2, h3.kept hk hZ (fun e => hS _ e (.inr (.inr (.inr (.inl ⟨p, hp, rfl⟩))))), h4⟩
  · exact (h.sd q hq).kept hk hZ (fun e => hS _ e (.inr (.inr (.inr (.inr ⟨q, hq, .inl rfl⟩))))) (fun b hb e => hS _ e (.inr (.inr (.inr (.inr ⟨q, hq, .inr hb.symm⟩)))))
theorem ZG.ext (h : ZG w B z bn bb ap P Q N) (hb : Below w.heap.size w w') : ZG w' B z bn bb ap P Q N := h.kept (Kept.of_ext hb) Zonal.none (fun k h => h.elim)
theorem ZG.lt (h : ZG w B z bn bb ap P Q N) {k : Nat} (hk : zblk z bn bb P Q k) : k < w.heap.size ∧ B ≤ k := by
  obtain ⟨D, h1, h2⟩ := h.zn
  obtain ⟨A, ca, g1, g2⟩ := h1.blk
  obtain ⟨E, g3, g4⟩ := h1.below
  rcases hk with rfl | rfl | rfl | ⟨p, hp, rfl⟩ | ⟨q, hq, rfl | e⟩
  · exact ⟨lt_block g1, h1.h1⟩
  · exact ⟨h1.nodes.lt, h1.h2⟩
  · exact ⟨g3.lt, h1.h3⟩
  · obtain ⟨D2, h3, h4⟩ := h.nd p hp
    exact ⟨h3.sets.lt, h3.h1⟩
  · exact ⟨lt_block (h.sd q hq).set, (h.sd q hq).h2⟩
  · exact ⟨((h.sd q hq).row.lt k e.symm).2, ((h.sd q hq).row.lt k e.symm).1⟩
theorem ZG.zonal (h : ZG w B z bn bb ap P Q N) : Zonal (zblk z bn bb P Q) w := by
  obtain ⟨D, h1, h2⟩ := h.zn
  obtain ⟨A, ca, g1, g2⟩ := h1.blk
  obtain ⟨E, g3, g4⟩ := h1.below
  rintro k (e | e | e | ⟨p, hp, e⟩ | ⟨q, hq, e | e⟩)
  · exact Zonal.cells g1 (.inl rfl) k e
  · exact Zonal.map h1.nodes k e
  · exact Zonal.map g3 k e
  · obtain ⟨D2, h3, h4⟩ := h.nd p hp
    exact Zonal.map h3.sets k e
  · exact Zonal.cells (h.sd q hq).set (.inr (.inl rfl)) k e
  · exact Zonal.row (h.sd q hq).row k e
end
end Nm
end Go.Proofs.YtkeimgamjnpcbaaGreat

/- A map's entries in whatever order they are told: which are still to come. -/
namespace Go.Proofs.YtkeimgamjnpcbaaGreat
open Go.RowKit
set_option linter.unusedVariables false
set_option linter.unusedSimpArgs false
namespace Nm
/-- just these keys are still to come -/
def LeftOf (left : Lit → Bool) (R : List Lit) : Prop := ∀ k, left k = true ↔ k ∈ R
theorem LeftOf.start {D : DataW Unit} {es : List (Lit × DataW Unit)} (h : Ents D es) (hk : ∀ p ∈ es, WideAt.IsKeyLit p.1) : LeftOf (Maps.has D) (es.map (·.1)) := by
  intro k
  obtain ⟨l, rfl, hp⟩ := h
  rw [Maps.has_eq, List.any_eq_true]
  constructor
  · rintro ⟨p, hpm, e⟩
    have := WideAt.sameKey_eq e
    exact List.mem_map.2 ⟨p, hp.mem_iff.1 hpm, this⟩
  · intro hm
    obtain ⟨p, hpm, rfl⟩ := List.mem_map.1 hm
    exact ⟨p, hp.mem_iff.2 hpm, sameKey_self (hk p hpm)⟩
theorem LeftOf.strike {left : Lit → Bool} {A B : List Lit} {kl : Lit} (h : LeftOf left (A ++ kl :: B)) (hn : (A ++ kl :: B).Nodup) (hk : ∀ k ∈ A ++ kl :: B, WideAt.IsKeyLit k) : LeftOf (fun z => left z && !z.sameKey kl) (A ++ B) := by
  intro k
  have hnd := hn
  rw [List.nodup_append] at hnd
  obtain ⟨h1, h2, h3⟩ := hnd
  rw [List.nodup_cons] at h2
  simp only [Bool.and_eq_true, Bool.not_eq_true']
  rw [h k]
  constructor
  · rintro ⟨hm, e⟩
    rcases List.mem_append.1 hm with hm | hm
    · exact List.mem_append.2 (.inl hm)
    · rcases List.mem_cons.1 hm with rfl | hm
      · rw [sameKey_self (hk k (by simp))] at e
        cases e
      · exact List.mem_append.2 (.inr hm)
  · intro hm
    have hne : k ≠ kl := by
      rintro rfl
      rcases List.mem_append.1 hm with hm | hm
      · exact h3 k hm k (by simp) rfl
      · exact h2.1 hm
    refine ⟨?_, Maps.sameKey_ne hne⟩
    rcases List.mem_append.1 hm with hm | hm
    · exact List.mem_append.2 (.inl hm)
    · exact List.mem_append.2 (.inr (List.mem_cons_of_mem _ hm))
theorem LeftOf.none {left : Lit → Bool} {R : List Lit} (h : LeftOf left R) (hn : ∀ k, left k = false) : R = [] := by
  cases R with
  | nil => rfl
  | cons k R =>
    have := (h k).2 (by simp)
    rw [hn k] at this
    cases this
/-- what was told, and what is to come, of a list's keys -/
structure Rng {α : Type} (key : α → Lit) (L V R : List α) (left : Lit → Bool) : Prop where
  perm : (V ++ R).Perm L
  left : LeftOf left (R.map key)
  nd : ((V ++ R).map key).Nodup
  kl : ∀ a ∈ L, WideAt.IsKeyLit (key a)
theorem Rng.start {α : Type} {key : α → Lit} {L : List α} {D : DataW Unit} {f : α → Lit × DataW Unit} (hf : ∀ a, (f a).1 = key a) (h : Ents D (L.map f)) (ha : KApart (L.map f)) (hk : ∀ a ∈ L, WideAt.IsKeyLit (key a)) : Rng key L [] L (Maps.has D) := by
  refine ⟨List.Perm.refl _, ?_, ?_, hk⟩
  · have h1 := LeftOf.start h (fun p hp => by obtain ⟨a, ha, rfl⟩ := List.mem_map.1 hp; rw [hf]; exact hk a ha)
    rw [List.map_map] at h1
    have : L.map ((fun x => x.1) ∘ f) = L.map key := List.map_congr_left fun a _ => hf a
    rw [this] at h1
    exact h1
  · unfold KApart at ha
    rw [List.pairwise_map] at ha
    show (L.map key).Pairwise (· ≠ ·)
    rw [List.pairwise_map]
    exact ha.imp (fun h => by rw [← hf, ← hf]; exact h)
/-- one is told -/
theorem Rng.step {α : Type} {key : α → Lit} {L V R : List α} {left : Lit → Bool} (h : Rng key L V R left) {kl : Lit} (hl : left kl = true) : ∃ a ∈ L, key a = kl ∧ ∃ R', Rng key L (V ++ [a]) R' (fun z => left z && !z.sameKey kl) ∧ R'.length + 1 = R.length := by
  obtain ⟨a, ha, rfl⟩ := List.mem_map.1 ((h.left kl).1 hl)
  obtain ⟨R1, R2, rfl⟩ := List.append_of_mem ha
  have hin : a ∈ L := h.perm.mem_iff.1 (by simp)
  have hnR : ((R1 ++ a :: R2).map key).Nodup := by
    have := h.nd
    rw [List.map_append, List.nodup_append] at this
    exact this.2.1
  have hp : (V ++ [a] ++ (R1 ++ R2)).Perm (V ++ (R1 ++ a :: R2)) := by
    rw [List.append_assoc]
    exact List.Perm.append_left V (by
      show (a :: (R1 ++ R2)).Perm _
      exact (List.perm_middle).symm)
  refine ⟨a, hin, rfl, R1 ++ R2, ⟨hp.trans h.perm, ?_, ((hp.map key).nodup_iff).2 h.nd, h.kl⟩, by simp; omega⟩
  have h1 := h.left
  rw [List.map_append, List.map_cons] at h1 hnR
  rw [List.map_append]
  refine h1.strike hnR (fun k hk => ?_)
  have : k ∈ (R1 ++ a :: R2).map key := by rw [List.map_append, List.map_cons]; exact hk
  obtain ⟨b, hb, rfl⟩ := List.mem_map.1 this
  exact h.kl b (h.perm.mem_iff.1 (List.mem_append.2 (.inr hb)))
theorem Rng.done {α : Type} {key : α → Lit} {L V R : List α} {left : Lit → Bool} (h : Rng key L V R left) (hn : ∀ k, left k = false) : V.Perm L := by
  have : R.map key = [] := h.left.none hn
  have hR : R = [] := List.map_eq_nil_iff.1 this
  have := h.perm
  rw [hR, List.append_nil] at this
  exact this
end Nm
end Go.Proofs.YtkeimgamjnpcbaaGreat

/- Contracts of package zone: Names, in any zone. -/
namespace Go.Proofs.YtkeimgamjnpcbaaGreat
open Go.RowKit
set_option linter.unusedVariables false
set_option linter.unusedSimpArgs false
namespace Nm
def keyP (p : Nq) : Lit := .string (zkey p.n)
theorem elem_of {D : DataW Unit} {P : List Nq} (hE : Ents D (P.map Nq.ent)) (ha : KApart (P.map Nq.ent)) {p : Nq} (hp : p ∈ P) {c : Option Nat} {y : DataW Unit × List MemPlace} (hR : ptrR (ptrV c) = some y) (hat : ∀ zd, D.atKey (keyP p) zd = y.1) : c = some p.x := by
  have h1 := hat .nil
  have h0 : D.atKey (keyP p) .nil = .lit (.int .i64 (p.x : Int)) := hE.at_mem ha (key_lit _) (List.mem_map.2 ⟨p, hp, rfl⟩) _
  rw [h0] at h1
  obtain ⟨y1, y2⟩ := y
  simp only at h1
  subst h1
  have h2 := ptr_of (o := some p.x) hR
  cases c with
  | none => cases h2
  | some b => cases h2; rfl
theorem Kept.grown {w w' : World} {v : Value} (h : Kept (fun b => some b = v.ownBlock) w w') : w.grownBy w' v.ownBlock := ⟨h.os, h.tape, h.output, h.size, fun k hk hne => h.block k hk (fun e => hne e)⟩
def NmB.own (w : World) (B : Nat) (b : NmB) : Prop := w.ownsRow B 9 1 b.v b.l.length (b.l.map strV)
/-- names that were gathered -/
def NamesR (bn N : Nat) (D : DataW Unit) (P : List Nq) (w0 : World) (v : Value) (wr : World) : Prop :=
  ∃ (left : Lit → Bool) (cnt : Nat) (V R : List Nq) (bs : List NmB), wr.ranges Tryz.prog 9 ptrR bn w0.heap.size N D left cnt ∧ Rng keyP P V R left ∧ bs.map (·.l) = V.map (·.n) ∧
    wr.ownsRow (w0.heap.size + 1) 23 1 v bs.length (bs.map NmB.v) ∧ (∀ y ∈ bs, y.own wr (w0.heap.size + 1)) ∧ Below w0.heap.size w0 wr ∧ w0.heap.size + 1 ≤ wr.heap.size
theorem row_type {w w' : World} {B B' : Nat} {e e' : TypeId} {size size' : Nat} {u v : Value} {n m : Nat} {xs ys : List Value} (h : w.ownsRow B e size u n xs) (h2 : w.ownsRow B' e' size' v m ys) (he : e ≠ e') (hk : Kept (fun b => some b = v.ownBlock) w w') : w'.ownsRow B e size u n xs := by
  refine Kept.row h hk fun k hkb e1 => ?_
  obtain ⟨cs, g1, _⟩ := row_block h hkb
  obtain ⟨cs2, g2, _⟩ := row_block h2 e1.symm
  rw [g1] at g2
  cases g2
  exact he rfl
theorem row_iter {w w' : World} {r B : Nat} {e : TypeId} {size : Nat} {v : Value} {n : Nat} {xs : List Value} (h : w.ownsRow B e size v n xs) (hB : r < B) (hg : w.grownBy w' (some r)) : w'.ownsRow B e size v n xs :=
  Kept.row h (Kept.of_grown hg) (fun k hk e => by have := (h.lt k hk).1; injection e with e; omega)
set_option maxRecDepth 100000 in
set_option maxHeartbeats 20000000 in
theorem ZNamesG (w : World) (B z bn bb : Nat) (ap : List Lab) (P : List Nq) (Q : List Sq) (N : Nat) (h : ZG w B z bn bb ap P Q N) (hw : Wf ap P Q) (hPl : P.length ≤ 100000) :
    Calls Tryz.prog 34 #[.pointer (some ⟨z, 0, none⟩)] w fun e w' => Below w.heap.size w w' ∧ ∃ v, ∃ ns : List NmB, e = .returned v ∧ w'.ownsRow w.heap.size 23 1 v ns.length (ns.map NmB.v) ∧ (ns.map (·.l)).Perm (P.map (·.n)) ∧
      ns.Pairwise (fun a b => ¬ cmpN b.l a.l < 0) ∧ ∀ y ∈ ns, y.own w' w.heap.size := by
  obtain ⟨i0, hi, hz0, hz1, hz2⟩ := info_parts info_name
  obtain ⟨D, hzn, hE⟩ := h.zn
  obtain ⟨Aa, ca, hzb, hza⟩ := hzn.blk
  obtain ⟨z0, z1, z2, z3, _⟩ := cells4 hzb
  have hzl := lt_block hzb
  have hM := hzn.nodes
  have hml := hM.lt
  have HND : Hid (∀ p ∈ P, ∃ A c, w.heap[p.x]? = some (.cells #[.slice A p.n.length c, .map (some p.bs)] 115 (0, 0)) ∧ w.ownsRow B 9 1 (.slice A p.n.length c) p.n.length (p.n.map strV) ∧ p.n.length ≤ 1000 ∧ Few p.n) := Lib.hid fun p hp => by
    obtain ⟨D2, h3, _⟩ := h.nd p hp
    obtain ⟨A, c, g1, g2⟩ := h3.node
    rw [(hw.ok p hp).low] at g2
    exact ⟨A, c, g1, g2, (hw.ok p hp).small.1, (hw.ok p hp).small.few⟩
  have HEL : Hid (∀ p ∈ P, ∀ (c : Option Nat) (y : DataW Unit × List MemPlace), ptrR (ptrV c) = some y → (∀ zd, D.atKey (keyP p) zd = y.1) → c = some p.x) := Lib.hid fun p hp c y hR hat => elem_of hE hw.apartP hp hR hat
  have HST : Hid (Rng keyP P [] P (Maps.has D)) := Lib.hid (Rng.start (key := keyP) (fun _ => rfl) hE hw.apartP (fun a _ => key_lit _))
  clear h hw hzb hza hzn hE
  go_enter Tryz.func34, Tryz.ntmps34
  go_wp2_with (first | (at_range; refine wpList_range_own _ rfl _ 97 rfl 9 112 keyS Tryz.underlying97 ptrR bn N _ rfl hM ?_; intro w0 hrg0 hg0 hs0))
  go_frame
  have hb0 : Below w.heap.size w w0 := ⟨hg0.os, hg0.tape, hg0.output, hg0.size, fun k hk => hg0.block k hk (by simp)⟩
  have HRG := Lib.hid hrg0
  clear hrg0
  go_loopw [3] (NamesR bn N D P w) (fun _ wr => wr.rangeLeft bn w.heap.size)
  case atStart =>
    exact ⟨_, _, [], P, [], HRG.out, HST.out, rfl, World.ownsRow_nil _ _ _ _, fun y hy => (by cases hy), hb0, by omega⟩
  case round =>
    obtain ⟨left, cnt, V, R, bs, hrg, hcs, hbs, hown, hok, hbel, hsz⟩ := hrel
    obtain ⟨A, c, rfl, _⟩ := own_form hown
    have HBS := Lib.hid hbs
    have HOK := Lib.hid hok
    have hbl : bs.length ≤ 100000 := by
      have e1 := congrArg List.length hbs
      have e2 := hcs.perm.length_eq
      simp at e1 e2
      omega
    clear hbs hok
    go_wp2_with (first | (at_next; refine wpList_next_ranges _ rfl _ rfl 9 keyS ptrR Value.string ptrV keyS_inv ptrV_inv bn w.heap.size N _ _ _ rfl hrg ?_ ?_))
    · intro hc0 hl0
      have HP := Lib.hid (hcs.done hl0)
      by_cases hz : bs = []
      · subst hz
        go_wp2_with fail
        refine (SortNG0 A c wr).mono ?_
        rintro e w5 ⟨rfl, rfl⟩
        go_wp2_with fail
        go_ret
        refine ⟨hbel, _, rfl, [], own_base hown (by omega), ?_, List.Pairwise.nil, fun y hy => (by cases hy)⟩
        have e1 : V.map (·.n) = [] := HBS.out.symm
        have := (HP.out.map (·.n)).symm
        rw [e1] at this
        exact this.symm
      · have hpos := List.length_pos_iff.2 hz
        obtain ⟨g, cap, cur, hv, hg, hh, hn, hcap, hszc, htk⟩ := hown.2.resolve_left (fun h => by have := h.2; omega)
        cases hv
        have hrow : RowN wr g bs := by
          intro i b hb
          have hi : i < bs.length := (List.getElem?_eq_some_iff.1 hb).1
          refine ⟨?_, by simp [World.frozen?, hh]⟩
          rw [cell_of_row _ _ _ _ _ _ hh]
          have h3 : (cur.toList.take (bs.length * 1))[i]? = (bs.map NmB.v)[i]? := by rw [htk]
          rw [List.getElem?_take, if_pos (by omega), List.getElem?_map, hb] at h3
          simpa using h3
        have hstr : ∀ b ∈ bs, ∀ k, b.v.ownBlock = some k → k ≠ g := fun b hb k hk e => by
          obtain ⟨cs, g1, _⟩ := row_block (HOK.out b hb) hk
          exact ne_cells g1 hh (by decide) e
        have hS := SortNG g c bs wr hrow (lt_block hh) (fun b hb => (cs_own (HOK.out b hb)).2) (fun b hb a ha hx => by
            have ho := HOK.out b hb
            rcases ho.2 with ⟨h1, h2⟩ | ⟨g2, c2, cu2, h1, h2, _⟩
            · exfalso
              apply hx
              have := List.length_eq_zero_iff.1 h2
              rw [this]; rfl
            · obtain ⟨bA, bl, bc⟩ := b
              unfold NmB.v at h1
              simp only at ha
              cases h1
              cases ha
              exact hstr _ hb g2 rfl) (fun b hb => by
            have : b.l ∈ bs.map (·.l) := List.mem_map.2 ⟨b, hb, rfl⟩
            rw [HBS.out] at this
            obtain ⟨p, hp, e⟩ := List.mem_map.1 this
            rw [← e]
            exact (HND.out p (HP.out.mem_iff.1 hp)).choose_spec.choose_spec.2.2.2) (by omega) hz
        have HS := Lib.hid hS
        have HH := Lib.hid hh
        have HST2 := Lib.hid hstr
        have hcur : cur.size = c * 1 := hszc
        clear hS hrow hown htk hrg hh hstr
        go_wp2_with fail
        refine HS.out.mono ?_
        rintro e w5 ⟨rfl, hk5, cs, hp5, hs5, hr5, hsh5⟩
        obtain ⟨cur5, hh5, hcs5⟩ := hsh5 _ _ _ HH.out
        have hbw5 := hbel.trans (hk5.below hbel.size (fun k hk e => by omega))
        have hlen := hp5.length_eq
        have hrow5 : w5.ownsRow w.heap.size 23 1 (.slice (some ⟨g, 0, none⟩) bs.length c) cs.length (cs.map NmB.v) := by
          rw [hlen]
          refine ⟨by simp [hlen], .inr ⟨g, c, cur5, rfl, by omega, hh5, hn, hcap, by omega, ?_⟩⟩
          apply List.ext_getElem?
          intro i
          rw [List.getElem?_take]
          split
          · rename_i hi
            have hic : i < cs.length := by omega
            obtain ⟨q1, _⟩ := hr5 i _ (List.getElem?_eq_getElem hic)
            rw [cell_of_row _ _ _ _ _ _ hh5] at q1
            rw [List.getElem?_map, List.getElem?_eq_getElem hic]
            simpa using q1
          · rw [List.getElem?_eq_none (by simp; omega)]
        have HR5 := Lib.hid hrow5
        clear hrow5 hr5 hsh5 hh5
        go_wp2_with fail
        go_ret
        refine ⟨hbw5, _, rfl, cs, HR5.out, ?_, hs5, fun y hy => ?_⟩
        · have h6 := hp5.map (·.l)
          rw [HBS.out] at h6
          exact h6.trans (HP.out.map _)
        · have hyb := hp5.mem_iff.1 hy
          exact own_base (Kept.row (HOK.out y hyb) hk5 (fun k hk e => HST2.out y hyb k hk e)) (by omega)
    · intro kk cc kl ya yb w1 cnt1 hkey hlk hR hat hrg1 hlt hg1 hs1 hen
      obtain ⟨p, hp, hkp, R', hst2, hlen⟩ := hcs.step hlk
      have hc := HEL.out p hp cc (ya, yb) hR (fun zd => by rw [hkp]; exact hat zd)
      subst hc
      have hb1 : Below w.heap.size w w1 := hbel.trans ⟨hg1.os, hg1.tape, hg1.output, by omega, fun k hk => hg1.block k (by omega) (by intro e; cases e; omega)⟩
      obtain ⟨Ap, cp, hpb, hpr, hpl, hpf⟩ := HND.out p hp
      have hx := (hb1.block p.x (lt_block hpb)).trans hpb
      obtain ⟨x0, _, _⟩ := cells2 hx
      have hxr := own_below hpr hb1
      have hown1 : w1.ownsRow (w.heap.size + 1) 23 1 (.slice A bs.length c) bs.length (bs.map NmB.v) := row_iter hown (by omega) hg1
      have HOK1 : Hid (∀ y ∈ bs, y.own w1 (w.heap.size + 1)) := Lib.hid fun y hy => row_iter (HOK.out y hy) (by omega) hg1
      have hen2 : (Instr.entry (.pointer (some ⟨w.heap.size, 0, none⟩))).run Tryz.prog w1 = .ok (.tuple #[.string kk, .pointer (some ⟨p.x, 0, none⟩)]) w1 := hen
      have HC := Lib.hid (CloneN Ap p.n cp w1 (cs_own hxr).2 (by omega))
      have HRG1 := Lib.hid hrg1
      have HRGo := Lib.hid hrg
      have HST1 := Lib.hid hst2
      have HPX := Lib.hid hpb
      clear hrg1 hen hR hat hlk hkey hxr hx hrg hown hcs hpb hpr hst2 hpf
      go_wp2_with fail
      refine HC.out.mono ?_
      rintro e w2 ⟨v2, rfl, hown2, hb2⟩
      obtain ⟨A2, c2, rfl, _⟩ := own_form hown2
      have hb12 := hb1.trans (hb2.mono hb1.size)
      have hs2 : w.heap.size + 1 ≤ w2.heap.size := by have := hb2.size; omega
      have ho2 := own_below hown1 hb2
      go_wp2_with (first | (at_builtin; refine wpList_push3 ho2 hs2 [.slice A2 p.n.length c2] rfl (by simp [Value.oneCell']) hi hz0 hz1 hz2 rfl (by decide) rfl (.tmp 15) _ 65 Tryz.underlying65 rfl rfl rfl (by unfold maxLen; omega) (by omega) ?_; intro v4 w4 hown4 hmv4))
      have hb24 : Below (w.heap.size + 1) w2 w4 := hmv4.below ho2 hs2
      have hb14 : Below w.heap.size w w4 := hb12.trans ⟨hb24.os, hb24.tape, hb24.output, hb24.size, fun k hk => hb24.block k (by omega)⟩
      have hs4 : w.heap.size + 1 ≤ w4.heap.size := Nat.le_trans hs2 hb24.size
      have hvb : ∀ k, (Value.slice A bs.length c).ownBlock = some k → w.heap.size + 1 ≤ k := fun k hk => (ho2.lt k hk).1
      have hrg2 := HRG1.out.kept (row := none) (w' := w2) ⟨hb2.os, hb2.tape, hb2.output, hb2.size, fun k hk _ => hb2.block k hk⟩ (by simp) (by simp)
      have hrg4 := hrg2.kept (Kept.grown hmv4.kept) (fun e => by have := hvb _ e.symm; omega) (fun e => by have := hvb _ e.symm; omega)
      have hn4 : (NmB.mk A2 p.n c2).own w4 (w.heap.size + 1) := row_type (own_base hown2 (by omega)) ho2 (by decide) hmv4.kept
      have hok4 : ∀ y ∈ bs ++ [⟨A2, p.n, c2⟩], y.own w4 (w.heap.size + 1) := fun y hy => by
        rcases List.mem_append.1 hy with hy | hy
        · exact row_type (own_below (HOK1.out y hy) hb2) ho2 (by decide) hmv4.kept
        · rcases List.mem_cons.1 hy with rfl | hy
          · exact hn4
          · cases hy
      have HO4 := Lib.hid (And.intro hown4 hok4)
      have hrl : w4.rangeLeft bn w.heap.size < wr.rangeLeft bn w.heap.size := by
        rw [hrg4.left_eq, HRGo.out.left_eq]
        exact hlt
      clear hown4 hok4 hn4 ho2 hown2 hb24 hmv4 hown1 hrg2
      go_wp2_with fail
      go_roundw
      case rel =>
        refine ⟨_, cnt1, _, _, bs ++ [⟨A2, p.n, c2⟩], hrg4, HST1.out, ?_, ?_, HO4.out.2, hb14, hs4⟩
        · rw [List.map_append, List.map_append, HBS.out]; rfl
        · have := HO4.out.1
          rw [List.length_append, List.map_append]
          exact this
      case measure => exact hrl
end Nm
end Go.Proofs.YtkeimgamjnpcbaaGreat

/- maps.Keys of a node's sets, slices.Collect: all types, in whatever order. -/
namespace Go.Proofs.YtkeimgamjnpcbaaGreat
open Go.RowKit Go.Maps Go.Sort Go.Shelf Go.Proofs
set_option linter.unusedVariables false
attribute [local go_sem] Oper.semAt_some
namespace Nm
def key16 (t : Int) : Lit := .int .u16 t
set_option maxRecDepth 100000 in
set_option maxHeartbeats 1000000 in
theorem keysG_in (F : Fence) (n : Nat) (hf : F.fn 127) (hro : F.round = none) (hn : 1 ≤ n) (l Bm b nn : Nat) (D : DataW Unit) (ts : List Int) (hst : Rng key16 ts [] ts (Maps.has D)) (hsz : Maps.size D = ts.length) (J Jx : List Int → World → Prop)
    (hY : ∀ pre x W, J pre W → pre.length < ts.length → YieldAt F (n - 1) Tryz.prog l #[.int .u16 x] W fun e W' => (e = .returned (.bool true) ∧ J (pre ++ [x]) W' ∧ KeepsWalks W W') ∨ (e = .returned (.bool false) ∧ Jx (pre ++ [x]) W'))
    (W : World) (hJ : AbidesFrom W.heap.size J) (hm : W.cell? ⟨Bm, 0, none⟩ = some (.map (some b))) (hown : W.ownsMap Tryz.prog 24 ptrR b nn D) (h0 : J [] W) :
    CallsIn F n Tryz.prog 127 #[.func (.yield l) #[] #[], .pointer (some ⟨Bm, 0, none⟩)] W fun e W' => (∃ v, e = .returned v) ∧ ((∃ ss : List Int, ss.Perm ts ∧ J ss W') ∨ (∃ pre : List Int, pre.length ≤ ts.length ∧ Jx pre W')) := by
  refine callsIn_of_wp Tryz.func127 rfl hf ?_ hro
  simp only [Tryz.ntmps127, List.size_toArray, List.length_cons, List.length_nil, Nat.reduceAdd, Nat.reduceSub, Array.replicate_succ, Array.replicate_zero, List.push_toArray, List.append_toArray, List.nil_append, List.cons_append]
  gi_wp2_with (first
    | (gi_at_range; refine wpListIn_range_own _ rfl _ 113 rfl 24 104 keyT Tryz.underlying113 ptrR b nn _ rfl hown ?_; intro w0 hrg0 hg0 hs0)
    | gi_in)
  go_frame
  gi_loopw [3] (fun _ wr => ∃ (left : Lit → Bool) (cnt : Nat) (ss R : List Int), wr.ranges Tryz.prog 24 ptrR b W.heap.size nn D left cnt ∧ Rng key16 ts ss R left ∧ J ss wr)
    (fun _ wr => wr.rangeLeft b W.heap.size)
  case atStart =>
    exact ⟨_, _, [], ts, hrg0, hst, hJ [] W w0 none h0 hg0 (fun r e => by cases e)⟩
  case round =>
    obtain ⟨left, cnt, ss, R, hrg, hcs, hJs⟩ := hrel
    gi_wp2_with (first
      | (gi_at_next; refine wpListIn_next_ranges _ rfl _ rfl 24 keyT ptrR (fun x : Int => Value.int .u16 x) ptrV keyT_inv ptrV_inv b W.heap.size nn _ _ _ rfl hrg ?_ ?_)
      | gi_in)
    · intro hc0 hl0
      gi_wp2
      go_end0
      exact ⟨⟨_, rfl⟩, .inl ⟨ss, hcs.done hl0, hJs⟩⟩
    · intro x c kl yd yp w2 cnt2 hkey hlk hv hat hrg2 hlt hg2 hs2 hen
      obtain ⟨t, htm, hkt, R', hst2, hlen⟩ := hcs.step hlk
      have hpl : ss.length < ts.length := by
        have := hcs.perm.length_eq
        rw [List.length_append] at this
        omega
      obtain ⟨x', ex, e2, _⟩ := Maps.keyOf_int_inv Tryz.underlying24 hkey
      have hxt : x = t := by
        cases ex
        rw [← hkt] at e2
        unfold key16 at e2
        injection e2 with _ e2
        exact e2.symm
      subst hxt
      have hJ2 : J ss w2 := hJ ss wr w2 (some W.heap.size) hJs hg2 (fun r e => by cases e; exact ⟨Nat.le_refl _, hrg.iter_walk⟩)
      obtain ⟨fn, tmps, assign, body, hy, hR⟩ := hY ss x w2 hJ2 hpl
      clear hs2
      gi_wp2
      refine hR.mono ?_
      rintro e W3 (⟨rfl, hJ3, hk3⟩ | ⟨rfl, hJx3⟩)
      · gi_wp2
        have hrg3 := hrg2.of_walks hk3
        go_roundw
        case rel => exact ⟨_, cnt2, _, _, hrg3, hst2, hJ3⟩
        case measure => rw [hrg3.left_eq, hrg.left_eq]; exact hlt
      · gi_wp2
        refine bodyPost_ret (results_none rfl _ _ _) rfl ?_
        exact ⟨⟨_, rfl⟩, .inr ⟨_, by simp; omega, hJx3⟩⟩
theorem keysG_stops (F : Fence) (n : Nat) (hf : F.fn 127) (hro : F.round = none) (hn : 1 ≤ n) (Bm b nn : Nat) (D : DataW Unit) (ts : List Int) (hst : Rng key16 ts [] ts (Maps.has D)) (hsz : Maps.size D = ts.length) (w : World) (hBm : Bm < w.heap.size)
    (hm : w.cell? ⟨Bm, 0, none⟩ = some (.map (some b))) (hown : w.ownsMap Tryz.prog 24 ptrR b nn D) :
    SeqStopsK F n Tryz.prog 127 #[.pointer (some ⟨Bm, 0, none⟩)] (fun x : Int => #[Value.int .u16 x]) KeepsWalks (fun ys => ys.Perm ts) (fun pre => pre.length ≤ ts.length) ts.length w := fun l J Jx W hW hJ _ hY h0 =>
  keysG_in F n hf hro hn l Bm b nn D ts hst hsz J Jx hY W hJ ((hW.cell (p := ⟨Bm, 0, none⟩) hBm).trans hm) (ownsMap_block hown (hW.block b hown.lt)) h0
set_option maxRecDepth 100000 in
set_option maxHeartbeats 2000000 in
theorem AppendSeqG (Bm b nn : Nat) (D : DataW Unit) (ts : List Int) (hst : Rng key16 ts [] ts (Maps.has D)) (hsz : Maps.size D = ts.length) (w : World) (hBm : Bm < w.heap.size) (hm : w.cell? ⟨Bm, 0, none⟩ = some (.map (some b))) (hown : w.ownsMap Tryz.prog 24 ptrR b nn D) (hlen : ts.length ≤ 1000000) :
    Calls Tryz.prog 171 #[.slice none 0 0, .func (.func 127) #[] #[.pointer (some ⟨Bm, 0, none⟩)]] w fun e W' => ∃ v ss, e = .returned v ∧ ss.Perm ts ∧ W'.ownsRow w.heap.size 24 1 v ss.length (ss.map (Value.int .u16)) ∧ (v = .slice none 0 0 ↔ ss = []) ∧ Below w.heap.size w W' := by
  refine (callsIn_wide (n := 6)).1 ?_
  obtain ⟨i0, hi, hz0, hz1, hz2⟩ := info_parts info_u16
  refine callsIn_of_wp_marks Tryz.func171 rfl trivial ?_ rfl
  simp only [Tryz.ntmps171, List.size_toArray, List.length_cons, List.length_nil, Nat.reduceAdd, Nat.reduceSub, Array.replicate_succ, Array.replicate_zero, List.push_toArray, List.append_toArray, List.nil_append, List.cons_append]
  gi_wp2
  have bO := Boxed.new w 81 (.slice none 0 0)
  have hB0 : Below w.heap.size w (w.alloc (.cells #[.slice none 0 0] 81)) := (Below.refl _ w).alloc (Nat.le_refl _) _
  refine wpIn_rangeFunc_ownG rfl (by omega) (gf := 127) (lb := #[.pointer (some ⟨Bm, 0, none⟩)]) rfl trivial (enters_of Tryz.func127 (by kernel_rfl) rfl)
    (keysG_stops Fence.wide (6 - 1) trivial rfl (by omega) Bm b nn D ts hst hsz w hBm hm hown) walksK_t walksK_b hB0 (fun _ => rfl)
    (fun pre W => (∃ v, Boxed W w.heap.size 81 v ∧ W.ownsRow w.heap.size 24 1 v pre.length (pre.map (Value.int .u16)) ∧ (v = .slice none 0 0 ↔ pre = [])) ∧ Below w.heap.size w W)
    (fun _ _ _ => False)
    (OwnFrom.and (Own.from (holdsRow_own w.heap.size w.heap.size 81 24 1 (fun pre => pre.length) (fun pre => pre.map (Value.int .u16)) (fun pre v => v = .slice none 0 0 ↔ pre = [])) _) (ownFrom_below (Nat.le_refl _) (by simp)))
    (fun _ _ _ _ _ hs _ _ => hs)
    ⟨⟨_, bO, World.ownsRow_nil _ _ _ _, by simp⟩, hB0⟩
    (fun x => { tmps := #[.slice none 0 0, .func (.func 127) #[] #[.pointer (some ⟨Bm, 0, none⟩)], .pointer (some ⟨w.heap.size, 0, none⟩), undef, .slice none 0 0, .int .u16 x, .func (.func 127) #[] #[.pointer (some ⟨Bm, 0, none⟩)], .int .u16 x, undef, undef, undef, undef, undef], defers := [] }) ?assign ?body ?done ?stop
  case assign =>
    intro l x W K hK
    gi_wp2
    exact hK
  case body =>
    rintro l pre x W ⟨⟨v, hv, hrow, hnil⟩, hB⟩ hlt
    have hc := hv.cell
    gi_wp2_with (gi_at_builtin; refine wpListIn_append_own _ rfl _ _ 81 rfl w.heap.size 24 i0 (.int .u16 0) 1 2 Tryz.underlying81 hi hz0 hz1 hz2 rfl (by decide) _ _ _ rfl (hrow.alloc _) ⟨W.heap.size, 0, none⟩ 1 1 [.int .u16 x] rfl rfl (cell_one_new _ _ _) (by simp [Value.oneCell']) (by unfold maxLen; omega) (by omega) (by have := hB.size; simp; omega) ?_; intro v' w1 hown' hgrow _; obtain ⟨g', cap', rfl⟩ := ownsRow_succ hown'; obtain ⟨hv1, hv2, hr2, hk2, hb2⟩ := hv.appended (by decide) hrow hB.size (Nat.le_refl _) hown' hgrow; have hc1 := hv1.cell; have hf1 := hv1.frozen)
    exact ⟨hk2.from _, hk2.walks, ⟨_, hv2, by simpa using hr2, by simp⟩, hB.trans hb2⟩
  case done =>
    rintro D' ys W hD hys ⟨⟨v, hv, hrow, hnil⟩, hB⟩ hK
    have hc := hv.cell
    gi_wp2
    refine ⟨by simp, .inl ⟨_, _, rfl, run_takeDeferred hK, ?_⟩⟩
    exact ⟨_, results_tmp rfl _ _ _, v, ys, rfl, hys, ownsRow_putObj hrow _ hK rfl, hnil, hB.trans (belowK_b (w := w) (Nat.le_refl _) W D' _ _ (by simp at hD; omega) hK rfl rfl)⟩
  case stop =>
    rintro D c pre W _ _ h _
    exact h.elim
end Nm
end Go.Proofs.YtkeimgamjnpcbaaGreat
