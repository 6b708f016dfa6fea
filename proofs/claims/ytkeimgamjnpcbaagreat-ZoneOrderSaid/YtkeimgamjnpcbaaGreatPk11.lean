/-
  Texts merged by a program (ZNo, ZTwice).
-/
import Derived.Test.YtkeimgamjnpcbaaGreatPk10
set_option linter.unusedSimpArgs false
set_option linter.unusedVariables false
/- Contracts of package zone: what an empty zone tells. -/
namespace Go.Proofs.YtkeimgamjnpcbaaGreat
open Go.RowKit
set_option linter.unusedVariables false
set_option linter.unusedSimpArgs false
namespace Nm
section
variable (w : World) (B z bn bb : Nat) (ap : List Lab) (c : Int) (f : Lab → Int) (N : Nat) (h : Zn w B z bn bb ap c (.map []) f N)
include h
theorem ZAt0 (An : Option Addr) (n : List Lab) (cn : Nat) (t : Int) (hAn : Cs w An (n.map strV)) (hn : Small n) (hwt : (Lit.int .u16 t).wf = true) :
    Calls Tryz.prog 69 #[.pointer (some ⟨z, 0, none⟩), .slice An n.length cn, .int .u16 t] w fun e w' => e = .returned (.pointer none) ∧ Below w.heap.size w w' := by
  obtain ⟨Aa, ca, hzb, hza⟩ := h.blk
  obtain ⟨_, z1, _⟩ := cells4 hzb
  exact ZAt z bn An n cn t N 9 _ (.map []) none none w z1 (lt_block hzb) h.nodes hAn hn hwt rfl (fun x hx => by cases hx)
set_option maxHeartbeats 4000000 in
theorem Drop0 (An : Option Addr) (n : List Lab) (cn : Nat) (t cl ttl : Int) (dv : Value) (Ad : Option Addr) (ld cd : Nat) (hdv : dv = .slice Ad ld cd) (hAn : Cs w An (n.map strV)) (hn : Small n) (hwt : (Lit.int .u16 t).wf = true) :
    Calls Tryz.prog 39 #[.pointer (some ⟨z, 0, none⟩), .agg #[.slice An n.length cn, .int .u16 t, .int .u16 cl, .int .u32 ttl, dv]] w fun e w' => e = .returned (.bool false) ∧ Below w.heap.size w w' := by
  subst hdv
  have hb1 : Below w.heap.size w (w.alloc (.cells #[.slice An n.length cn, .int .u16 t, .int .u16 cl, .int .u32 ttl, .slice Ad ld cd] 51)) := (Below.refl _ _).alloc (Nat.le_refl _) _
  have hz1 := h.ext hb1
  have hA1 := hAn.below hb1
  go_enter Tryz.func39, Tryz.ntmps39
  go_wp2_with fail
  refine (ZAt0 _ B z bn bb ap c f N hz1 An n cn t hA1 hn hwt).mono ?_
  rintro e w2 ⟨rfl, hb2⟩
  have hF := hb1.trans (hb2.mono hb1.size)
  clear hb1 hz1 hA1 hb2
  go_wp2_with fail
  go_ret
  exact ⟨rfl, hF⟩
set_option maxHeartbeats 4000000 in
theorem Set0 (An : Option Addr) (n : List Lab) (cn : Nat) (t : Int) (hAn : Cs w An (n.map strV)) (hn : Small n) (hwt : (Lit.int .u16 t).wf = true) :
    Calls Tryz.prog 28 #[.pointer (some ⟨z, 0, none⟩), .slice An n.length cn, .int .u16 t] w fun e w' => e = .returned (.tuple #[.agg #[.slice none 0 0, .int .u16 0, .int .u32 0, .slice none 0 0], .bool false]) ∧ Below w.heap.size w w' := by
  have hb1 : Below w.heap.size w (w.alloc (.cells #[.slice none 0 0, .int .u16 0, .int .u32 0, .slice none 0 0] 28)) := (Below.refl _ _).alloc (Nat.le_refl _) _
  have hq1 := heap_alloc_new w (.cells #[.slice none 0 0, .int .u16 0, .int .u32 0, .slice none 0 0] 28)
  have HA := Lib.hid (ZAt0 _ B z bn bb ap c f N (h.ext hb1) An n cn t (hAn.below hb1) hn hwt)
  clear h hAn
  go_enter Tryz.func28, Tryz.ntmps28
  go_wp2_with fail
  refine HA.out.mono ?_
  rintro e w2 ⟨rfl, hb2⟩
  have hq2 := (hb2.block _ (lt_block hq1)).trans hq1
  obtain ⟨q0, q1, q2, q3, qf⟩ := cells4 hq2
  have hF := hb1.trans (hb2.mono hb1.size)
  clear HA hq1 hb1 hb2
  go_wp2_with fail
  have g0 := heap_set (i := 0) (v := .slice none 0 0) hq2
  have g1 := heap_set (i := 1) (v := .int .u16 0) g0
  have g2 := heap_set (i := 2) (v := .int .u32 0) g1
  have g3 := heap_set (i := 3) (v := .slice none 0 0) g2
  have hF5 := (((hF.setCell (p := ⟨w.heap.size, 0, none⟩) (Nat.le_refl _) (.slice none 0 0)).setCell (p := ⟨w.heap.size, 1, none⟩) (Nat.le_refl _) (.int .u16 0)).setCell (p := ⟨w.heap.size, 2, none⟩) (Nat.le_refl _) (.int .u32 0)).setCell (p := ⟨w.heap.size, 3, none⟩) (Nat.le_refl _) (.slice none 0 0)
  generalize (((w2.setCell ⟨w.heap.size, 0, none⟩ (.slice none 0 0)).setCell ⟨w.heap.size, 1, none⟩ (.int .u16 0)).setCell ⟨w.heap.size, 2, none⟩ (.int .u32 0)).setCell ⟨w.heap.size, 3, none⟩ (.slice none 0 0) = W5 at *
  obtain ⟨r0, r1, r2, r3, _⟩ := cells4 (c0 := .slice none 0 0) (c1 := .int .u16 0) (c2 := .int .u32 0) (c3 := .slice none 0 0) (g := w.heap.size) (T := 28) (w := W5) (by simpa using g3)
  refine bodyPost_ret (v := .tuple #[.agg #[.slice none 0 0, .int .u16 0, .int .u32 0, .slice none 0 0], .bool false]) ?_ rfl ⟨rfl, hF5⟩
  simp [results, Tryz.results28, go_sem, r0, r1, r2, r3]
set_option maxRecDepth 100000 in
set_option maxHeartbeats 4000000 in
theorem Types0 (An : Option Addr) (n : List Lab) (cn : Nat) (hAn : Cs w An (n.map strV)) (hn : Small n) :
    Calls Tryz.prog 50 #[.pointer (some ⟨z, 0, none⟩), .slice An n.length cn] w fun e w' => e = .returned (.slice none 0 0) ∧ Below w.heap.size w w' := by
  go_enter Tryz.func50, Tryz.ntmps50
  go_wp2_with fail
  refine wp_region_mono mixed0 (by kernel_rfl) [.is (.pointer (some ⟨z, 0, none⟩)), .is (.pointer (some ⟨z, 0, none⟩)), .is (.pointer (some ⟨z, 1, none⟩)), .is (.map (some bn)), .is (.slice An n.length cn), .is (strV (zkey n)), .is (.pointer none), .is (.pointer none)] rfl ?_ ?_
  · intro i q hio vals W hE haf
    obtain ⟨Aa, ca, hzb, hza⟩ := (h.ext hE).blk
    obtain ⟨_, e1, _⟩ := cells4 hzb
    have hl : (Instr.lookup 97 (.map (some bn)) (strV (zkey n)) false).run Tryz.prog W = .ok (.pointer none) W := look_ptr (h.ext hE).nodes keyS Tryz.underlying97 rfl (keyOf_str _ (zkey_len hn)) (rfl : _ = ptrD none)
    rcases i with _ | _ | _ | _ | _ | _ | _ | _ | i
    all_goals first
      | (exfalso; simp at hio; done)
      | (simp at hio; subst hio; simp [bindD, rdB, Region.binds, factAt] at haf; simp [opYield_def, yieldUpon, yielded, relAct, dstAt, Act.put, Region.wanted, go_sem, haf, e1, hl, Ext.refl, factAt]; done)
      | skip
    all_goals
      simp at hio
      subst hio
      simp [bindD, rdB, Region.binds, factAt] at haf
    · simp [opYield_def, yieldUpon, yielded, relAct, dstAt, Act.put, Region.wanted, go_sem, haf, factAt]
      refine (ZKey An n cn W (hAn.below hE) hn).mono fun e W' h => ?_
      exact ⟨h.1, h.2⟩
  · intro vals W hE hF
    simp only [facts] at hF
    obtain ⟨_, _, _, _, _, _, _, h7, _⟩ := hF
    have h7 : vals 7 = .pointer none := h7
    simp [relAct, dstAt, Act.put]
    rw [h7]
    have hE : Below w.heap.size w W := hE
    go_wp2_with fail
    go_ret
    exact ⟨rfl, hE⟩
set_option maxHeartbeats 4000000 in
theorem DropSet0 (An : Option Addr) (n : List Lab) (cn : Nat) (hAn : Cs w An (n.map strV)) (hn : Small n) :
    Calls Tryz.prog 41 #[.pointer (some ⟨z, 0, none⟩), .slice An n.length cn, .int .u16 255] w fun e w' => e = .returned (.int .i64 0) ∧ Below w.heap.size w w' := by
  have HT := Lib.hid (Types0 w B z bn bb ap c f N h An n cn hAn hn)
  clear h hAn
  go_enter Tryz.func41, Tryz.ntmps41
  go_wp2_with fail
  refine HT.out.mono ?_
  rintro e w2 ⟨rfl, hb2⟩
  go_wp2_with fail
  refine wp_loop_rounds 1 ?_
  rw [rounds_succ]
  go_wp2_with fail
  go_ret
  exact ⟨rfl, hb2⟩
end
end Nm
end Go.Proofs.YtkeimgamjnpcbaaGreat

/- The walk of ZoneTwice. -/
namespace Go.Proofs.YtkeimgamjnpcbaaGreat
open Go.RowKit
set_option linter.unusedVariables false
set_option linter.unusedSimpArgs false
namespace Nm
theorem row_ty {w w' : World} {B : Nat} {e e' : TypeId} {size : Nat} {v : Value} {n : Nat} {xs : List Value} {g : Nat} {cs : Array Value} (he : e ≠ e') (h : w.ownsRow B e size v n xs)
    (hg : w.heap[g]? = some (.cells cs e' (0, 0))) (hk : Kept (fun k => k = g) w w') : w'.ownsRow B e size v n xs :=
  Kept.row h hk (fun k hk2 hkg => by
    obtain ⟨cs2, h1, _⟩ := row_block h hk2
    subst hkg
    rw [hg] at h1
    cases h1
    exact he rfl)
theorem recT_ne : ¬ zT 51 := zT_rec
/-- a record's block is written: the zone stands -/
theorem One.other {w w' : World} {B z bn bb x bs s : Nat} {ap n : List Lab} {t ttl : Int} {v : Value} {ds : List (Blob × Blob)} {f : Lab → Int} {N : Nat} {r : Nat} {cs : Array Value} (h : One w B z bn bb x bs s ap n t ttl v ds f N)
    (hr : w.heap[r]? = some (.cells cs 51 (0, 0))) (hk : Kept (fun k => k = r) w w') : One w' B z bn bb x bs s ap n t ttl v ds f N := by
  obtain ⟨A, ca, g1, g2⟩ := h.zn.blk
  obtain ⟨A', c', g5, g6⟩ := h.st.node
  obtain ⟨E, g3, g4⟩ := h.zn.below
  exact ⟨⟨⟨A, ca, (hk.block _ (lt_block g1) (ne_cells g1 hr (by decide))).trans g1, row_ty (by decide) g2 hr hk⟩, ownsMap_block h.zn.nodes (hk.block _ h.zn.nodes.lt (ne_map h.zn.nodes hr)), ⟨E, ownsMap_block g3 (hk.block _ g3.lt (ne_map g3 hr)), g4⟩, h.zn.ne, h.zn.h1, h.zn.h2, h.zn.h3⟩,
    ⟨⟨A', c', (hk.block _ (lt_block g5) (ne_cells g5 hr (by decide))).trans g5, row_ty (by decide) g6 hr hk⟩, ownsMap_block h.st.sets (hk.block _ h.st.sets.lt (ne_map h.st.sets hr)), (hk.block _ (lt_block h.st.set) (ne_cells h.st.set hr (by decide))).trans h.st.set, row_ty (by decide) h.st.row hr hk,
      fun d hd => ⟨row_ty (by decide) (h.st.dat d hd).1 hr hk, row_ty (by decide) (h.st.dat d hd).2 hr hk⟩, h.st.h1, h.st.h2⟩, h.n1, h.n2⟩
theorem PutAgain (w : World) (B z bn bb x bs s : Nat) (ap n : List Lab) (t ttl : Int) (v : Value) (ds : List (Blob × Blob)) (f : Lab → Int) (N : Nat) (h : One w B z bn bb x bs s ap n t ttl v ds f N) (An : Option Addr) (cn : Nat) (Ad : Option Addr) (d : Lab) (cd : Nat) (ttl2 : Int) (hAn : Cs w An (n.map strV)) (hAd : w.ownsRow 0 5 1 (.slice Ad d.length cd) d.length (d.map byteV)) (hr : Rec n ap t d cn cd) (hap : Small ap) (p : Nat) (hp : FindAt ds (canonD t d) p) (hds : ds.length ≤ 1000000) (hhit : hitB ds (canonD t d) p = true) :
    Calls Tryz.prog 27 #[.pointer (some ⟨z, 0, none⟩), .agg #[.slice An n.length cn, .int .u16 t, .int .u16 1, .int .u32 ttl2, .slice Ad d.length cd]] w fun e w' => e = .returned (.tuple #[.bool (ttl2 != ttl), .int .i64 0]) ∧ One w' B z bn bb x bs s ap n t ttl2 v ds f N ∧ Turn B w w' := by
  by_cases he : ttl = ttl2
  · subst he
    have := PutSame w B z bn bb x bs s ap n t ttl v ds f N h An cn Ad d cd ttl hAn hAd hr hap p hp hds hhit rfl
    simpa using this
  · have := PutTtl w B z bn bb x bs s ap n t ttl v ds f N h An cn Ad d cd ttl2 hAn hAd hr hap p hp hds hhit he
    rw [show (ttl2 != ttl) = true from by simpa using fun h => he h.symm]
    exact this
set_option maxRecDepth 100000 in
set_option maxHeartbeats 20000000 in
theorem WTwice (k ttl : Nat) (hk : k < 4294967296) (ht : ttl < 4294967296) (w : World) : Calls Tryz.prog 9 #[.int .u32 k, .int .u32 ttl] w fun e w' => e = .returned (.bool true) ∧ Below w.heap.size w w' := by
  have HREC : Hid (∀ W, Calls Tryz.prog 30 #[.int .u32 k] W fun e w' => ∃ v, e = .returned v ∧ RecV w' W.heap.size v (recN k) (recT k) (ttlK k) (recD k) ∧ Below W.heap.size W w') := Lib.hid fun W => RecordA k hk W
  have HOK : Hid (∀ cn cd, (recN k).length ≤ cn → cn ≤ maxLen → (recD k).length ≤ cd → cd ≤ maxLen → Rec (recN k) [exL] (recT k) (recD k) cn cd) := Lib.hid fun cn cd h1 h2 h3 h4 => recV_ok k h1 h2 h3 h4
  have hdl : (recD k).length ≤ 100 := len_all _ (Nat.mod_lt _ (by omega)) _ (Nat.mod_lt _ (by omega))
  have hnl : 1 ≤ (recN k).length := by unfold recN owner; simp
  generalize recN k = n at *
  generalize recT k = t at *
  generalize recD k = d at *
  generalize ttlK k = tt at *
  have hSe : Small [exL] := by unfold Small; decide
  go_enter Tryz.func9, Tryz.ntmps9
  go_wp2_with fail
  refine (Known15 w).mono ?_
  rintro e w0 ⟨rfl, hb0⟩
  go_wp2_with fail
  refine (Apex w0).mono ?_
  rintro e w1 ⟨v1, rfl, hown1, hb1⟩
  obtain ⟨A1, c1, rfl, _, hcs1⟩ := Cs.of_own hown1
  have hb01 := hb0.trans (hb1.mono hb0.size)
  clear hown1 hb1 hb0
  go_wp2_with fail
  refine (ZNew A1 [exL] c1 w1 hcs1 (by unfold Few; decide)).mono ?_
  rintro e w2 ⟨z, bn, bb, rfl, hm, hb2⟩
  rw [lower_ex] at hm
  have HE := Lib.hid (Emp.of_made hm)
  have hB1 := hb01.size
  have hB12 := hb2.size
  have hbb : Below w1.heap.size w1 w2 := hb2
  clear hm hcs1 hb2
  go_wp2_with fail
  refine (HREC.out w2).mono ?_
  rintro e w3 ⟨v3, rfl, ⟨An, cn, Ad, cd, rfl, hn3, hd3⟩, hb3⟩
  go_wp2_with fail
  have hb34 : Below w3.heap.size w3 (w3.alloc (.cells #[.slice An n.length cn, .int .u16 t, .int .u16 1, .int .u32 tt, .slice Ad d.length cd] 51)) := (Below.refl _ _).alloc (Nat.le_refl _) _
  have hq4 := heap_alloc_new w3 (.cells #[.slice An n.length cn, .int .u16 t, .int .u16 1, .int .u32 tt, .slice Ad d.length cd] 51)
  have hb24 := hb3.trans (hb34.mono hb3.size)
  have hb13 := Nat.le_trans hB12 hb3.size
  have hE4 := Zn.ext HE.out hb24
  have hb14 := hbb.trans (hb24.mono hB12)
  have hn4 := own_base (own_below hn3 hb34) (Nat.zero_le _)
  have hd4 := own_base (own_below hd3 hb34) (Nat.zero_le _)
  obtain ⟨hcn1, hcn2⟩ := own_caps hn4
  obtain ⟨hcd1, hcd2⟩ := own_caps hd4
  have hR := HOK.out cn cd hcn1 hcn2 hcd1 hcd2
  have HR := Lib.hid hR
  clear hb34 hn3 hd3 hb3 hb24 hbb
  generalize w3.alloc (.cells #[.slice An n.length cn, .int .u16 t, .int .u16 1, .int .u32 tt, .slice Ad d.length cd] 51) = w4 at *
  have hrB : w1.heap.size ≤ w3.heap.size := hb13
  generalize w3.heap.size = r at *
  refine (PutNew w4 w1.heap.size z bn bb [exL] n t (fun _ => 0) 0 hE4 An cn Ad d cd tt (cs_own hn4).2 hd4 hR hSe (by decide) (by omega) (fun _ => by omega)).mono ?_
  rintro e w5 ⟨rfl, ⟨x, bs, s, v5, b1, b2, N5, hl1, hl2, hN5, hO5⟩, hT5⟩
  have hdl1 : b1.l.length ≤ 100000 := by rw [hl1]; omega
  have hF := find_one (b1, b2) _ hl2
  have hq5 := rec_turn hT5 hq4
  have hn5 := hT5.row hn4 zT_str
  have hd5 := hT5.row hd4 zT_u8
  have hb15 := hb14.trans hT5.below
  obtain ⟨k0, k1, k2, k3, k4, _⟩ := cells5 hq5
  have HS := Lib.hid (PutSame w5 w1.heap.size z bn bb x bs s [exL] n t tt v5 _ _ N5 hO5 An cn Ad d cd tt (cs_own hn5).2 hd5 hR hSe 0 hF.1 (by simp) hF.2 rfl)
  have HFI := Lib.hid hF
  clear hE4 hq4 hn4 hd4 hT5 hb14 hO5 hl1 hl2 hF hR
  go_wp2_with fail
  refine HS.out.mono ?_
  rintro e w6 ⟨rfl, hO6, hT6⟩
  have hq6 := rec_turn hT6 hq5
  have hn6 := hT6.row hn5 zT_str
  have hd6 := hT6.row hd5 zT_u8
  have hb16 := hb15.trans hT6.below
  obtain ⟨y0, y1, y2, y3, y4, yf⟩ := cells5 hq6
  clear HS hq5 hn5 hd5 hT6 hb15 k0 k1 k2 k3 k4
  go_wp2_with fail
  have hk7 : Kept (fun k => k = r) w6 (w6.setCell ⟨r, 3, none⟩ (.int .u32 ttl)) := (Kept.refl (fun k => k = r) w6).setCell (fun _ => rfl) _
  have hq7 : (w6.setCell ⟨r, 3, none⟩ (.int .u32 ttl)).heap[r]? = some (.cells #[.slice An n.length cn, .int .u16 t, .int .u16 1, .int .u32 ttl, .slice Ad d.length cd] 51 (0, 0)) := heap_set hq6
  have hO7 := hO6.other hq6 hk7
  have hn7 := row_ty (by decide) hn6 hq6 hk7
  have hd7 := row_ty (by decide) hd6 hq6 hk7
  have hb17 : Below w1.heap.size w1 _ := hb16.setCell (p := ⟨r, 3, none⟩) hrB (.int .u32 ttl)
  clear hk7 hO6 hn6 hd6 hb16 hq6 y0 y1 y2 y3 y4 yf
  generalize w6.setCell ⟨r, 3, none⟩ (.int .u32 ttl) = w7 at *
  obtain ⟨cb, hcb⟩ : ∃ cb : Bool, cb = ((ttl : Int) != (tt : Int)) := ⟨_, rfl⟩
  have HP := Lib.hid (PutAgain w7 w1.heap.size z bn bb x bs s [exL] n t tt v5 _ _ N5 hO7 An cn Ad d cd ttl (cs_own hn7).2 hd7 HR.out hSe 0 HFI.out.1 (by simp) HFI.out.2)
  rw [← hcb] at HP
  have HCB := Lib.hid hcb
  clear hcb hO7
  refine HP.out.mono ?_
  rintro e w8 ⟨rfl, hO8, hT8⟩
  have hq8 := rec_turn hT8 hq7
  have hn8 := hT8.row hn7 zT_str
  have hd8 := hT8.row hd7 zT_u8
  have hb18 := hb17.trans hT8.below
  obtain ⟨y0, y1, y2, y3, y4, yf⟩ := cells5 hq8
  have HS := Lib.hid (ZSet w8 w1.heap.size z bn bb x bs s [exL] n t ttl v5 [(b1, b2)] _ N5 hO8 An cn (cs_own hn8).2 HR.out.small HR.out.wf (by simp) (fun d hd => by rcases List.mem_cons.1 hd with rfl | hd; exact hdl1; cases hd))
  clear HP hq7 hn7 hd7 hT8 hb17
  go_wp2_with fail
  refine HS.out.mono ?_
  rintro e w9 ⟨hb9, Am, m, cm, Ad2, cd2, xs, rfl, hr9, _⟩
  have hbq : Below w9.heap.size w9 (w9.alloc (.cells #[.slice Am m cm, .int .u16 t, .int .u32 ttl, .slice Ad2 1 cd2] 28)) := (Below.refl _ _).alloc (Nat.le_refl _) _
  have hS10 := heap_alloc_new w9 (.cells #[.slice Am m cm, .int .u16 t, .int .u32 ttl, .slice Ad2 1 cd2] 28)
  have hb810 := hb9.trans (hbq.mono hb9.size)
  have hO10 := hO8.ext hb810
  have hq10 := (hb810.block _ (lt_block hq8)).trans hq8
  have hn10 := own_below hn8 hb810
  have hd10 := own_below hd8 hb810
  have hb110 := hb18.trans (hb810.mono hb18.size)
  clear HS hO8 hq8 hn8 hd8 hb18 hb810 hbq hb9 hr9 y0 y1 y2 y3 y4 yf
  go_wp2_with fail
  generalize w9.alloc (.cells #[.slice Am m cm, .int .u16 t, .int .u32 ttl, .slice Ad2 1 cd2] 28) = w10 at *
  generalize w9.heap.size = q at *
  refine wp_region_t bindC (fun _ h => bindC_binds h) (by kernel_rfl) (by kernel_rfl) (fun _ _ => false) (by kernel_rfl) (fun i W W' => if i = 2 then Turn w1.heap.size W W' else Ext W W') (fun W => Turn w1.heap.size w10 W)
    (fun j vals W => match j with
      | 0 => vals 0 = .pointer (some ⟨z, 0, none⟩)
      | 1 => vals 1 = .agg #[.slice An n.length cn, .int .u16 t, .int .u16 1, .int .u32 ttl, .slice Ad d.length cd]
      | 2 => vals 2 = .bool true ∧ ∃ N', Zn W w1.heap.size z bn bb [exL] 0 (.map []) (fun _ => 0) N'
      | 3 => vals 3 = .pointer (some ⟨z, 0, none⟩)
      | 4 => vals 4 = .agg #[.slice An n.length cn, .int .u16 t, .int .u16 1, .int .u32 ttl, .slice Ad d.length cd]
      | 5 => vals 5 = .bool false
      | 6 => vals 6 = .bool true
      | 7 => vals 7 = .bool false
      | _ => True) ?_ (fun W => One W w1.heap.size z bn bb x bs s [exL] n t ttl v5 [(b1, b2)] (cnt (fun _ => 0) (lower n) 1 (n.length - [exL].length + 1)) N5) (fun i => i == 2) (hO10.ext (Below.refl _ w10).drew) ?_ ?_ ?_ ?_ ?_ ?_
  · intro j vals i v W hij hw hR
    rcases j with _ | _ | _ | _ | _ | _ | _ | _ | j
    all_goals first
      | exact trivial
      | (simpa [hij, Ne.symm hij] using hR)
  · intro i W W' hk0 hC hI hT
    have : ¬ i = 2 := by simpa using hk0
    simp only [this, if_false] at hT
    exact hI.ext hT
  · exact ⟨(Below.refl _ w10).drew, fun _ _ _ _ h _ => h⟩
  · intro i W W' hC hT
    by_cases h : i = 2
    · simp only [h, if_true] at hT
      exact hC.trans hT
    · simp only [h, if_false] at hT
      exact hC.trans (Turn.of_ext hT (Nat.le_trans hb110.size hC.size))
  · intro i j vals W W' hij _ hw hC hR hT
    rcases j with _ | _ | _ | _ | _ | _ | _ | _ | j
    all_goals first
      | exact trivial
      | exact hR
      | skip
    have h : ¬ i = 2 := hij
    simp only [h, if_false] at hT
    obtain ⟨h1, N', h2⟩ := hR
    exact ⟨h1, N', h2.ext hT⟩
  · intro i o hio vals W hC haf hI0
    have hqW := rec_turn hC hq10
    obtain ⟨e0, e1, e2, e3, e4, _⟩ := cells5 hqW
    rcases i with _ | _ | _ | _ | _ | _ | _ | _ | i
    all_goals first
      | (exfalso; simp at hio; done)
      | skip
    all_goals
      simp at hio
      subst hio
      simp [bindC, rdB, Region.binds] at haf
    all_goals first
      | (simp [opYield_def, yieldUpon, relAct, dstAt, Act.put, Region.wanted, go_sem, haf, e0, e1, e2, e3, e4, Ext.refl]; done)
      | skip
    · obtain ⟨h0, h1⟩ := haf
      have hI := hI0 (fun k _ hk => .inl (by simpa using hk))
      simp [opYield_def, yieldUpon, relAct, dstAt, Act.put, Region.wanted, go_sem, h0, h1]
      refine (DropOne W w1.heap.size z bn bb x bs s [exL] n t ttl v5 (b1, b2) _ N5 hI An cn Ad d cd 1 ttl (hC.row hn10 zT_str) (hC.row hd10 zT_u8) HR.out HFI.out.1 HFI.out.2 (by decide) hnl (by omega) (fun m => ?_)).mono fun e W' h => ?_
      · have := cnt_le (f := fun _ => 0) (n := lower n) (d := 1) (.inl rfl) (C := 0) (m := m) (by simp) (n.length - [exL].length + 1)
        have h6 := HR.out.small.1
        have h7 : n.length - [exL].length + 1 ≤ 1001 := by omega
        constructor <;> omega
      · obtain ⟨he, ⟨N', _, hZ⟩, hT⟩ := h
        rw [cnt_back] at hZ
        exact ⟨_, he, hT, rfl, N', hZ⟩
    · obtain ⟨h3, h4, h2, N', hZ⟩ := haf
      simp [opYield_def, yieldUpon, relAct, dstAt, Act.put, Region.wanted, go_sem, h3, h4]
      refine (Drop0 W w1.heap.size z bn bb [exL] 0 (fun _ => 0) N' hZ An n cn t 1 ttl _ Ad d.length cd rfl (cs_own (hC.row hn10 zT_str)).2 HR.out.small HR.out.wf).mono fun e W' h => ?_
      obtain ⟨he, hb⟩ := h
      exact ⟨he, hb⟩
  · intro vals W hC hR
    obtain ⟨_, N', hZ⟩ := hR 2 (by show 2 < 8; omega) (fun _ _ => rfl)
    have h6 := hR 6 (by show 6 < 8; omega) (fun _ _ => rfl)
    have h7 := hR 7 (by show 7 < 8; omega) (fun _ _ => rfl)
    simp only [] at h6 h7
    have hqW := rec_turn hC hq10
    have hnW := hC.row hn10 zT_str
    have hSW : W.heap[q]? = some (.cells #[.slice Am m cm, .int .u16 t, .int .u32 ttl, .slice Ad2 1 cd2] 28 (0, 0)) := hC.rest _ _ _ _ hS10 (by unfold zT; decide)
    have hb1W := hb110.trans hC.below
    obtain ⟨e0, e1, e2, e3, e4, _⟩ := cells5 hqW
    have HS0 := Lib.hid (Set0 W w1.heap.size z bn bb [exL] 0 (fun _ => 0) N' hZ An n cn t (cs_own hnW).2 HR.out.small HR.out.wf)
    simp [relAct, dstAt, Act.put]
    rw [h6, h7]
    clear hR h6 h7 hC hO10 hq10 hS10 hn10 hd10 hb110
    generalize vals 0 = p0
    generalize vals 1 = p1
    generalize vals 2 = p2
    generalize vals 3 = p3
    generalize vals 4 = p4
    generalize vals 5 = p5
    go_wp2_with fail
    refine HS0.out.mono ?_
    rintro e W2 ⟨rfl, hbW2⟩
    have hZ2 := hZ.ext hbW2
    have hq2 := (hbW2.block _ (lt_block hqW)).trans hqW
    have hS2 := (hbW2.block _ (lt_block hSW)).trans hSW
    have hn2 := own_below hnW hbW2
    have hb12 := hb1W.trans (hbW2.mono hb1W.size)
    clear HS0 hZ hqW hnW hSW hb1W hbW2 e0 e1 e2 e3 e4
    go_wp2_with fail
    have hb23 : Below W2.heap.size W2 (W2.alloc (.cells #[.slice none 0 0, .int .u16 0, .int .u32 0, .slice none 0 0] 28)) := (Below.refl _ _).alloc (Nat.le_refl _) _
    generalize W2.alloc (.cells #[.slice none 0 0, .int .u16 0, .int .u32 0, .slice none 0 0] 28) = W3 at *
    refine (HREC.out W3).mono ?_
    rintro e W4 ⟨v4, rfl, ⟨An4, cn4, Ad4, cd4, rfl, _, _⟩, hb34⟩
    have hb24 := hb23.trans (hb34.mono hb23.size)
    have hZ4 := hZ2.ext hb24
    have hq4 := (hb24.block _ (lt_block hq2)).trans hq2
    have hS4 := (hb24.block _ (lt_block hS2)).trans hS2
    have hn4 := own_below hn2 hb24
    have hb14 := hb12.trans (hb24.mono hb12.size)
    obtain ⟨e0, e1, e2, e3, e4, _⟩ := cells5 hq4
    obtain ⟨s0, s1, s2, s3, _⟩ := cells4 hS4
    have hcb1 : (cb == ((ttl : Int) != (tt : Int))) = true := by rw [HCB.out]; simp
    have hfd : ∀ W, (Instr.field 51 (.agg #[.slice An4 n.length cn4, .int .u16 t, .int .u16 1, .int .u32 tt, .slice Ad4 d.length cd4]) 3).run Tryz.prog W = .ok (.int .u32 tt) W := fun W => by kernel_rfl
    have HHas := Lib.hid (ZHasN W4 w1.heap.size z bn bb [exL] _ _ _ hZ4 An n cn (cs_own hn4).2 HR.out.small rfl)
    clear hb23 hb34 hb24 hZ2 hq2 hS2 hn2 hb12
    go_wp2_with fail
    refine (ZLen W4 w1.heap.size z bn bb _ _ _ _ _ hZ4).mono ?_
    rintro e W4' ⟨rfl, rfl⟩
    go_wp2_with fail
    refine HHas.out.mono ?_
    rintro e W5 ⟨rfl, hb45⟩
    have hZ5 := hZ4.ext hb45
    have hq5 := (hb45.block _ (lt_block hq4)).trans hq4
    have hn5 := own_below hn4 hb45
    have hb15 := hb14.trans (hb45.mono hb14.size)
    have HDS := Lib.hid (DropSet0 W5 w1.heap.size z bn bb _ _ _ _ hZ5 An n cn (cs_own hn5).2 HR.out.small)
    clear e0 e1 e2 e3 e4 s0 s1 s2 s3 HHas
    obtain ⟨e0, e1, e2, e3, e4, _⟩ := cells5 hq5
    clear hZ4 hq4 hS4 hn4 hb14 hb45
    go_wp2_with fail
    refine HDS.out.mono ?_
    rintro e W6 ⟨rfl, hb56⟩
    have hbF := hb15.trans (hb56.mono hb15.size)
    have hbFF := hb01.trans (hbF.mono hB1)
    clear HDS e0 e1 e2 e3 e4 hq5 hn5 hZ5
    go_wp2_with fail
    go_ret
    exact ⟨rfl, hbFF⟩
theorem WTwiceI (k ttl : Int) (h1 : 0 ≤ k) (h2 : k ≤ 4294967295) (h3 : 0 ≤ ttl) (h4 : ttl ≤ 4294967295) (w : World) : Calls Tryz.prog 9 #[.int .u32 k, .int .u32 ttl] w fun e w' => e = .returned (.bool true) ∧ Below w.heap.size w w' := by
  obtain ⟨k, rfl⟩ := Int.eq_ofNat_of_zero_le h1
  obtain ⟨ttl, rfl⟩ := Int.eq_ofNat_of_zero_le h3
  exact WTwice k ttl (by omega) (by omega) w
end Nm
end Go.Proofs.YtkeimgamjnpcbaaGreat
