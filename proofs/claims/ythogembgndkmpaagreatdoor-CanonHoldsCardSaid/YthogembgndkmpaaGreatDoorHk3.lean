/-
  Texts merged by a program (SigB, SoaB, Open, Open2, RdMath, Reader, Reader2, Shape).
-/
import Derived.Defers
import Derived.Recover
import Derived.StillTailTactics
import Derived.IntWalk
import Derived.Laws.BitsAllLaws
import Derived.Test.YthogembgndkmpaaGreatDoorHk1
import Derived.Test.YthogembgndkmpaaGreatDoorHk2
set_option linter.unusedSimpArgs false
set_option linter.unusedVariables false
/- Contracts of package rdata: SigBytes. -/
namespace Go.Proofs.YthogembgndkmpaaGreatDoor
open Go.RowKit
namespace Nm
theorem byteV_lt {n : Nat} (h : n < 256) : byteV (UInt8.ofNat n) = .int .u8 n := by rw [byteV_mod]; congr 1; omega
/-- a signature's parts -/
structure SigM where
  t : Nat
  al : Nat
  lb : Nat
  ttl : Nat
  ex : Nat
  bg : Nat
  tg : Nat
  n : List Lab
  s : Lab
structure SigM.fits (g : SigM) : Prop where
  t : g.t < 65536
  al : g.al < 256
  lb : g.lb < 256
  ttl : g.ttl < 4294967296
  ex : g.ex < 4294967296
  bg : g.bg < 4294967296
  tg : g.tg < 65536
  n : Small g.n
  s : g.s.length ≤ 100000
def SigM.bytes (g : SigM) : Lab := be2 g.t ++ [UInt8.ofNat g.al, UInt8.ofNat g.lb] ++ be4 g.ttl ++ be4 g.ex ++ be4 g.bg ++ be2 g.tg ++ wire g.n ++ g.s
def SigM.v (g : SigM) (A : Option Addr) (cap : Nat) (S : Option Addr) (sc : Nat) : Value := .agg #[.int .u16 g.t, .int .u8 g.al, .int .u8 g.lb, .int .u32 g.ttl, .int .u32 g.ex, .int .u32 g.bg, .int .u16 g.tg, .slice A g.n.length cap, .slice S g.s.length sc]
theorem own_rowC (w : World) (B : Nat) (e : TypeId) (xs : List Value) (hB : B ≤ w.heap.size) (hl : xs.length ≤ 1000) : (w.alloc (.cells xs.toArray e)).ownsRow B e 1 (.slice (some ⟨w.heap.size, 0, none⟩) xs.length xs.length) xs.length xs :=
  ⟨by simp, .inr ⟨w.heap.size, xs.length, xs.toArray, rfl, hB, heap_alloc_new w _, Nat.le_refl _, by unfold maxLen; omega, by simp, by simp⟩⟩
theorem wire_len_few {n : List Lab} (h : Small n) : (wire n).length ≤ 1001001 := by
  have := wires_few h
  unfold wire; simp; omega
/-- a row of blocks that read as bytes -/
def blobsF (ls : List Lab) : Fact := ⟨fun v W => ∃ A bs, v = .slice A ls.length ls.length ∧ Cs W A (bs.map Blob.v) ∧ bs.map (·.l) = ls ∧ Blobs W bs, by
  intro v W W' hE h
  obtain ⟨A, bs, h1, h2, h3, h4⟩ := h
  exact ⟨A, bs, h1, h2.below hE, h3, h4.below hE⟩⟩
theorem blobs_p (ls : List Lab) (v : Value) (W : World) : (blobsF ls).p v W = ∃ A bs, v = .slice A ls.length ls.length ∧ Cs W A (bs.map Blob.v) ∧ bs.map (·.l) = ls ∧ Blobs W bs := rfl
theorem join_of {bs : List Blob} {ls : List Lab} (h : bs.map (·.l) = ls) : join bs = ls.flatten := by
  unfold join
  rw [← h, List.flatMap_def]
set_option maxRecDepth 100000 in
set_option maxHeartbeats 20000000 in
theorem SigBytes (g : SigM) (hg : g.fits) (A S : Option Addr) (cap sc : Nat) (w : World) (hA : Cs w A (g.n.map strV)) (hS : Cs w S (g.s.map byteV)) :
    Calls Tryz.prog 43 #[g.v A cap S sc] w fun e w' => ∃ v, e = .returned v ∧ w'.ownsRow w.heap.size 5 1 v g.bytes.length (g.bytes.map byteV) ∧ Below w.heap.size w w' := by
  obtain ⟨i0, hi, hz0, hz1, hz2⟩ := info_parts info_u8
  unfold SigM.v
  have hb1 : Below w.heap.size w (w.alloc (.cells #[.int .u16 g.t, .int .u8 g.al, .int .u8 g.lb, .int .u32 g.ttl, .int .u32 g.ex, .int .u32 g.bg, .int .u16 g.tg, .slice A g.n.length cap, .slice S g.s.length sc] 41)) := (Below.refl _ _).alloc (Nat.le_refl _) _
  have hblk := heap_alloc_new w (.cells #[.int .u16 g.t, .int .u8 g.al, .int .u8 g.lb, .int .u32 g.ttl, .int .u32 g.ex, .int .u32 g.bg, .int .u16 g.tg, .slice A g.n.length cap, .slice S g.s.length sc] 41)
  obtain ⟨k0, k1, k2, k3, k4, k5, k6, k7, k8, _⟩ := cells9 hblk
  have hwr : IntKind.u32.wrap (g.t : Int) = g.t := by have := hg.t; simp [IntKind.wrap, IntKind.bits, IntKind.signed]; omega
  have hgt := hg.t
  have hsz : (w.alloc (.cells #[.int .u16 g.t, .int .u8 g.al, .int .u8 g.lb, .int .u32 g.ttl, .int .u32 g.ex, .int .u32 g.bg, .int .u16 g.tg, .slice A g.n.length cap, .slice S g.s.length sc] 41)).heap.size = w.heap.size + 1 := by simp
  go_enter Tryz.func43, Tryz.ntmps43
  go_wp2_with fail
  generalize w.alloc (.cells #[.int .u16 g.t, .int .u8 g.al, .int .u8 g.lb, .int .u32 g.ttl, .int .u32 g.ex, .int .u32 g.bg, .int .u16 g.tg, .slice A g.n.length cap, .slice S g.s.length sc] 41) = w1 at *
  have HA := Lib.hid (hA.below hb1)
  have HS := Lib.hid (hS.below hb1)
  clear hA hS hblk
  refine wp_region_gen mixed0 (by kernel_rfl) w1.heap.size (Nat.le_refl _) [.is (.pointer (some ⟨w.heap.size, 0, none⟩)), .is (.int .u16 g.t), .is (.int .u32 g.t), .own w1.heap.size 5 1 2 ((be2 g.t).map byteV), .is (.pointer (some ⟨w.heap.size, 1, none⟩)), .is (.int .u8 g.al), .is (.pointer (some ⟨w.heap.size, 2, none⟩)), .is (.int .u8 g.lb),
    .own w1.heap.size 5 1 2 [.int .u8 g.al, .int .u8 g.lb], .own w1.heap.size 5 1 4 ((be2 g.t).map byteV ++ [.int .u8 g.al, .int .u8 g.lb]), .own w1.heap.size 5 1 4 ((be2 g.t).map byteV ++ [.int .u8 g.al, .int .u8 g.lb])]
    (fun i => if i = 9 then 2 else 0) (fun j => if j = 3 ∨ j = 8 ∨ j = 9 ∨ j = 10 then 1 else 0) (by kernel_rfl) ?_ ?_ ?_
  · intro j
    rcases j with _ | _ | _ | _ | _ | _ | _ | _ | _ | _ | _ | j
    all_goals first
      | exact kind_is _ _
      | exact kind_own _ _ _ _ _ _ (Nat.le_refl _)
      | (have hx : ¬ (j + 11 = 3 ∨ j + 11 = 8 ∨ j + 11 = 9 ∨ j + 11 = 10) := by omega
         rw [if_neg hx]
         exact kind_any _)
  · intro i o hio vals W hE haf
    have e0 := (bcl (o := 0) hE (by omega)).trans k0
    have e1 := (bcl (o := 1) hE (by omega)).trans k1
    have e2 := (bcl (o := 2) hE (by omega)).trans k2
    rcases i with _ | _ | _ | _ | _ | _ | _ | _ | _ | _ | _ | i
    all_goals first
      | (exfalso; simp at hio; done)
      | (simp at hio; subst hio; simp [bindD, rdB, Region.binds, factAt] at haf; simp [opYield_def, yieldUpon, relAct, dstAt, Act.put, Region.wanted, go_sem, haf, e0, e1, e2, Ext.refl, factAt, hwr, kindT]; done)
      | skip
    all_goals
      simp at hio
      subst hio
    · simp [bindD, rdB, Region.binds, factAt] at haf
      simp [opYield_def, yieldUpon, relAct, dstAt, Act.put, Region.wanted, go_sem, haf, factAt, kindT]
      refine (put2 W.heap.size (.slice none 0 0) 0 [] g.t W (World.ownsRow_nil _ _ _ _) (Nat.le_refl _) (by omega) (by omega)).mono fun e W' h5 => ?_
      obtain ⟨v, he, ho, hb⟩ := h5
      exact ⟨v, he, hb.below (World.ownsRow_nil _ _ 5 1) (Nat.le_refl _), own_base (by simpa using ho) hE.size⟩
    · simp [bindD, rdB, Region.binds, factAt] at haf
      simp [opYield_def, yieldUpon, relAct, dstAt, Act.put, Region.wanted, go_sem, haf, factAt, kindT]
      exact ⟨(Below.refl _ _).alloc (Nat.le_refl _) _, own_rowC W w1.heap.size 5 [.int .u8 g.al, .int .u8 g.lb] hE.size (by simp)⟩
    · simp [bindD, rdB, Region.binds, factAt] at haf
      obtain ⟨h3, h8⟩ := haf
      obtain ⟨A8, c8, e8, _, hcs8⟩ := Cs.of_own h8
      refine yield_bytes rfl (.tmp 9) (.tmp 14) Tryz.underlying28 rfl (v := vals 3) (by simp [relAct, dstAt, Act.put, Act.eval]) h3 hE.size (us := [.int .u8 g.al, .int .u8 g.lb]) (A := A8) (c := c8) (by simp [relAct, dstAt, Act.put, Act.eval, e8]) hcs8 (by simp [Value.oneCell']) (by simp) ?_
      intro v' W' h4 h5
      exact ⟨h5, h4⟩
  · intro vals W hE hF
    have h10 := hF 10 (by show 10 < 11; omega) (by kernel_rfl)
    have h11 : W.ownsRow w1.heap.size 5 1 (vals 10) 4 ((be2 g.t ++ [UInt8.ofNat g.al, UInt8.ofNat g.lb]).map byteV) := by
      rw [List.map_append]
      show W.ownsRow w1.heap.size 5 1 (vals 10) 4 ((be2 g.t).map byteV ++ [byteV (UInt8.ofNat g.al), byteV (UInt8.ofNat g.lb)])
      rw [byteV_lt hg.al, byteV_lt hg.lb]
      exact h10
    simp [relAct, dstAt, Act.put]
    clear hF h10
    have l0 : (be2 g.t ++ [UInt8.ofNat g.al, UInt8.ofNat g.lb]).length = 4 := rfl
    have e3 := (bcl (o := 3) hE (by omega)).trans k3
    have e4 := (bcl (o := 4) hE (by omega)).trans k4
    have e5 := (bcl (o := 5) hE (by omega)).trans k5
    have e6 := (bcl (o := 6) hE (by omega)).trans k6
    have e7 := (bcl (o := 7) hE (by omega)).trans k7
    have e8 := (bcl (o := 8) hE (by omega)).trans k8
    generalize vals 10 = v0 at *
    generalize hx0 : be2 g.t ++ [UInt8.ofNat g.al, UInt8.ofNat g.lb] = xs0 at *
    have HX0 := Lib.hid hx0
    clear hx0
    have hz := hE.size
    have hlt0 := fun k hk => (h11.lt k hk)
    clear k0 k1 k2 k3 k4 k5 k6 k7 k8
    have hbz : Below W.heap.size W (W.alloc (.cells #[.int .u32 g.ttl, .int .u32 g.ex, .int .u32 g.bg] 22)) := (Below.refl _ _).alloc (Nat.le_refl _) _
    have hq : (W.alloc (.cells #[.int .u32 g.ttl, .int .u32 g.ex, .int .u32 g.bg] 22)).heap[W.heap.size]? = some (.cells #[.int .u32 g.ttl, .int .u32 g.ex, .int .u32 g.bg] 22 (0, 0)) := heap_alloc_new W _
    have q0 : (W.alloc (.cells #[.int .u32 g.ttl, .int .u32 g.ex, .int .u32 g.bg] 22)).cell? ⟨W.heap.size, 0, none⟩ = some (.int .u32 g.ttl) := by rw [cell_of_row _ _ 0 _ _ _ hq]; rfl
    have q1 : (W.alloc (.cells #[.int .u32 g.ttl, .int .u32 g.ex, .int .u32 g.bg] 22)).cell? ⟨W.heap.size, 1, none⟩ = some (.int .u32 g.ex) := by rw [cell_of_row _ _ 1 _ _ _ hq]; rfl
    have q2 : (W.alloc (.cells #[.int .u32 g.ttl, .int .u32 g.ex, .int .u32 g.bg] 22)).cell? ⟨W.heap.size, 2, none⟩ = some (.int .u32 g.bg) := by rw [cell_of_row _ _ 2 _ _ _ hq]; rfl
    have hzz : (W.alloc (.cells #[.int .u32 g.ttl, .int .u32 g.ex, .int .u32 g.bg] 22)).heap.size = W.heap.size + 1 := by simp
    have o0 := own_below h11 hbz
    have hn1 : ¬ some W.heap.size = v0.ownBlock := fun h => by have := hlt0 _ h.symm; omega
    have hn2 : ¬ some w.heap.size = v0.ownBlock := fun h => by have := hlt0 _ h.symm; omega
    have z3 := (bcl (o := 3) hbz (show w.heap.size < _ by omega)).trans e3
    have z6 := (bcl (o := 6) hbz (show w.heap.size < _ by omega)).trans e6
    have z7 := (bcl (o := 7) hbz (show w.heap.size < _ by omega)).trans e7
    have z8 := (bcl (o := 8) hbz (show w.heap.size < _ by omega)).trans e8
    have HO := Lib.hid o0
    have HFits := Lib.hid hg
    have hBz := hE.trans (hbz.mono hz)
    clear o0 hq h11 hg
    go_wp2_with fail
    clear e3 e4 e5 e6 e7 e8
    refine wp_loop_rounds 4 ?_
    rw [rounds_succ]
    go_wp2_with fail
    generalize W.alloc (.cells #[.int .u32 g.ttl, .int .u32 g.ex, .int .u32 g.bg] 22) = Wz at *
    refine (put4 w1.heap.size v0 4 xs0 g.ttl Wz HO.out (by omega) (by omega) HFits.out.ttl).mono ?_
    rintro e W1 ⟨v1, rfl, own1, mv1⟩
    have s1 := mv1.kept.size
    have r1 := (mv1.kept.cell (o := 1) (show W.heap.size < _ by omega) hn1).trans q1
    go_wp2_with fail
    rw [rounds_succ]
    go_wp2_with fail
    have HO1 := Lib.hid own1
    clear own1 r1
    refine (put4 w1.heap.size v1 (4 + 4) _ g.ex W1 HO1.out (by omega) (by omega) HFits.out.ex).mono ?_
    rintro e W2 ⟨v2, rfl, own2, mv2⟩
    have mv12 := mv1.trans mv2
    have s2 := mv12.kept.size
    have r2 := (mv12.kept.cell (o := 2) (show W.heap.size < _ by omega) hn1).trans q2
    go_wp2_with fail
    rw [rounds_succ]
    go_wp2_with fail
    have HO2 := Lib.hid own2
    clear own2 r2
    refine (put4 w1.heap.size v2 (4 + 4 + 4) _ g.bg W2 HO2.out (by omega) (by omega) HFits.out.bg).mono ?_
    rintro e W3 ⟨v3, rfl, own3, mv3⟩
    have mv := mv12.trans mv3
    go_wp2_with fail
    rw [rounds_succ]
    go_wp2_with fail
    have s3 := mv.kept.size
    have y6 := (mv.kept.cell (o := 6) (show w.heap.size < _ by omega) hn2).trans z6
    have y7 := (mv.kept.cell (o := 7) (show w.heap.size < _ by omega) hn2).trans z7
    have y8 := (mv.kept.cell (o := 8) (show w.heap.size < _ by omega) hn2).trans z8
    have hB3 := hBz.trans (mv.below HO.out (by omega))
    have HO3 := Lib.hid own3
    clear own3 z6 z7 z8 z3 q0 q1 q2 mv12 mv1 mv2 mv3 HO1 HO2
    have hu : ∀ k, v3.ownBlock = some k → w1.heap.size ≤ k ∧ k < W3.heap.size := fun k hk => HO3.out.lt k hk
    have HU := Lib.hid hu
    clear hu hbz hn1 hn2 hlt0 hBz hzz mv
    generalize hxs : xs0 ++ be4 g.ttl ++ be4 g.ex ++ be4 g.bg = xs at *
    have HXS := Lib.hid hxs
    have lxs : xs.length = 16 := by rw [← hxs]; simp [l0, be4]
    have hwt : IntKind.u32.wrap (g.tg : Int) = g.tg := by have := HFits.out.tg; simp [IntKind.wrap, IntKind.bits, IntKind.signed]; omega
    have htg := HFits.out.tg
    have lb2 : (be2 g.tg).length = 2 := rfl
    have hwl := wire_len_few HFits.out.n
    have hsl := HFits.out.s
    have HWi : Hid (∀ W, Below w1.heap.size w1 W → Calls Tryz.prog 44 #[.slice A g.n.length cap] W fun e w' => ∃ v, e = .returned v ∧ w'.ownsRow W.heap.size 5 1 v (wire g.n).length ((wire g.n).map byteV) ∧ Below W.heap.size W w') := Lib.hid fun W hW => Wire A g.n cap W (HA.out.below hW) HFits.out.n
    clear hxs
    generalize hwn : wire g.n = wn at *
    have HWN := Lib.hid hwn
    clear hwn
    refine wp_region_gen0 mixed0 (by kernel_rfl) w1.heap.size hB3.size [.is v3, .is (.pointer (some ⟨w.heap.size, 6, none⟩)), .is (.int .u16 g.tg), .is (.int .u32 g.tg), .own w1.heap.size 5 1 18 ((xs ++ be2 g.tg).map byteV),
      .is (.pointer (some ⟨w.heap.size, 7, none⟩)), .is (.slice A g.n.length cap), .own W3.heap.size 5 1 wn.length (wn.map byteV), .is (.pointer (some ⟨w.heap.size, 8, none⟩)), .is (.slice S g.s.length sc),
      blobsF [xs ++ be2 g.tg, wn, g.s], .own W3.heap.size 5 1 ((xs ++ be2 g.tg) ++ wn ++ g.s).length (((xs ++ be2 g.tg) ++ wn ++ g.s).map byteV), .own W3.heap.size 5 1 ((xs ++ be2 g.tg) ++ wn ++ g.s).length (((xs ++ be2 g.tg) ++ wn ++ g.s).map byteV)]
      (fun i => if i = 4 then 1 else 0) (fun j => if j = 4 ∨ j = 10 then 3 else if j = 7 ∨ j = 11 ∨ j = 12 then 1 else 0) (by kernel_rfl) ?_
      (fun W => W.ownsRow w1.heap.size 5 1 v3 16 (xs.map byteV)) HO3.out (fun W W' hE h => own_below h hE) (fun W W' hb h => Kept.row h (Kept.of_below hb) (fun k hk => by have := (HU.out k hk).2; omega)) ?_ ?_
    · intro j
      rcases j with _ | _ | _ | _ | _ | _ | _ | _ | _ | _ | _ | _ | _ | j
      all_goals first
        | exact kind_is _ _
        | exact kind_own _ _ _ _ _ _ (Nat.le_refl _)
        | exact trivial
        | (have hx : ¬ (j + 13 = 7 ∨ j + 13 = 11 ∨ j + 13 = 12) := by omega
           have hy : ¬ (j + 13 = 4 ∨ j + 13 = 10) := by omega
           rw [if_neg hy, if_neg hx]
           exact kind_any _)
    · intro i o hio vals W hE2 haf hI
      have e6 := (bcl (o := 6) hE2 (show w.heap.size < w1.heap.size by omega)).trans y6
      have e7 := (bcl (o := 7) hE2 (show w.heap.size < w1.heap.size by omega)).trans y7
      have e8 := (bcl (o := 8) hE2 (show w.heap.size < w1.heap.size by omega)).trans y8
      have hWs := hE2.size
      have hHS : Cs W S (g.s.map byteV) := HS.out.below (hB3.trans hE2)
      rcases i with _ | _ | _ | _ | _ | _ | _ | _ | _ | _ | _ | _ | _ | i
      all_goals first
        | (exfalso; simp at hio; done)
        | (simp at hio; subst hio; simp [bindD, rdB, Region.binds, factAt] at haf; simp [opYield_def, yieldUpon, relAct, dstAt, Act.put, Region.wanted, go_sem, haf, e6, e7, e8, Ext.refl, factAt, hwt, kindT]; done)
        | skip
      all_goals
        simp at hio
        subst hio
        simp [bindD, rdB, Region.binds, factAt] at haf
      · have hrow := hI (fun k hk h => .inl (by
          by_cases e : k = 4
          · exact e
          · simp [e] at h))
        obtain ⟨h3, h4⟩ := haf
        simp [opYield_def, yieldUpon, relAct, dstAt, Act.put, Region.wanted, go_sem, h3, h4, factAt, kindT]
        refine (put2 w1.heap.size v3 16 xs g.tg W hrow (Nat.le_trans hB3.size hWs) (by omega) (by omega)).mono fun e W' h5 => ?_
        obtain ⟨v, he, ho, hm⟩ := h5
        exact ⟨v, he, hm.kept.mono (fun k _ h => HU.out k h.symm), by simpa using ho⟩
      · simp [opYield_def, yieldUpon, relAct, dstAt, Act.put, Region.wanted, go_sem, haf, factAt, kindT]
        refine (HWi.out W (hB3.trans hE2)).mono fun e W' h5 => ?_
        obtain ⟨v, he, ho, hb⟩ := h5
        exact ⟨v, he, hb, own_base ho hWs⟩
      · obtain ⟨h4, h7, h9⟩ := haf
        obtain ⟨A4, c4, e4, _, hc4⟩ := Cs.of_own h4
        obtain ⟨A7, c7, e7', _, hc7⟩ := Cs.of_own h7
        simp [opYield_def, yieldUpon, relAct, dstAt, Act.put, Region.wanted, go_sem, e4, e7', h9, factAt, kindT]
        have hb5 : Below W.heap.size W (W.alloc (.cells #[.slice A4 18 c4, .slice A7 wn.length c7, .slice S g.s.length sc] 28)) := (Below.refl _ _).alloc (Nat.le_refl _) _
        have hlx : (xs ++ be2 g.tg).length = 18 := by rw [List.length_append, lxs]; rfl
        refine ⟨hb5, some ⟨W.heap.size, 0, none⟩, [⟨A4, xs ++ be2 g.tg, c4⟩, ⟨A7, wn, c7⟩, ⟨S, g.s, sc⟩], rfl, ?_, rfl, ?_⟩
        · have := cs_new W 28 [.slice A4 18 c4, .slice A7 wn.length c7, .slice S g.s.length sc] (0, 0)
          simp only [List.map_cons, List.map_nil, Blob.v, hlx]
          exact this
        · intro b hb
          rcases List.mem_cons.1 hb with rfl | hb
          · refine Cs.below (w := W) ?_ hb5
            rw [List.map_append]
            exact hc4
          · rcases List.mem_cons.1 hb with rfl | hb
            · exact Cs.below (w := W) hc7 hb5
            · rcases List.mem_cons.1 hb with rfl | hb
              · exact Cs.below (w := W) hHS hb5
              · cases hb
      · rw [blobs_p] at haf
        obtain ⟨A9, bs, h1, h2, h3, h4⟩ := haf
        simp [opYield_def, yieldUpon, relAct, dstAt, Act.put, Region.wanted, go_sem, h1, factAt, kindT]
        have hbl : bs.length = 3 := by have := congrArg List.length h3; simpa using this
        have hj : join bs = xs ++ (be2 g.tg ++ (wn ++ g.s)) := by rw [join_of h3]; simp
        have hcc := Concat A9 bs 3 W h2 h4 (by omega) (by rw [hj]; simp [lxs, lb2]; omega)
        rw [hbl] at hcc
        refine hcc.mono fun e W' h5 => ?_
        obtain ⟨v, he, ho, hb⟩ := h5
        refine ⟨v, he, hb, ?_⟩
        rw [hj] at ho
        simpa using own_base ho hWs
    · intro vals W hE2 hF
      have h12 := hF 12 (by show 12 < 13; omega) (by kernel_rfl)
      simp [relAct, dstAt, Act.put]
      clear hF
      have h13 : W.ownsRow w.heap.size 5 1 (vals 12) g.bytes.length (g.bytes.map byteV) := by
        have hbe : g.bytes = (xs ++ be2 g.tg) ++ wn ++ g.s := by
          rw [← HXS.out, ← HWN.out]
          unfold SigM.bytes
          rw [HX0.out]
        rw [hbe]
        exact own_base h12 (by have := hB3.size; omega)
      have hb9 := hb1.trans ((hB3.trans hE2).mono (by omega))
      have H13 := Lib.hid h13
      clear h12 h13
      generalize vals 12 = vr at *
      go_wp2_with fail
      go_ret
      exact ⟨_, rfl, H13.out, hb9⟩
end Nm
end Go.Proofs.YthogembgndkmpaaGreatDoor

/- Contracts of package rdata: SoaBytes. -/
namespace Go.Proofs.YthogembgndkmpaaGreatDoor
open Go.RowKit
namespace Nm
/-- a SOA's parts -/
structure SoaM where
  m : List Lab
  x : List Lab
  s1 : Nat
  s2 : Nat
  s3 : Nat
  s4 : Nat
  s5 : Nat
structure SoaM.fits (g : SoaM) : Prop where
  m : Small g.m
  x : Small g.x
  s1 : g.s1 < 4294967296
  s2 : g.s2 < 4294967296
  s3 : g.s3 < 4294967296
  s4 : g.s4 < 4294967296
  s5 : g.s5 < 4294967296
def SoaM.bytes (g : SoaM) : Lab := wire g.m ++ wire g.x ++ be4 g.s1 ++ be4 g.s2 ++ be4 g.s3 ++ be4 g.s4 ++ be4 g.s5
def SoaM.v (g : SoaM) (A : Option Addr) (ca : Nat) (B : Option Addr) (cb : Nat) : Value := .agg #[.slice A g.m.length ca, .slice B g.x.length cb, .int .u32 g.s1, .int .u32 g.s2, .int .u32 g.s3, .int .u32 g.s4, .int .u32 g.s5]
theorem cells7 {w : World} {g : Nat} {T : TypeId} {c0 c1 c2 c3 c4 c5 c6 : Value} (h : w.heap[g]? = some (.cells #[c0, c1, c2, c3, c4, c5, c6] T (0, 0))) :
    w.cell? ⟨g, 0, none⟩ = some c0 ∧ w.cell? ⟨g, 1, none⟩ = some c1 ∧ w.cell? ⟨g, 2, none⟩ = some c2 ∧ w.cell? ⟨g, 3, none⟩ = some c3 ∧ w.cell? ⟨g, 4, none⟩ = some c4 ∧ w.cell? ⟨g, 5, none⟩ = some c5 ∧ w.cell? ⟨g, 6, none⟩ = some c6 ∧ ∀ i, w.frozen? ⟨g, i, none⟩ = false := by
  refine ⟨?_, ?_, ?_, ?_, ?_, ?_, ?_, fun i => by simp [World.frozen?, h]⟩ <;> (rw [cell_of_row w g _ _ _ _ h]; rfl)
set_option maxRecDepth 100000 in
set_option maxHeartbeats 20000000 in
theorem SoaBytes (g : SoaM) (hg : g.fits) (A B : Option Addr) (ca cb : Nat) (w : World) (hA : Cs w A (g.m.map strV)) (hB : Cs w B (g.x.map strV)) :
    Calls Tryz.prog 90 #[g.v A ca B cb] w fun e w' => ∃ v, e = .returned v ∧ w'.ownsRow w.heap.size 5 1 v g.bytes.length (g.bytes.map byteV) ∧ Below w.heap.size w w' := by
  obtain ⟨i0, hi, hz0, hz1, hz2⟩ := info_parts info_u8
  unfold SoaM.v
  have hb1 : Below w.heap.size w (w.alloc (.cells #[.slice A g.m.length ca, .slice B g.x.length cb, .int .u32 g.s1, .int .u32 g.s2, .int .u32 g.s3, .int .u32 g.s4, .int .u32 g.s5] 76)) := (Below.refl _ _).alloc (Nat.le_refl _) _
  have hblk := heap_alloc_new w (.cells #[.slice A g.m.length ca, .slice B g.x.length cb, .int .u32 g.s1, .int .u32 g.s2, .int .u32 g.s3, .int .u32 g.s4, .int .u32 g.s5] 76)
  obtain ⟨k0, k1, k2, k3, k4, k5, k6, _⟩ := cells7 hblk
  have hsz : (w.alloc (.cells #[.slice A g.m.length ca, .slice B g.x.length cb, .int .u32 g.s1, .int .u32 g.s2, .int .u32 g.s3, .int .u32 g.s4, .int .u32 g.s5] 76)).heap.size = w.heap.size + 1 := by simp
  go_enter Tryz.func90, Tryz.ntmps90
  go_wp2_with fail
  generalize w.alloc (.cells #[.slice A g.m.length ca, .slice B g.x.length cb, .int .u32 g.s1, .int .u32 g.s2, .int .u32 g.s3, .int .u32 g.s4, .int .u32 g.s5] 76) = w1 at *
  have hwm := wire_len_few hg.m
  have hwx := wire_len_few hg.x
  have HWA : Hid (∀ W, Below w1.heap.size w1 W → Calls Tryz.prog 44 #[.slice A g.m.length ca] W fun e w' => ∃ v, e = .returned v ∧ w'.ownsRow W.heap.size 5 1 v (wire g.m).length ((wire g.m).map byteV) ∧ Below W.heap.size W w') := Lib.hid fun W hW => Wire A g.m ca W ((hA.below hb1).below hW) hg.m
  have HWB : Hid (∀ W, Below w1.heap.size w1 W → Calls Tryz.prog 44 #[.slice B g.x.length cb] W fun e w' => ∃ v, e = .returned v ∧ w'.ownsRow W.heap.size 5 1 v (wire g.x).length ((wire g.x).map byteV) ∧ Below W.heap.size W w') := Lib.hid fun W hW => Wire B g.x cb W ((hB.below hb1).below hW) hg.x
  have HBY : Hid (∀ a b, wire g.m = a → wire g.x = b → g.bytes = a ++ b ++ be4 g.s1 ++ be4 g.s2 ++ be4 g.s3 ++ be4 g.s4 ++ be4 g.s5) := Lib.hid fun a b h1 h2 => by rw [← h1, ← h2]; rfl
  clear hA hB hblk
  generalize hwa : wire g.m = a at *
  generalize hwb : wire g.x = b at *
  have HB2 := Lib.hid (HBY.out a b rfl rfl)
  have HG := Lib.hid hg
  clear HBY hwa hwb hg
  refine wp_region_mono mixed0 (by kernel_rfl) [.is (.pointer (some ⟨w.heap.size, 0, none⟩)), .is (.slice A g.m.length ca), .own w1.heap.size 5 1 a.length (a.map byteV), .is (.pointer (some ⟨w.heap.size, 1, none⟩)), .is (.slice B g.x.length cb), .own w1.heap.size 5 1 b.length (b.map byteV),
    blobsF [a, b], .own w1.heap.size 5 1 (a ++ b).length ((a ++ b).map byteV), .own w1.heap.size 5 1 (a ++ b).length ((a ++ b).map byteV)] rfl ?_ ?_
  · intro i o hio vals W hE haf
    have e0 := (bcl (o := 0) hE (by omega)).trans k0
    have e1 := (bcl (o := 1) hE (by omega)).trans k1
    rcases i with _ | _ | _ | _ | _ | _ | _ | _ | _ | i
    all_goals first
      | (exfalso; simp at hio; done)
      | (simp at hio; subst hio; simp [bindD, rdB, Region.binds, factAt] at haf; simp [opYield_def, yieldUpon, relAct, dstAt, Act.put, Region.wanted, go_sem, haf, e0, e1, Ext.refl, factAt]; done)
      | skip
    all_goals
      simp at hio
      subst hio
      simp [bindD, rdB, Region.binds, factAt] at haf
    · simp [opYield_def, yieldUpon, relAct, dstAt, Act.put, Region.wanted, go_sem, haf, factAt]
      refine (HWA.out W hE).mono fun e W' h5 => ?_
      obtain ⟨v, he, ho, hb⟩ := h5
      exact ⟨v, he, hb, own_base ho hE.size⟩
    · simp [opYield_def, yieldUpon, relAct, dstAt, Act.put, Region.wanted, go_sem, haf, factAt]
      refine (HWB.out W hE).mono fun e W' h5 => ?_
      obtain ⟨v, he, ho, hb⟩ := h5
      exact ⟨v, he, hb, own_base ho hE.size⟩
    · obtain ⟨h2, h5⟩ := haf
      obtain ⟨A4, c4, e4, _, hc4⟩ := Cs.of_own h2
      obtain ⟨A7, c7, e7', _, hc7⟩ := Cs.of_own h5
      simp [opYield_def, yieldUpon, relAct, dstAt, Act.put, Region.wanted, go_sem, e4, e7', factAt]
      have hb5 : Below W.heap.size W (W.alloc (.cells #[.slice A4 a.length c4, .slice A7 b.length c7] 28)) := (Below.refl _ _).alloc (Nat.le_refl _) _
      refine ⟨hb5, some ⟨W.heap.size, 0, none⟩, [⟨A4, a, c4⟩, ⟨A7, b, c7⟩], rfl, ?_, rfl, ?_⟩
      · exact cs_new W 28 [.slice A4 a.length c4, .slice A7 b.length c7] (0, 0)
      · intro z hz
        rcases List.mem_cons.1 hz with rfl | hz
        · exact Cs.below (w := W) hc4 hb5
        · rcases List.mem_cons.1 hz with rfl | hz
          · exact Cs.below (w := W) hc7 hb5
          · cases hz
    · rw [blobs_p] at haf
      obtain ⟨A9, bs, h1, h2, h3, h4⟩ := haf
      simp [opYield_def, yieldUpon, relAct, dstAt, Act.put, Region.wanted, go_sem, h1, factAt]
      have hbl : bs.length = 2 := by have := congrArg List.length h3; simpa using this
      have hj : join bs = a ++ b := by rw [join_of h3]; simp
      have hcc := Concat A9 bs 2 W h2 h4 (by omega) (by rw [hj]; simp; omega)
      rw [hbl] at hcc
      refine hcc.mono fun e W' h5 => ?_
      obtain ⟨v, he, ho, hb⟩ := h5
      refine ⟨v, he, hb, ?_⟩
      rw [hj] at ho
      simpa using own_base ho hE.size
  · intro vals W hE hF
    simp only [facts] at hF
    obtain ⟨_, _, _, _, _, _, _, _, h8, _⟩ := hF
    have h9 : W.ownsRow w1.heap.size 5 1 (vals 8) (a ++ b).length ((a ++ b).map byteV) := h8
    simp [relAct, dstAt, Act.put]
    have e2 := (bcl (o := 2) hE (by omega)).trans k2
    have e3 := (bcl (o := 3) hE (by omega)).trans k3
    have e4 := (bcl (o := 4) hE (by omega)).trans k4
    have e5 := (bcl (o := 5) hE (by omega)).trans k5
    have e6 := (bcl (o := 6) hE (by omega)).trans k6
    have hz := hE.size
    have hlab : (a ++ b).length ≤ 2002002 := by simp; omega
    generalize a ++ b = xs0 at *
    generalize vals 8 = v0 at *
    have hlt0 := fun k hk => (h9.lt k hk)
    clear k0 k1 k2 k3 k4 k5 k6
    have hbz : Below W.heap.size W (W.alloc (.cells #[.int .u32 g.s1, .int .u32 g.s2, .int .u32 g.s3, .int .u32 g.s4, .int .u32 g.s5] 22)) := (Below.refl _ _).alloc (Nat.le_refl _) _
    have hq : (W.alloc (.cells #[.int .u32 g.s1, .int .u32 g.s2, .int .u32 g.s3, .int .u32 g.s4, .int .u32 g.s5] 22)).heap[W.heap.size]? = some (.cells #[.int .u32 g.s1, .int .u32 g.s2, .int .u32 g.s3, .int .u32 g.s4, .int .u32 g.s5] 22 (0, 0)) := heap_alloc_new W _
    have q0 : (W.alloc (.cells #[.int .u32 g.s1, .int .u32 g.s2, .int .u32 g.s3, .int .u32 g.s4, .int .u32 g.s5] 22)).cell? ⟨W.heap.size, 0, none⟩ = some (.int .u32 g.s1) := by rw [cell_of_row _ _ 0 _ _ _ hq]; rfl
    have q1 : (W.alloc (.cells #[.int .u32 g.s1, .int .u32 g.s2, .int .u32 g.s3, .int .u32 g.s4, .int .u32 g.s5] 22)).cell? ⟨W.heap.size, 1, none⟩ = some (.int .u32 g.s2) := by rw [cell_of_row _ _ 1 _ _ _ hq]; rfl
    have q2 : (W.alloc (.cells #[.int .u32 g.s1, .int .u32 g.s2, .int .u32 g.s3, .int .u32 g.s4, .int .u32 g.s5] 22)).cell? ⟨W.heap.size, 2, none⟩ = some (.int .u32 g.s3) := by rw [cell_of_row _ _ 2 _ _ _ hq]; rfl
    have q3 : (W.alloc (.cells #[.int .u32 g.s1, .int .u32 g.s2, .int .u32 g.s3, .int .u32 g.s4, .int .u32 g.s5] 22)).cell? ⟨W.heap.size, 3, none⟩ = some (.int .u32 g.s4) := by rw [cell_of_row _ _ 3 _ _ _ hq]; rfl
    have q4 : (W.alloc (.cells #[.int .u32 g.s1, .int .u32 g.s2, .int .u32 g.s3, .int .u32 g.s4, .int .u32 g.s5] 22)).cell? ⟨W.heap.size, 4, none⟩ = some (.int .u32 g.s5) := by rw [cell_of_row _ _ 4 _ _ _ hq]; rfl
    have hzz : (W.alloc (.cells #[.int .u32 g.s1, .int .u32 g.s2, .int .u32 g.s3, .int .u32 g.s4, .int .u32 g.s5] 22)).heap.size = W.heap.size + 1 := by simp
    have HO0 := Lib.hid (own_below h9 hbz)
    have hn1 : ¬ some W.heap.size = v0.ownBlock := fun h => by have := hlt0 _ h.symm; omega
    have hBz := (hb1.trans (hE.mono (by omega))).trans (hbz.mono (by omega))
    clear hq h9 hlt0 hbz
    go_wp2_with fail
    clear e2 e3 e4 e5 e6
    refine wp_loop_rounds 6 ?_
    rw [rounds_succ]
    go_wp2_with fail
    generalize W.alloc (.cells #[.int .u32 g.s1, .int .u32 g.s2, .int .u32 g.s3, .int .u32 g.s4, .int .u32 g.s5] 22) = W0 at *
    have mv0 := Moved.refl v0 W0
    refine (put4 w1.heap.size v0 (xs0.length) _ g.s1 W0 HO0.out (by omega) (by omega) HG.out.s1).mono ?_
    rintro e W1 ⟨v1, rfl, own1, mvn1⟩
    have mv1 := mv0.trans mvn1
    have s1 := mv1.kept.size
    have r1 := (mv1.kept.cell (o := 1) (show W.heap.size < _ by omega) hn1).trans q1
    have HO1 := Lib.hid own1
    clear own1
    go_wp2_with fail
    rw [rounds_succ]
    go_wp2_with fail
    refine (put4 w1.heap.size v1 (xs0.length + 4) _ g.s2 W1 HO1.out (by omega) (by omega) HG.out.s2).mono ?_
    rintro e W2 ⟨v2, rfl, own2, mvn2⟩
    have mv2 := mv1.trans mvn2
    have s2 := mv2.kept.size
    have r2 := (mv2.kept.cell (o := 2) (show W.heap.size < _ by omega) hn1).trans q2
    have HO2 := Lib.hid own2
    clear own2
    go_wp2_with fail
    rw [rounds_succ]
    go_wp2_with fail
    refine (put4 w1.heap.size v2 (xs0.length + 4 + 4) _ g.s3 W2 HO2.out (by omega) (by omega) HG.out.s3).mono ?_
    rintro e W3 ⟨v3, rfl, own3, mvn3⟩
    have mv3 := mv2.trans mvn3
    have s3 := mv3.kept.size
    have r3 := (mv3.kept.cell (o := 3) (show W.heap.size < _ by omega) hn1).trans q3
    have HO3 := Lib.hid own3
    clear own3
    go_wp2_with fail
    rw [rounds_succ]
    go_wp2_with fail
    refine (put4 w1.heap.size v3 (xs0.length + 4 + 4 + 4) _ g.s4 W3 HO3.out (by omega) (by omega) HG.out.s4).mono ?_
    rintro e W4 ⟨v4, rfl, own4, mvn4⟩
    have mv4 := mv3.trans mvn4
    have s4 := mv4.kept.size
    have r4 := (mv4.kept.cell (o := 4) (show W.heap.size < _ by omega) hn1).trans q4
    have HO4 := Lib.hid own4
    clear own4
    go_wp2_with fail
    rw [rounds_succ]
    go_wp2_with fail
    refine (put4 w1.heap.size v4 (xs0.length + 4 + 4 + 4 + 4) _ g.s5 W4 HO4.out (by omega) (by omega) HG.out.s5).mono ?_
    rintro e W5 ⟨v5, rfl, own5, mvn5⟩
    have mv5 := mv4.trans mvn5
    have s5 := mv5.kept.size
    have HO5 := Lib.hid own5
    clear own5
    go_wp2_with fail
    rw [rounds_succ]
    go_wp2_with fail
    go_ret
    have hbF := hBz.trans (mv5.below HO0.out (by omega) |>.mono (by omega))
    refine ⟨_, rfl, ?_, hbF⟩
    have ho := own_base HO5.out (show w.heap.size ≤ w1.heap.size by omega)
    rw [HB2.out]
    have hl : (xs0 ++ be4 g.s1 ++ be4 g.s2 ++ be4 g.s3 ++ be4 g.s4 ++ be4 g.s5).length = xs0.length + 4 + 4 + 4 + 4 + 4 := by simp [be4]
    rw [hl]
    exact ho
end Nm
end Go.Proofs.YthogembgndkmpaaGreatDoor

/- Contracts of package name: Open (its closure, what catches). -/
namespace Go.Proofs.YthogembgndkmpaaGreatDoor
open Go.RowKit
namespace Nm
def failP (e : Int) : List PanicEntry := [{ v := .iface 199 (.agg #[.int .i64 e]), recovered := false }]
set_option maxHeartbeats 1000000 in
theorem fail (e : Int) (w : World) : Calls Tryz.prog 152 #[.int .i64 e] w fun r w' => r = .panicked (failP e) ∧ w = w' := by
  go_enter Tryz.func152, Tryz.ntmps152
  go_wp2_with fail
  exact ⟨rfl, rfl, rfl⟩
def Open1R (b : Lab) (w : World) (v at_ : Value) (wr : World) : Prop :=
  ∃ (k : Nat) (n : List Lab), k ≤ b.length ∧ at_ = .int .i64 k ∧ n.length ≤ k ∧ wr.ownsRow w.heap.size 9 1 v n.length (n.map strV) ∧ parse b = pre n k (parse (b.drop k)) ∧ Below w.heap.size w wr
set_option maxRecDepth 100000 in
set_option maxHeartbeats 1000000 in
theorem Open1 (p : Addr) (A : Option Addr) (b : Lab) (cap : Nat) (w : World) (hp : w.cell? p = some (.slice A b.length cap)) (hpb : p.block < w.heap.size) (hc : Cs w A (b.map byteV)) (hb : b.length ≤ 100000) (hcap : b.length ≤ cap) (hcap2 : cap ≤ maxLen) :
    Calls Tryz.prog 151 #[.pointer (some p)] w fun e w' => Below w.heap.size w w' ∧
      ((∃ n k v, parse b = some (n, k) ∧ e = .returned (.tuple #[v, .int .i64 k]) ∧ w'.ownsRow w.heap.size 9 1 v n.length (n.map strV)) ∨ (parse b = none ∧ e = .panicked (failP 30))) := by
  obtain ⟨i0, hi, hz0, hz1, hz2⟩ := info_parts info_str
  unfold maxLen at hcap2
  go_enter Tryz.func151, Tryz.ntmps151
  go_wp2_with fail
  go_loopw [3, 4] (Open1R b w) (fun _ i _ => b.length - (intOf i).toNat)
  case atStart => exact ⟨0, [], Nat.zero_le _, rfl, Nat.zero_le _, World.ownsRow_nil _ _ _ _, by rw [pre_nil]; rfl, Below.refl _ _⟩
  case round =>
    obtain ⟨k, n, hk, rfl, hnk, hown, hpre, hbel⟩ := hrel
    have hp1 := (hbel.cell hpb).trans hp
    have HP := Lib.hid hpre
    clear hpre
    by_cases hlt : k < b.length
    · obtain ⟨bk, off, rfl, hbl, hc0⟩ := Cs.byte hc hlt
      have hc1 := (hbel.cell (p := ⟨bk, off + k, none⟩) hbl).trans hc0
      have HL := Lib.hid (pre_long (n := n) hlt)
      have HE := Lib.hid (pre_end (n := n) hlt)
      have HO := Lib.hid (pre_short (n := n) hlt)
      have HS := Lib.hid (pre_step (n := n) hlt)
      have hcc : b[k].toNat < 256 := UInt8.toNat_lt _
      generalize b[k].toNat = c at *
      by_cases h63 : 63 < c
      · go_wp2_with fail
        refine (fail 30 _).mono ?_
        rintro e w' ⟨rfl, rfl⟩
        go_wp2_with fail
        exact ⟨rfl, hbel, .inr ⟨by rw [HP.out, HL.out h63], rfl⟩⟩
      · by_cases h0 : c = 0
        · have h0b : ((c : Int) == 0) = true := by simp [h0]
          have H0 := Lib.hid h0
          clear h0
          go_wp2_with fail
          go_ret2
          exact ⟨hbel, .inl ⟨n, k + 1, _, by rw [HP.out, HE.out H0.out], rfl, hown⟩⟩
        · have h0b : ((c : Int) == 0) = false := by simp [h0]
          by_cases h2 : k + 1 + c ≤ b.length
          · have hlab : ((b.drop (k + 1)).take c).length = c := by rw [List.length_take, List.length_drop]; omega
            have hcs := ((hc.below (hbel.trans (Below.refl _ _))).drop' (k + 1) cap (by simpa using hcap)).take' c
            rw [if_neg (by omega), ← List.map_drop, ← List.map_take] at hcs
            have hcv : (convert 28 9 (.slice (some ⟨bk, off + (k + 1), none⟩) c (cap - (k + 1)))).run Tryz.prog wr = .ok (.string (strB ((b.drop (k + 1)).take c))) wr := by
              have := run_str (P := Tryz.prog) wr Tryz.underlying28 Tryz.underlying5 Tryz.underlying9 (cap - (k + 1)) hcs
              rw [hlab] at this
              exact this
            have HS2 := Lib.hid (HS.out h0 h63 h2)
            have HLab := Lib.hid hlab
            clear hlab hcs HS HO HL HE
            generalize (b.drop (k + 1)).take c = lab at *
            go_wp2_with (first | (at_builtin; refine wpList_push2 hown hbel.size [strV lab] rfl (by simp [strV, Value.oneCell']) hi hz0 hz1 hz2 rfl (by decide) rfl _ _ 26 Tryz.underlying26 rfl rfl rfl (by unfold maxLen; omega) (by omega) ?_; intro v4 w4 hown4 hbw4; have hbw5 := hbel.trans hbw4))
            refine ⟨⟨k + 1 + c, n ++ [lab], h2, by go_num, by simp; omega, by rw [List.map_append, List.length_append]; exact hown4, by rw [HP.out, HS2.out], hbw5⟩, by simp [intOf]; omega⟩
          · go_wp2_with fail
            refine (fail 30 _).mono ?_
            rintro e w' ⟨rfl, rfl⟩
            go_wp2_with fail
            exact ⟨rfl, hbel, .inr ⟨by rw [HP.out, HO.out h0 h2], rfl⟩⟩
    · have hkl : k = b.length := by omega
      have HO : Hid (pre n k (parse (b.drop k)) = none) := Lib.hid (pre_out hlt)
      clear hkl
      go_wp2_with fail
      refine (fail 30 _).mono ?_
      rintro e w' ⟨rfl, rfl⟩
      go_wp2_with fail
      exact ⟨rfl, hbel, .inr ⟨by rw [HP.out, HO.out], rfl⟩⟩
end Nm
end Go.Proofs.YthogembgndkmpaaGreatDoor

/- Contracts of package name: what catches, Open. -/
namespace Go.Proofs.YthogembgndkmpaaGreatDoor
open Go.RowKit
namespace Nm
theorem three {w : World} {a b c : Nat} {x0 x1 x2 : Value} (h0 : w.cell? ⟨a, 0, none⟩ = some x0) (h1 : w.cell? ⟨b, 0, none⟩ = some x1) (h2 : w.cell? ⟨c, 0, none⟩ = some x2) (hab : a < b) (hbc : b < c) (v0 v1 v2 : Value) (o : Obj) {w' : World}
    (hw : w' = ((((w.setCell ⟨a, 0, none⟩ v0).setCell ⟨b, 0, none⟩ v1).setCell ⟨c, 0, none⟩ v2).alloc o).drew) :
    w'.cell? ⟨a, 0, none⟩ = some v0 ∧ w'.cell? ⟨b, 0, none⟩ = some v1 ∧ w'.cell? ⟨c, 0, none⟩ = some v2 ∧ (a ≤ w.heap.size → Below a w w') := by
  have a1 := setc_same (v := v0) h0
  have b1 := (setc_far (o := 0) (v := v0) (show a ≠ b by omega)).trans h1
  have c1 := (setc_far (o := 0) (v := v0) (show a ≠ c by omega)).trans h2
  have a2 := (setc_far (o := 0) (v := v1) (show b ≠ a by omega)).trans a1
  have b2 := setc_same (v := v1) b1
  have c2 := (setc_far (o := 0) (v := v1) (show b ≠ c by omega)).trans c1
  have a3 := (setc_far (o := 0) (v := v2) (show c ≠ a by omega)).trans a2
  have b3 := (setc_far (o := 0) (v := v2) (show c ≠ b by omega)).trans b2
  have c3 := setc_same (v := v2) c2
  subst hw
  exact ⟨alloc_cell o a3, alloc_cell o b3, alloc_cell o c3, fun hs => (((((Below.refl _ _).setCell (p := ⟨a, 0, none⟩) (Nat.le_refl _) _).setCell (p := ⟨b, 0, none⟩) (show a ≤ b by omega) _).setCell (p := ⟨c, 0, none⟩) (show a ≤ c by omega) _).alloc (by simp [World.setCell]; omega) o).drew⟩
theorem three_d {w : World} {a b c : Nat} {x0 x1 x2 : Value} (h0 : w.cell? ⟨a, 0, none⟩ = some x0) (h1 : w.cell? ⟨b, 0, none⟩ = some x1) (h2 : w.cell? ⟨c, 0, none⟩ = some x2) (hab : a < b) (hbc : b < c) (v0 v1 v2 : Value) {w' : World}
    (hw : w' = (((w.setCell ⟨a, 0, none⟩ v0).setCell ⟨b, 0, none⟩ v1).setCell ⟨c, 0, none⟩ v2).drew) :
    w'.cell? ⟨a, 0, none⟩ = some v0 ∧ w'.cell? ⟨b, 0, none⟩ = some v1 ∧ w'.cell? ⟨c, 0, none⟩ = some v2 ∧ Kept (fun k => a ≤ k ∧ k ≤ c) w w' := by
  have a1 := setc_same (v := v0) h0
  have b1 := (setc_far (o := 0) (v := v0) (show a ≠ b by omega)).trans h1
  have c1 := (setc_far (o := 0) (v := v0) (show a ≠ c by omega)).trans h2
  have a2 := (setc_far (o := 0) (v := v1) (show b ≠ a by omega)).trans a1
  have b2 := setc_same (v := v1) b1
  have c2 := (setc_far (o := 0) (v := v1) (show b ≠ c by omega)).trans c1
  have a3 := (setc_far (o := 0) (v := v2) (show c ≠ a by omega)).trans a2
  have b3 := (setc_far (o := 0) (v := v2) (show c ≠ b by omega)).trans b2
  have c3 := setc_same (v := v2) c2
  subst hw
  exact ⟨a3, b3, c3, ((((Kept.refl _ _).setCell (p := ⟨a, 0, none⟩) (fun _ => (show a ≤ a ∧ a ≤ c by omega)) _).setCell (p := ⟨b, 0, none⟩) (fun _ => (show a ≤ b ∧ b ≤ c by omega)) _).setCell (p := ⟨c, 0, none⟩) (fun _ => (show a ≤ c ∧ c ≤ c by omega)) _).drew⟩
theorem asserted_fail (er : Int) (W : World) : (Instr.typeAssert (.iface 199 (.agg #[.int .i64 er])) 20 199 true).run Tryz.prog W = .ok (.tuple #[.agg #[.int .i64 er], .bool true]) W := by kernel_rfl
set_option maxRecDepth 100000 in
set_option maxHeartbeats 1000000 in
theorem caught1_panic (a b c : Nat) (x0 x1 x2 : Value) (er : Int) (w : World) (h0 : w.cell? ⟨a, 0, none⟩ = some x0) (h1 : w.cell? ⟨b, 0, none⟩ = some x1) (h2 : w.cell? ⟨c, 0, none⟩ = some x2)
    (f0 : w.frozen? ⟨a, 0, none⟩ = false) (f1 : w.frozen? ⟨b, 0, none⟩ = false) (f2 : w.frozen? ⟨c, 0, none⟩ = false) (l0 : a < w.heap.size) (l1 : b < w.heap.size) (l2 : c < w.heap.size) (hab : a < b) (hbc : b < c) :
    CallsD Tryz.prog 155 #[.pointer (some ⟨a, 0, none⟩), .pointer (some ⟨b, 0, none⟩), .pointer (some ⟨c, 0, none⟩)] (.panicking (failP er)) w fun e u' w' =>
      e = .returned (.tuple #[]) ∧ u' = .panicking [{ v := .iface 199 (.agg #[.int .i64 er]), recovered := true }] ∧
      w'.cell? ⟨a, 0, none⟩ = some (.slice none 0 0) ∧ w'.cell? ⟨b, 0, none⟩ = some (.int .i64 0) ∧ w'.cell? ⟨c, 0, none⟩ = some (.int .i64 er) ∧ Below a w w' := by
  have hta := asserted_fail er
  refine callsD_of_wpS Tryz.func155 rfl fun c₀ cs hu => ?_
  apply wpS_seq
  apply wpS_region
  simp [wpOpsS, go_sem, recoverD, failP, hu, Tryz.ntmps155, Exit.thenS]
  refine wpS_of_wp ?_
  simp only [Array.replicate_succ, Array.replicate_zero, List.push_toArray, List.append_toArray, List.nil_append, List.cons_append, List.setIfInBounds_toArray, List.set_cons_succ, List.set_cons_zero]
  have n0 : ¬ a = w.heap.size := by omega
  have n1 : ¬ b = w.heap.size := by omega
  have n2 : ¬ c = w.heap.size := by omega
  have m0 : ¬ w.heap.size = a := by omega
  have m1 : ¬ w.heap.size = b := by omega
  have m2 : ¬ w.heap.size = c := by omega
  have d0 : ¬ a = b := by omega
  have d1 : ¬ b = a := by omega
  have d2 : ¬ a = c := by omega
  have d3 : ¬ c = a := by omega
  have d4 : ¬ b = c := by omega
  have d5 : ¬ c = b := by omega
  go_wp2_with fail
  go_region
  obtain ⟨z0, z1, z2, z3⟩ := three h0 h1 h2 hab hbc (.slice none 0 0) (.int .i64 0) (.int .i64 er) (.cells #[.int .i64 er] 199) rfl
  exact ⟨rfl, _, rfl, _, results_none rfl _ _ _, rfl, rfl, z0, z1, z2, z3 (by omega)⟩
theorem caught1_idle (a b c : Addr) (w : World) : CallsD Tryz.prog 155 #[.pointer (some a), .pointer (some b), .pointer (some c)] .returning w fun e u' w' => e = .returned (.tuple #[]) ∧ u' = .returning ∧ w' = w := by
  refine callsD_of_wpS Tryz.func155 rfl fun c₀ cs hu => ?_
  apply wpS_seq
  apply wpS_region
  simp [wpOpsS, go_sem, recoverD, hu, Tryz.ntmps155, Exit.thenS]
  refine wpS_of_wp ?_
  simp only [Array.replicate_succ, Array.replicate_zero, List.push_toArray, List.append_toArray, List.nil_append, List.cons_append, List.setIfInBounds_toArray, List.set_cons_succ, List.set_cons_zero]
  go_wp2_with fail
  exact ⟨rfl, .returning, by cases c₀; simp_all, _, results_none rfl _ _ _, rfl, rfl, rfl⟩
set_option maxRecDepth 100000 in
set_option maxHeartbeats 1000000 in
theorem caughtO (p : Addr) (A : Option Addr) (b : Lab) (cap : Nat) (w : World) (hp : w.cell? p = some (.slice A b.length cap)) (hpb : p.block < w.heap.size) (hc : Cs w A (b.map byteV)) (hb : b.length ≤ 100000) (hcap : b.length ≤ cap) (hcap2 : cap ≤ maxLen) :
    Calls Tryz.prog 150 #[.func (.func 151) #[] #[.pointer (some p)]] w fun e w' => Below w.heap.size w w' ∧
      ∃ v, e = .returned (.tuple #[v, .int .i64 (openK b), .int .i64 (openE b)]) ∧ w'.ownsRow w.heap.size 9 1 v (openN b).length ((openN b).map strV) := by
  have hmf : ∀ (fn : Fn) (first cap : Array Value) (w : World), (Instr.makeFunc fn first cap).run Tryz.prog w = .ok (.func fn first cap) w := fun _ _ _ _ => rfl
  go_enter_defers Tryz.func150, Tryz.ntmps150
  go_wp2_with fail
  generalize hw3 : ((w.alloc (Obj.cells #[Value.slice none 0 0] 26)).alloc (Obj.cells #[Value.int IntKind.i64 0] 3)).alloc (Obj.cells #[Value.int IntKind.i64 0] 90) = w3
  have hb3 : Below w.heap.size w w3 := by rw [← hw3]; exact (((Below.refl _ _).alloc (Nat.le_refl _) _).alloc (by simp) _).alloc (by simp; omega) _
  have hsz3 : w3.heap.size = w.heap.size + 3 := by rw [← hw3]; simp
  have c0 : w3.cell? ⟨w.heap.size, 0, none⟩ = some (.slice none 0 0) := by rw [← hw3]; simp [go_sem]
  have c1 : w3.cell? ⟨w.heap.size + 1, 0, none⟩ = some (.int .i64 0) := by rw [← hw3]; simp [go_sem]
  have c2 : w3.cell? ⟨w.heap.size + 1 + 1, 0, none⟩ = some (.int .i64 0) := by rw [← hw3]; simp [go_sem]
  have f0 : w3.frozen? ⟨w.heap.size, 0, none⟩ = false := by rw [← hw3]; simp [go_sem]
  have f1 : w3.frozen? ⟨w.heap.size + 1, 0, none⟩ = false := by rw [← hw3]; simp [go_sem]
  have f2 : w3.frozen? ⟨w.heap.size + 1 + 1, 0, none⟩ = false := by rw [← hw3]; simp [go_sem]
  clear hw3
  refine (Open1 p A b cap w3 ((hb3.cell hpb).trans hp) (by omega) (hc.below hb3) (by omega) hcap hcap2).mono ?_
  rintro e w4 ⟨hb4, hcase⟩
  have d0 := (bcl hb4 (by omega)).trans c0
  have d1 := (bcl hb4 (by omega)).trans c1
  have d2 := (bcl hb4 (by omega)).trans c2
  have g0 := (bfr hb4 (by omega)).trans f0
  have g1 := (bfr hb4 (by omega)).trans f1
  have g2 := (bfr hb4 (by omega)).trans f2
  have hsz4 := hb4.size
  have hb5 : Below w.heap.size w w4 := hb3.trans (hb4.mono (by omega))
  clear c0 c1 c2 f0 f1 f2
  rcases hcase with ⟨n, k, v, hpar, rfl, hown⟩ | ⟨hpar, rfl⟩
  · have HP := Lib.hid hpar
    have HN := Lib.hid (nameE_parse hpar)
    obtain ⟨q1, q2, q3, q4⟩ := parse_some b.length b (Nat.le_refl _) hpar
    have hfew : Few n := ⟨by omega, fun l hl => by have := (q3 l hl).2; omega⟩
    clear hpar q2 q3
    obtain ⟨A5, c5, rfl, _, hcs5⟩ := Cs.of_own hown
    have m0 : ¬ w.heap.size = w.heap.size + 1 := by omega
    go_wp2_with fail
    generalize hw6 : (w4.setCell { block := w.heap.size, off := 0 } (Value.slice A5 n.length c5)).setCell { block := w.heap.size + 1, off := 0 } (Value.int IntKind.i64 ↑k) = w6
    have hb6 : Below w.heap.size w4 w6 := by rw [← hw6]; exact ((Below.refl _ _).setCell (p := ⟨w.heap.size, 0, none⟩) (Nat.le_refl _) _).setCell (p := ⟨w.heap.size + 1, 0, none⟩) (Nat.le_succ _) _
    have hk6 : Kept (fun k => k < w3.heap.size) w4 w6 := by rw [← hw6]; exact ((Kept.refl _ _).setCell (p := ⟨w.heap.size, 0, none⟩) (fun _ => (show w.heap.size < w3.heap.size by omega)) _).setCell (p := ⟨w.heap.size + 1, 0, none⟩) (fun _ => (show w.heap.size + 1 < w3.heap.size by omega)) _
    have e0 : w6.cell? ⟨w.heap.size, 0, none⟩ = some (.slice A5 n.length c5) := by rw [← hw6]; simp [go_sem, d0, d1]
    have e1 : w6.cell? ⟨w.heap.size + 1, 0, none⟩ = some (.int .i64 k) := by rw [← hw6]; simp [go_sem, d0, d1]
    have e2 : w6.cell? ⟨w.heap.size + 1 + 1, 0, none⟩ = some (.int .i64 0) := by rw [← hw6]; simp [go_sem, d0, d1, d2]
    have k0 : w6.frozen? ⟨w.heap.size, 0, none⟩ = false := by rw [← hw6]; simp [go_sem, g0]
    have k1 : w6.frozen? ⟨w.heap.size + 1, 0, none⟩ = false := by rw [← hw6]; simp [go_sem, g1]
    have k2 : w6.frozen? ⟨w.heap.size + 1 + 1, 0, none⟩ = false := by rw [← hw6]; simp [go_sem, g2]
    have hown6 : w6.ownsRow w3.heap.size 9 1 (.slice A5 n.length c5) n.length (n.map strV) := Kept.row hown hk6 (fun k hk => by have := (hown.lt k hk).1; omega)
    obtain ⟨_, _, hx1, _, hcs6⟩ := Cs.of_own hown6
    cases hx1
    have hb7 := hb5.trans hb6
    have hs6 := hk6.size
    clear hw6 hcs5 d0 d1 d2 g0 g1 g2 hk6
    refine (Check A5 n c5 w6 hcs6 hfew).mono ?_
    rintro e w' ⟨rfl, rfl⟩
    have n0 : ¬ w.heap.size + 1 = w.heap.size := by omega
    have n1 : ¬ w.heap.size + 1 + 1 = w.heap.size := by omega
    have n2 : ¬ w.heap.size = w.heap.size + 1 + 1 := by omega
    have n3 : ¬ w.heap.size + 1 + 1 = w.heap.size + 1 := by omega
    have n4 : ¬ w.heap.size + 1 = w.heap.size + 1 + 1 := by omega
    by_cases h5 : 255 < k
    · have e31 : nameE n = 31 := by rw [HN.out, if_pos h5]
      have H1 : Hid (openK b = 0 ∧ openE b = 31 ∧ openN b = []) := Lib.hid (by unfold openK openE openN; rw [HP.out]; simp [h5])
      rw [e31]
      clear e31 HN HP
      go_wp2_with fail
      refine (fail 31 _).mono ?_
      rintro e w' ⟨rfl, rfl⟩
      go_wp2_with fail
      refine leaves_cons (f := 155) (args := #[.pointer (some ⟨w.heap.size, 0, none⟩), .pointer (some ⟨w.heap.size + 1, 0, none⟩), .pointer (some ⟨w.heap.size + 1 + 1, 0, none⟩)]) (by simp) (by simp [go_sem]) ?_
      refine (caught1_panic w.heap.size (w.heap.size + 1) (w.heap.size + 1 + 1) _ _ _ 31 w6 e0 e1 e2 k0 k1 k2 (by omega) (by omega) (by omega) (by omega) (by omega)).mono ?_
      rintro e u' w9 ⟨rfl, rfl, z0, z1, z2, hb9⟩
      simp [Leaves, settle, results, Tryz.results150, go_sem, z0, z1, z2]
      refine ⟨hb7.trans hb9, ?_⟩
      rw [H1.out.1, H1.out.2.1, H1.out.2.2]
      exact ⟨_, ⟨rfl, rfl, rfl⟩, World.ownsRow_nil _ _ _ _⟩
    · have e0' : nameE n = 0 := by rw [HN.out, if_neg h5]
      have H1 : Hid (openK b = k ∧ openE b = 0 ∧ openN b = n) := Lib.hid (by unfold openK openE openN; rw [HP.out]; simp [h5])
      rw [e0']
      clear e0' HN HP
      go_wp2_with fail
      go_region
      go_wp2_with fail
      generalize hw8 : (((w6.setCell { block := w.heap.size, off := 0 } (Value.slice A5 n.length c5)).setCell { block := w.heap.size + 1, off := 0 } (Value.int IntKind.i64 ↑k)).setCell { block := w.heap.size + 1 + 1, off := 0 } (Value.int IntKind.i64 0)).drew = w8
      obtain ⟨z0, z1, z2, hk8⟩ := three_d e0 e1 e2 (by omega) (by omega) _ _ _ hw8.symm
      clear hw8
      have hown8 := Kept.row hown6 hk8 (fun k hk => by have := (hown.lt k hk).1; omega)
      have hb8 := hk8.below (B := w.heap.size) (by omega) (fun k hk => by omega)
      refine leaves_cons (f := 155) (args := #[.pointer (some ⟨w.heap.size, 0, none⟩), .pointer (some ⟨w.heap.size + 1, 0, none⟩), .pointer (some ⟨w.heap.size + 1 + 1, 0, none⟩)]) (by simp) (by simp [go_sem]) ?_
      refine (caught1_idle _ _ _ _).mono ?_
      rintro e u' w9 ⟨rfl, rfl, rfl⟩
      simp [Leaves, settle, results, Tryz.results150, go_sem, z0, z1, z2]
      refine ⟨hb7.trans hb8, ?_⟩
      rw [H1.out.1, H1.out.2.1, H1.out.2.2]
      exact ⟨_, ⟨rfl, rfl, rfl⟩, own_base hown8 (by omega)⟩
  · have H1 : Hid (openK b = 0 ∧ openE b = 30 ∧ openN b = []) := Lib.hid (by unfold openK openE openN; rw [hpar]; exact ⟨rfl, rfl, rfl⟩)
    clear hpar
    go_wp2_with fail
    refine leaves_cons (f := 155) (args := #[.pointer (some ⟨w.heap.size, 0, none⟩), .pointer (some ⟨w.heap.size + 1, 0, none⟩), .pointer (some ⟨w.heap.size + 1 + 1, 0, none⟩)]) (by simp) (by simp [go_sem]) ?_
    refine (caught1_panic w.heap.size (w.heap.size + 1) (w.heap.size + 1 + 1) _ _ _ 30 w4 d0 d1 d2 g0 g1 g2 (by omega) (by omega) (by omega) (by omega) (by omega)).mono ?_
    rintro e u' w5 ⟨rfl, rfl, z0, z1, z2, hb6⟩
    simp [Leaves, settle, results, Tryz.results150, go_sem, z0, z1, z2]
    refine ⟨hb5.trans hb6, ?_⟩
    rw [H1.out.1, H1.out.2.1, H1.out.2.2]
    exact ⟨_, ⟨rfl, rfl, rfl⟩, World.ownsRow_nil _ _ _ _⟩
/-- name.Open -/
theorem Open (A : Option Addr) (b : Lab) (cap : Nat) (w : World) (hc : Cs w A (b.map byteV)) (hb : b.length ≤ 100000) (hcap : b.length ≤ cap) (hcap2 : cap ≤ maxLen) :
    Calls Tryz.prog 138 #[.slice A b.length cap] w fun e w' => Below w.heap.size w w' ∧
      ∃ v, e = .returned (.tuple #[v, .int .i64 (openK b), .int .i64 (openE b)]) ∧ w'.ownsRow w.heap.size 9 1 v (openN b).length ((openN b).map strV) := by
  have hmf : ∀ (fn : Fn) (first cap : Array Value) (w : World), (Instr.makeFunc fn first cap).run Tryz.prog w = .ok (.func fn first cap) w := fun _ _ _ _ => rfl
  go_enter Tryz.func138, Tryz.ntmps138
  go_wp2_with fail
  have hb1 : Below w.heap.size w (w.alloc (.cells #[.slice A b.length cap] 28)) := (Below.refl _ _).alloc (Nat.le_refl _) _
  refine (caughtO ⟨w.heap.size, 0, none⟩ A b cap _ (by simp [go_sem]) (by simp) (hc.below hb1) hb hcap hcap2).mono ?_
  rintro e w2 ⟨hb2, v, rfl, hown⟩
  go_wp2_with fail
  go_ret3
  exact ⟨hb1.trans (hb2.mono (by simp)), v, rfl, own_base hown (by simp)⟩
end Nm
end Go.Proofs.YthogembgndkmpaaGreatDoor

/- What a record's data say: plain Lean, no program in sight (all types but NSEC3). -/
namespace Go.Proofs.YthogembgndkmpaaGreatDoor
open Go.RowKit
namespace Nm
def openO (b : Lab) : Option (List Lab × Nat) := match parse b with
  | none => none
  | some (n, k) => if 255 < k then none else some (n, k)
theorem openO_some {b : Lab} {n : List Lab} {k : Nat} (h : openO b = some (n, k)) : parse b = some (n, k) ∧ k ≤ 255 ∧ openE b = 0 ∧ openN b = n ∧ openK b = k := by
  unfold openO at h
  unfold openE openN openK
  cases hp : parse b with
  | none => rw [hp] at h; cases h
  | some p =>
    obtain ⟨n', k'⟩ := p
    rw [hp] at h
    simp only at h ⊢
    split at h
    · cases h
    · rename_i h1
      cases h
      rw [if_neg h1, if_neg h1, if_neg h1]
      exact ⟨rfl, by omega, rfl, rfl, rfl⟩
theorem openO_none {b : Lab} (h : openO b = none) : openE b ≠ 0 ∧ openN b = [] ∧ openK b = 0 := by
  unfold openO at h
  unfold openE openN openK
  cases hp : parse b with
  | none => exact ⟨by decide, rfl, rfl⟩
  | some p =>
    obtain ⟨n', k'⟩ := p
    rw [hp] at h
    simp only at h ⊢
    split at h
    · rename_i h1
      rw [if_pos h1, if_pos h1, if_pos h1]
      exact ⟨by decide, rfl, rfl⟩
    · cases h
theorem openO_le {b : Lab} {n : List Lab} {k : Nat} (h : openO b = some (n, k)) : k ≤ b.length ∧ wire n = b.take k ∧ (∀ l ∈ n, 1 ≤ l.length ∧ l.length ≤ 63) ∧ n.length < k := by
  obtain ⟨h1, _⟩ := openO_some h
  exact parse_some b.length b (Nat.le_refl _) h1
/-- a name and nothing behind it -/
def wholeB (b : Lab) : Bool := match openO b with
  | none => false
  | some (_, k) => k == b.length
/-- texts, each behind its length -/
def textsB : Nat → Lab → Bool
  | 0, _ => false
  | _ + 1, [] => true
  | f + 1, c :: r => decide (c.toNat ≤ r.length) && textsB f (r.drop c.toNat)
/-- a SOA's names, how many bytes they take -/
def soaO (b : Lab) : Option (List Lab × List Lab × Nat) := match openO b with
  | none => none
  | some (m, i) => match openO (b.drop i) with
    | none => none
    | some (x, k) => if b.length = i + k + 20 then some (m, x, i + k) else none
/-- data of a type -/
def chk (t : Int) (b : Lab) : Bool := decide (b.length ≤ 8192) &&
  (if t = 1 then b.length == 4 else if t = 28 then b.length == 16 else if t = 2 ∨ t = 5 then wholeB b else if t = 15 then decide (2 ≤ b.length) && wholeB (b.drop 2)
   else if t = 6 then (soaO b).isSome else if t = 16 then !b.isEmpty && textsB (b.length + 1) b else if t = 43 then decide (5 ≤ b.length)
   else if t = 46 then decide (18 ≤ b.length) && (openO (b.drop 18)).isSome else if t = 48 then decide (4 ≤ b.length)
   else if t = 51 then decide (5 ≤ b.length) && b.length == 5 + (b.getD 4 0).toNat else true)
/-- data with its names in small letters -/
def canonO (t : Int) (b : Lab) : Lab :=
  if t = 2 ∨ t = 5 then wire (lower (openN b)) else if t = 15 then b.take 2 ++ wire (lower (openN (b.drop 2)))
  else if t = 6 then (match soaO b with | none => [] | some (m, x, k) => wire (lower m) ++ wire (lower x) ++ b.drop k)
  else if t = 46 then b.take 18 ++ wire (lower (openN (b.drop 18))) ++ b.drop (18 + openK (b.drop 18)) else b
/-- data by which it is held against others -/
def canonD (t : Int) (b : Lab) : Lab := if chk t b then canonO t b else b
/-- numbers, the highest byte first -/
def numOf : Lab → Nat → Nat
  | [], acc => acc
  | c :: r, acc => numOf r ((acc * 256 + c.toNat) % 4294967296)
end Nm
end Go.Proofs.YthogembgndkmpaaGreatDoor

/- Contracts of package rdata: must, a reader's steps. -/
namespace Go.Proofs.YthogembgndkmpaaGreatDoor
open Go.RowKit
namespace Nm
theorem mixed : Tryz.prog.follows .mixedOrders = true := by kernel_rfl
def mustP : List PanicEntry := [{ v := .iface 177 (.agg #[]), recovered := false }]
theorem must_yes (w : World) : Calls Tryz.prog 131 #[.bool true] w fun r w' => r = .returned (.tuple #[]) ∧ w = w' := by
  go_enter Tryz.func131, Tryz.ntmps131
  go_wp2_with fail
  go_end0
  exact ⟨rfl, rfl⟩
theorem must_no (w : World) : Calls Tryz.prog 131 #[.bool false] w fun r w' => r = .panicked mustP ∧ w = w' := by
  go_enter Tryz.func131, Tryz.ntmps131
  go_wp2_with fail
  exact ⟨rfl, rfl, rfl⟩
/-- a reader: bytes, how far they were read -/
structure Rdr (w : World) (r : Nat) (A : Option Addr) (l : Lab) (cap k : Nat) : Prop where
  c0 : w.cell? ⟨r, 0, none⟩ = some (.slice A l.length cap)
  c1 : w.cell? ⟨r, 1, none⟩ = some (.int .i64 k)
  f1 : w.frozen? ⟨r, 1, none⟩ = false
  hr : r < w.heap.size
  cs : Cs w A (l.map byteV)
  ne : ∀ a, A = some a → l.map byteV ≠ [] → a.block ≠ r
  len : l.length ≤ 100000
  cap1 : l.length ≤ cap
  cap2 : cap ≤ maxLen
  le : k ≤ l.length
theorem Rdr.kept {S : Nat → Prop} {w w' : World} {r : Nat} {A : Option Addr} {l : Lab} {cap k : Nat} (h : Rdr w r A l cap k) (hk : Kept S w w') (hr : ¬ S r) (hA : ∀ a, A = some a → l.map byteV ≠ [] → ¬ S a.block) : Rdr w' r A l cap k :=
  ⟨(hk.cell h.hr hr).trans h.c0, (hk.cell h.hr hr).trans h.c1, (hk.frozen h.hr hr).trans h.f1, Nat.lt_of_lt_of_le h.hr hk.size, Kept.cs h.cs hk hA, h.ne, h.len, h.cap1, h.cap2, h.le⟩
theorem Rdr.ext {w w' : World} {r : Nat} {A : Option Addr} {l : Lab} {cap k : Nat} (h : Rdr w r A l cap k) (hk : Below w.heap.size w w') : Rdr w' r A l cap k := h.kept (Kept.of_ext hk) (fun h => h) (fun _ _ _ h => h)
theorem Rdr.move {w : World} {r : Nat} {A : Option Addr} {l : Lab} {cap k : Nat} (h : Rdr w r A l cap k) {k' : Nat} (hk : k' ≤ l.length) : Rdr (w.setCell ⟨r, 1, none⟩ (.int .i64 k')) r A l cap k' := by
  have hkp : Kept (fun b => b = r) w (w.setCell ⟨r, 1, none⟩ (.int .i64 k')) := Kept.setCell (S := fun b => b = r) (Kept.refl _ _) (p := ⟨r, 1, none⟩) (fun _ => rfl) _
  refine ⟨?_, setc_same h.c1, setc_frozen.trans h.f1, by simpa [World.setCell] using h.hr, Kept.cs h.cs hkp h.ne, h.ne, h.len, h.cap1, h.cap2, hk⟩
  rw [World.cell?_setCell_other _ _ _ _ (by simp)]
  exact h.c0
theorem Rdr.drew {w : World} {r : Nat} {A : Option Addr} {l : Lab} {cap k : Nat} (h : Rdr w r A l cap k) : Rdr w.drew r A l cap k := h.kept ((Kept.refl (fun _ => False) _).drew) (fun h => h) (fun _ _ _ h => h)
/-- what take hands over: a piece -/
def piece (A : Option Addr) (cap k : Nat) : Option Addr := if cap = k then A else A.map (fun x => x.add k)
theorem piece_block {A : Option Addr} {cap k : Nat} {a : Addr} (h : piece A cap k = some a) : ∃ b, A = some b ∧ b.block = a.block := by
  unfold piece at h
  split at h
  · exact ⟨a, h, rfl⟩
  · cases A with
    | none => cases h
    | some b => simp at h; exact ⟨b, rfl, by rw [← h]; obtain ⟨bl, off, sp⟩ := b; simp only [Addr.add]; split <;> rfl⟩
set_option maxRecDepth 100000 in
set_option maxHeartbeats 1000000 in
theorem take_yes (r : Nat) (A : Option Addr) (l : Lab) (cap k n : Nat) (w : World) (h : Rdr w r A l cap k) (hn : k + n ≤ l.length) :
    Calls Tryz.prog 107 #[.pointer (some ⟨r, 0, none⟩), .int .i64 n] w fun e w' =>
      e = .returned (.slice (piece A cap k) n (cap - k)) ∧ Rdr w' r A l cap (k + n) ∧ Kept (fun b => b = r) w w' := by
  have c0 := h.c0
  have c1 := h.c1
  have f1 := h.f1
  have hlen := h.len
  have hcap := h.cap1
  have hcap2 := h.cap2
  unfold maxLen at hcap2
  have hk := h.le
  have hwr : IntKind.i64.wrap ((l.length : Int) - k) = (l.length : Int) - k := IntWalk.i64_in _ (by omega)
  have hle : decide ((n : Int) ≤ (l.length : Int) - k) = true := by simp; omega
  have hks : ((k : Int) + n - n) = k := by omega
  have hmv := h.move (k' := k + n) hn
  have HM := Lib.hid hmv
  have H := Lib.hid h
  clear h hmv
  go_enter Tryz.func107, Tryz.ntmps107
  go_wp2_with fail
  go_still_tail 12, mixed
  go_wp2_with fail
  refine (must_yes _).mono ?_
  rintro e w' ⟨rfl, rfl⟩
  go_wp2_with fail
  have hM2 := HM.out
  have d0 := hM2.c0
  have d1 := hM2.c1
  have hks2 : IntKind.i64.wrap (((k + n : Nat) : Int) - n) = k := by rw [IntWalk.i64_in _ (by omega)]; omega
  clear hM2 c0 c1 f1 hwr hks
  rw [show ((k : Int) + n) = ((k + n : Nat) : Int) from by omega]
  generalize hw1 : w.setCell ⟨r, 1, none⟩ (.int .i64 ((k + n : Nat) : Int)) = w1 at *
  have hk1 : Kept (fun b => b = r) w w1 := by rw [← hw1]; exact Kept.setCell (S := fun b => b = r) (Kept.refl _ _) (p := ⟨r, 1, none⟩) (fun _ => rfl) _
  have HR : ∀ (B : Option Addr) (m c : Nat), B = piece A cap k → m = n → c = cap - k → (Ending.returned (.slice B m c) = Ending.returned (.slice (piece A cap k) n (cap - k)) ∧ Rdr w1.drew.drew r A l cap (k + n) ∧ Kept (fun b => b = r) w w1.drew.drew) := fun B m c h1 h2 h3 => by
    subst h1 h2 h3; exact ⟨rfl, HM.out.drew.drew, hk1.drew.drew⟩
  have HR2 := Lib.hid HR
  clear HR hw1
  unfold piece at HR2
  by_cases hck : cap = k
  · rw [if_pos hck] at HR2
    go_region
    go_wp2_with fail
    go_ret
    unfold piece
    rw [if_pos hck]
    exact HR2.out _ _ _ rfl (by omega) (by omega)
  · rw [if_neg hck] at HR2
    cases A with
    | none =>
      go_region
      go_wp2_with fail
      go_ret
      unfold piece
      rw [if_neg hck]
      exact HR2.out _ _ _ rfl (by omega) (by omega)
    | some a =>
      go_region
      go_wp2_with fail
      go_ret
      unfold piece
      rw [if_neg hck]
      exact HR2.out _ _ _ rfl (by omega) (by omega)
set_option maxRecDepth 100000 in
set_option maxHeartbeats 1000000 in
theorem take_no (r : Nat) (A : Option Addr) (l : Lab) (cap k n : Nat) (w : World) (h : Rdr w r A l cap k) (hn : ¬ k + n ≤ l.length) (hn2 : n ≤ 100000) :
    Calls Tryz.prog 107 #[.pointer (some ⟨r, 0, none⟩), .int .i64 n] w fun e w' =>
      e = .panicked mustP ∧ Kept (fun b => b = r) w w' := by
  have c0 := h.c0
  have c1 := h.c1
  have hlen := h.len
  have hk := h.le
  have hwr : IntKind.i64.wrap ((l.length : Int) - k) = (l.length : Int) - k := IntWalk.i64_in _ (by omega)
  have hle : decide ((n : Int) ≤ (l.length : Int) - k) = false := by simp; omega
  clear h
  go_enter Tryz.func107, Tryz.ntmps107
  go_wp2_with fail
  go_still_tail 12, mixed
  go_wp2_with fail
  refine (must_no _).mono ?_
  rintro e w' ⟨rfl, rfl⟩
  go_wp2_with fail
  exact ⟨rfl, rfl, (Kept.refl _ _).drew⟩
end Nm
end Go.Proofs.YthogembgndkmpaaGreatDoor

/- Contracts of package rdata: a reader's numbers, names, texts, what is left. -/
namespace Go.Proofs.YthogembgndkmpaaGreatDoor
open Go.RowKit
namespace Nm
theorem numOf_lt : ∀ (l : Lab) (a : Nat), a < 4294967296 → numOf l a < 4294967296
  | [], a, h => h
  | c :: r, a, _ => numOf_lt r _ (Nat.mod_lt _ (by omega))
theorem numOf_snoc : ∀ (l : Lab) (c : UInt8) (a : Nat), numOf (l ++ [c]) a = (numOf l a * 256 + c.toNat) % 4294967296
  | [], _, _ => rfl
  | d :: l, c, a => numOf_snoc l c _
theorem or8 (N x : Nat) (hx : x < 256) : bits BinOp.or IntKind.u32 ((N : Int) * 256 % 4294967296) (x : Int) = (((N * 256 + x) % 4294967296 : Nat) : Int) := by
  have e : (N : Int) * 256 % 4294967296 = ((2 ^ 8 * (N % 16777216) : Nat) : Int) := by omega
  rw [e, u32_or_nat _ _ (by omega) (by omega), ← Nat.two_pow_add_eq_or_of_lt (by omega : x < 2 ^ 8)]
  omega
def NumR (p : Lab) (w : World) (o i : Value) (wr : World) : Prop := ∃ k : Nat, k ≤ p.length ∧ i = .int .i64 k ∧ o = .int .u32 (numOf (p.take k) 0 : Nat) ∧ w = wr
theorem piece_cs {w : World} {A : Option Addr} {l : Lab} {cap k n : Nat} (h : Cs w A (l.map byteV)) (hcap : l.length ≤ cap) : Cs w (piece A cap k) (((l.drop k).take n).map byteV) := by
  have := (h.drop' k cap (by simpa using hcap)).take' n
  rw [← List.map_drop, ← List.map_take] at this
  exact this
theorem piece_len {l : Lab} {k n : Nat} (hn : k + n ≤ l.length) : ((l.drop k).take n).length = n := by rw [List.length_take, List.length_drop]; omega
set_option maxRecDepth 100000 in
set_option maxHeartbeats 1000000 in
theorem num_yes (r : Nat) (A : Option Addr) (l : Lab) (cap k n : Nat) (w : World) (h : Rdr w r A l cap k) (hn : k + n ≤ l.length) :
    Calls Tryz.prog 111 #[.pointer (some ⟨r, 0, none⟩), .int .i64 n] w fun e w' =>
      e = .returned (.int .u32 (numOf ((l.drop k).take n) 0 : Nat)) ∧ Rdr w' r A l cap (k + n) ∧ Kept (fun b => b = r) w w' := by
  have hlen := h.len
  go_enter Tryz.func111, Tryz.ntmps111
  go_wp2_with fail
  refine (take_yes r A l cap k n w h hn).mono ?_
  rintro e w1 ⟨rfl, hr1, hk1⟩
  have hcs := piece_cs (k := k) (n := n) hr1.cs h.cap1
  have hpl := piece_len hn
  generalize hpp : (l.drop k).take n = p at *
  have hpe := Lib.hid hpp
  clear hpp
  generalize piece A cap k = B at *
  have HR := Lib.hid hr1
  clear hr1
  obtain rfl : p.length = n := hpl
  go_wp2_with fail
  go_loopw [5, 12] (NumR p w1) (fun _ i _ => p.length - (intOf i).toNat)
  case atStart => exact ⟨0, Nat.zero_le _, rfl, rfl, rfl⟩
  case round =>
    obtain ⟨j, hj, rfl, rfl, rfl⟩ := hrel
    have hlt0 := numOf_lt (p.take j) 0 (by omega)
    by_cases hlt : j < p.length
    · obtain ⟨bk, off, rfl, hbl, hc0⟩ := Cs.byte hcs hlt
      have HN : Hid (numOf (p.take (j + 1)) 0 = (numOf (p.take j) 0 * 256 + p[j].toNat) % 4294967296) := Lib.hid (by rw [List.take_succ_eq_append_getElem hlt, numOf_snoc])
      have hcc : p[j].toNat < 256 := UInt8.toNat_lt _
      generalize numOf (p.take j) 0 = a at *
      generalize p[j].toNat = c at *
      go_wp2_with fail
      exact ⟨⟨j + 1, by omega, by go_num, by rw [HN.out, or8 a c hcc], rfl⟩, by simp [intOf]; omega⟩
    · have hjl : j = p.length := by omega
      rw [hjl, List.take_length] at hlt0 ⊢
      clear hjl
      go_wp2_with fail
      go_ret
      exact ⟨by rw [hpe.out]; rfl, HR.out, hk1⟩
theorem num_no (r : Nat) (A : Option Addr) (l : Lab) (cap k n : Nat) (w : World) (h : Rdr w r A l cap k) (hn : ¬ k + n ≤ l.length) (hn2 : n ≤ 100000) :
    Calls Tryz.prog 111 #[.pointer (some ⟨r, 0, none⟩), .int .i64 n] w fun e w' => e = .panicked mustP ∧ Kept (fun b => b = r) w w' := by
  go_enter Tryz.func111, Tryz.ntmps111
  go_wp2_with fail
  refine (take_no r A l cap k n w h hn hn2).mono ?_
  rintro e w1 ⟨rfl, hk1⟩
  go_wp2_with fail
  exact ⟨rfl, rfl, hk1⟩
set_option maxRecDepth 100000 in
set_option maxHeartbeats 20000000 in
theorem name (r : Nat) (A : Option Addr) (l : Lab) (cap k : Nat) (w : World) (h : Rdr w r A l cap k) :
    Calls Tryz.prog 108 #[.pointer (some ⟨r, 0, none⟩)] w fun e w' => Kept (fun b => b = r) w w' ∧
      ((∃ n j v, openO (l.drop k) = some (n, j) ∧ e = .returned v ∧ Rdr w' r A l cap (k + j) ∧ w'.ownsRow w.heap.size 9 1 v n.length (n.map strV)) ∨
        (openO (l.drop k) = none ∧ e = .panicked mustP)) := by
  have c0 := h.c0
  have c1 := h.c1
  have f1 := h.f1
  have hlen := h.len
  have hcap := h.cap1
  have hcap2 := h.cap2
  unfold maxLen at hcap2
  have hk := h.le
  have hcs : Cs w (piece A cap k) ((l.drop k).map byteV) := by
    have := h.cs.drop' k cap (by simpa using hcap)
    rw [← List.map_drop] at this; exact this
  have hlk : (l.drop k).length = l.length - k := List.length_drop
  have H := Lib.hid h
  clear h
  have hcase : (openO (l.drop k) = some (openN (l.drop k), openK (l.drop k)) ∧ openE (l.drop k) = 0 ∧ k + openK (l.drop k) ≤ l.length) ∨ (openO (l.drop k) = none ∧ ¬ openE (l.drop k) = 0) := by
    cases hO : openO (l.drop k) with
    | none => exact .inr ⟨rfl, (openO_none hO).1⟩
    | some p =>
      obtain ⟨n, j⟩ := p
      obtain ⟨_, _, g1, g2, g3⟩ := openO_some hO
      have := (openO_le hO).1
      exact .inl ⟨by rw [g2, g3], g1, by rw [g3]; omega⟩
  have HC := Lib.hid hcase
  have hOp : ∀ W, Ext w W → Calls Tryz.prog 138 #[.slice (piece A cap k) (l.length - k) (cap - k)] W fun e w' => Below W.heap.size W w' ∧
      ∃ v, e = .returned (.tuple #[v, .int .i64 (openK (l.drop k)), .int .i64 (openE (l.drop k))]) ∧ w'.ownsRow W.heap.size 9 1 v (openN (l.drop k)).length ((openN (l.drop k)).map strV) := fun W hE => by
    have := Open (piece A cap k) (l.drop k) (cap - k) W (hcs.below hE) (by omega) (by omega) (by unfold maxLen; omega)
    rw [hlk] at this
    exact this
  clear hcase
  generalize openN (l.drop k) = N at *
  generalize openK (l.drop k) = K at *
  generalize openE (l.drop k) = E at *
  have HOp := Lib.hid hOp
  clear hOp hcs hlk
  go_enter Tryz.func108, Tryz.ntmps108
  go_wp2_with fail
  refine wp_region_mono mixed (by kernel_rfl) [.is (.pointer (some ⟨r, 0, none⟩)), .is (.pointer (some ⟨r, 0, none⟩)), .is (.pointer (some ⟨r, 0, none⟩)), .is (.slice A l.length cap), .is (.pointer (some ⟨r, 0, none⟩)), .is (.pointer (some ⟨r, 0, none⟩)), .is (.pointer (some ⟨r, 1, none⟩)), .is (.int .i64 k),
    .is (.slice (piece A cap k) (l.length - k) (cap - k)), .tup3 (.own w.heap.size 9 1 N.length (N.map strV)) (.is (.int .i64 K)) (.is (.int .i64 E)),
    .tup3 (.own w.heap.size 9 1 N.length (N.map strV)) (.is (.int .i64 K)) (.is (.int .i64 E)),
    .own w.heap.size 9 1 N.length (N.map strV), .is (.int .i64 K), .is (.int .i64 E),
    .own w.heap.size 9 1 N.length (N.map strV), .is (.int .i64 K), .is (.int .i64 E)] rfl ?_ ?_
  · intro i o hio vals W hE haf
    have hRW := H.out.ext hE
    have e0 := hRW.c0
    have e1 := hRW.c1
    rcases i with _ | _ | _ | _ | _ | _ | _ | _ | _ | _ | _ | _ | _ | _ | _ | _ | _ | i
    all_goals first
      | (exfalso; simp at hio; done)
      | (simp at hio; subst hio; simp [bindD, rdB, Region.binds, factAt] at haf; simp [opYield_def, yieldUpon, relAct, dstAt, Act.put, Region.wanted, go_sem, haf, e0, e1, Ext.refl, factAt, hk, piece]; done)
      | skip
    all_goals
      simp at hio
      subst hio
      simp [bindD, rdB, Region.binds, factAt] at haf
    · simp [opYield_def, yieldUpon, relAct, dstAt, Act.put, Region.wanted, go_sem, haf, factAt]
      refine (HOp.out W hE).mono fun e W' h5 => ?_
      obtain ⟨hb, v, he, ho⟩ := h5
      exact ⟨_, he, hb, Fact.tup3_mk (own_base ho hE.size) rfl rfl⟩
    all_goals
      simp [tup3_p] at haf
      obtain ⟨a, b, c, q1, q2, q3, q4⟩ := haf
      simp [opYield_def, yieldUpon, relAct, dstAt, Act.put, Region.wanted, go_sem, factAt, Ext.refl, q1, q2, q3, q4]
  · intro vals W hE hF
    simp [facts] at hF
    have hown : W.ownsRow w.heap.size 9 1 (vals 14) N.length (N.map strV) := by simp [hF]
    have hF0 := Lib.hid hF
    simp [relAct, dstAt, Act.put, hF]
    clear hF
    generalize vals 14 = v at *
    have hRW := H.out.ext hE
    have e1 := hRW.c1
    have e2 := hRW.f1
    rcases HC.out with ⟨hO, rfl, hle⟩ | ⟨hO, hne⟩
    · have HO := Lib.hid hO
      have hmv := hRW.move (k' := k + K) hle
      have HM := Lib.hid hmv
      have hbl := hRW.hr
      have hownr : ∀ W', Kept (fun b => b = r) W W' → W'.ownsRow w.heap.size 9 1 v N.length (N.map strV) := fun W' hk => Kept.row hown hk (fun b hb => by have := (hown.lt b hb).1; have := H.out.hr; omega)
      have HWr := Lib.hid hownr
      clear hO hmv hownr hRW
      go_wp2_with fail
      refine (must_yes _).mono ?_
      rintro e w' ⟨rfl, rfl⟩
      go_wp2_with fail
      rw [show ((k : Int) + K) = ((k + K : Nat) : Int) from by omega]
      have hk9 : Kept (fun b => b = r) W (W.setCell ⟨r, 1, none⟩ (.int .i64 ((k + K : Nat) : Int))) := Kept.setCell (S := fun b => b = r) (Kept.refl _ _) (p := ⟨r, 1, none⟩) (fun _ => rfl) _
      go_ret
      exact ⟨((Kept.of_ext hE).mono (fun _ _ h => h.elim)).trans hk9, .inl ⟨N, K, v, HO.out, rfl, HM.out, HWr.out _ hk9⟩⟩
    · have hneb : (E == 0) = false := by simpa using hne
      clear hRW
      go_wp2_with fail
      refine (must_no _).mono ?_
      rintro e w' ⟨rfl, rfl⟩
      go_wp2_with fail
      exact ⟨rfl, (Kept.of_ext hE).mono (fun _ _ h => h.elim), .inr ⟨hO, rfl⟩⟩
theorem numOf_one {l : Lab} {k : Nat} (h : k < l.length) : numOf ((l.drop k).take 1) 0 = l[k].toNat := by
  rw [List.drop_eq_getElem_cons h, List.take_succ_cons, List.take_zero]
  have := UInt8.toNat_lt l[k]
  show (0 * 256 + l[k].toNat) % 4294967296 = _
  omega
set_option maxRecDepth 100000 in
set_option maxHeartbeats 1000000 in
theorem text_yes (r : Nat) (A : Option Addr) (l : Lab) (cap k : Nat) (w : World) (h : Rdr w r A l cap k) (hk : k < l.length) (hn : k + 1 + l[k].toNat ≤ l.length) :
    Calls Tryz.prog 130 #[.pointer (some ⟨r, 0, none⟩)] w fun e w' => Kept (fun b => b = r) w w' ∧ Rdr w' r A l cap (k + 1 + l[k].toNat) ∧ ∃ v, e = .returned v ∧ w'.ownsRow w.heap.size 5 1 v l[k].toNat (((l.drop (k + 1)).take l[k].toNat).map byteV) := by
  have hlen := h.len
  have HN := Lib.hid (numOf_one hk)
  go_enter Tryz.func130, Tryz.ntmps130
  go_wp2_with fail
  refine (num_yes r A l cap k 1 w h (by omega)).mono ?_
  rintro e w1 ⟨rfl, hr1, hk1⟩
  rw [HN.out]
  have hcc : l[k].toNat < 256 := UInt8.toNat_lt _
  have hcap := h.cap1
  have hpl := piece_len (k := k + 1) (n := l[k].toNat) hn
  generalize hq0 : l[k].toNat = c at *
  have HQ := Lib.hid hq0
  clear hq0
  go_wp2_with fail
  refine (take_yes r A l cap (k + 1) c w1 hr1 hn).mono ?_
  rintro e w2 ⟨rfl, hr2, hk2⟩
  have hcs := piece_cs (k := k + 1) (n := c) hr2.cs hcap
  generalize hq1 : (l.drop (k + 1)).take c = p at *
  have HQ1 := Lib.hid hq1
  clear hq1
  generalize piece A cap (k + 1) = B at *
  obtain rfl : p.length = c := hpl
  have HR := Lib.hid hr2
  clear hr2 hr1 h
  go_wp2_with fail
  refine (CloneB B p (cap - (k + 1)) w2 hcs (by omega)).mono ?_
  rintro e w3 ⟨v, rfl, hown, hb3⟩
  go_wp2_with fail
  go_ret
  rw [HQ.out, HQ1.out]
  exact ⟨(hk1.trans hk2).then (Kept.of_ext hb3) (fun _ _ h => h.elim), HR.out.ext hb3, v, rfl, own_base hown ((hk1.trans hk2).size)⟩
set_option maxRecDepth 100000 in
set_option maxHeartbeats 1000000 in
theorem text_no (r : Nat) (A : Option Addr) (l : Lab) (cap k : Nat) (w : World) (h : Rdr w r A l cap k) (hn : ¬ (∃ hk : k < l.length, k + 1 + l[k].toNat ≤ l.length)) :
    Calls Tryz.prog 130 #[.pointer (some ⟨r, 0, none⟩)] w fun e w' => Kept (fun b => b = r) w w' ∧ e = .panicked mustP := by
  have hlen := h.len
  have hle := h.le
  go_enter Tryz.func130, Tryz.ntmps130
  go_wp2_with fail
  by_cases hk : k < l.length
  · have hn2 : ¬ k + 1 + l[k].toNat ≤ l.length := fun h => hn ⟨hk, h⟩
    have HN := Lib.hid (numOf_one hk)
    clear hn
    refine (num_yes r A l cap k 1 w h (by omega)).mono ?_
    rintro e w1 ⟨rfl, hr1, hk1⟩
    rw [HN.out]
    have hcc : l[k].toNat < 256 := UInt8.toNat_lt _
    generalize l[k].toNat = c at *
    go_wp2_with fail
    refine (take_no r A l cap (k + 1) c w1 hr1 hn2 (by omega)).mono ?_
    rintro e w2 ⟨rfl, hk2⟩
    go_wp2_with fail
    exact ⟨rfl, hk1.trans hk2, rfl⟩
  · clear hn
    refine (num_no r A l cap k 1 w h (by omega) (by omega)).mono ?_
    rintro e w1 ⟨rfl, hk1⟩
    go_wp2_with fail
    exact ⟨rfl, hk1, rfl⟩
set_option maxRecDepth 100000 in
set_option maxHeartbeats 1000000 in
theorem rest (r : Nat) (A : Option Addr) (l : Lab) (cap k : Nat) (w : World) (h : Rdr w r A l cap k) :
    Calls Tryz.prog 114 #[.pointer (some ⟨r, 0, none⟩)] w fun e w' => Kept (fun b => b = r) w w' ∧ Rdr w' r A l cap l.length ∧ ∃ v, e = .returned v ∧ w'.ownsRow w.heap.size 5 1 v (l.length - k) ((l.drop k).map byteV) := by
  have c0 := h.c0
  have c1 := h.c1
  have hlen := h.len
  have hk := h.le
  have hcap := h.cap1
  have hwr : IntKind.i64.wrap ((l.length : Int) - k) = ((l.length - k : Nat) : Int) := by rw [IntWalk.i64_in _ (by omega)]; omega
  have hT := take_yes r A l cap k (l.length - k) w.drew h.drew (by omega)
  have HT := Lib.hid hT
  have HP : Hid ((l.drop k).take (l.length - k) = l.drop k ∧ (l.drop k).length = l.length - k ∧ k + (l.length - k) = l.length) := Lib.hid ⟨List.take_of_length_le (by rw [List.length_drop]; omega), List.length_drop, by omega⟩
  have H := Lib.hid h
  clear hT h
  go_enter Tryz.func114, Tryz.ntmps114
  go_wp2_with fail
  go_still_tail 11, mixed
  clear c0 c1 hwr
  go_wp2_with fail
  refine HT.out.mono ?_
  rintro e w1 ⟨rfl, hr1, hk1⟩
  rw [HP.out.2.2] at hr1
  have hcs := piece_cs (k := k) (n := l.length - k) hr1.cs hcap
  rw [HP.out.1] at hcs
  have hC := CloneB (piece A cap k) (l.drop k) (cap - k) w1 hcs (by rw [HP.out.2.1]; omega)
  rw [HP.out.2.1] at hC
  have HR := Lib.hid hr1
  clear hr1 hcs
  generalize piece A cap k = B at *
  go_wp2_with fail
  refine hC.mono ?_
  rintro e w3 ⟨v, rfl, hown, hb3⟩
  go_wp2_with fail
  go_ret
  exact ⟨(Kept.refl _ _).drew.trans (hk1.then (Kept.of_ext hb3) (fun _ _ h => h.elim)), HR.out.ext hb3, v, rfl, own_base hown hk1.size⟩
end Nm
end Go.Proofs.YthogembgndkmpaaGreatDoor

/- Contracts of package rdata: texts, shape, Check's closure. -/
namespace Go.Proofs.YthogembgndkmpaaGreatDoor
open Go.RowKit
namespace Nm
theorem textsB_fuel : ∀ (f g : Nat) (b : Lab), b.length < f → b.length < g → textsB f b = textsB g b
  | 0, _, b, h, _ => by omega
  | _ + 1, 0, b, _, h => by omega
  | f + 1, g + 1, [], _, _ => rfl
  | f + 1, g + 1, c :: r, h1, h2 => by
    unfold textsB
    rw [textsB_fuel f g (r.drop c.toNat) (by simp at *; omega) (by simp at *; omega)]
/-- the texts from a place on -/
def txt (l : Lab) (k : Nat) : Bool := textsB ((l.drop k).length + 1) (l.drop k)
theorem txt_step {l : Lab} {k : Nat} (h : k < l.length) : txt l k = (decide (k + 1 + l[k].toNat ≤ l.length) && txt l (k + 1 + l[k].toNat)) := by
  unfold txt
  rw [List.drop_eq_getElem_cons h]
  conv => lhs; unfold textsB
  rw [List.drop_drop, textsB_fuel _ ((l.drop (k + 1 + l[k].toNat)).length + 1) _ (by simp; omega) (by omega)]
  have : (l.drop (k + 1)).length = l.length - (k + 1) := List.length_drop
  rw [this]
  have e : decide (l[k].toNat ≤ l.length - (k + 1)) = decide (k + 1 + l[k].toNat ≤ l.length) := by
    rw [decide_eq_decide]; omega
  rw [e]
theorem txt_end {l : Lab} {k : Nat} (h : ¬ k < l.length) : txt l k = true := by
  unfold txt
  rw [List.drop_eq_nil_of_le (by omega)]
  rfl
theorem txt_zero (l : Lab) : textsB (l.length + 1) l = txt l 0 := rfl
def TextsR (r : Nat) (A : Option Addr) (l : Lab) (cap k : Nat) (w wr : World) : Prop := ∃ j : Nat, Rdr wr r A l cap j ∧ Kept (fun b => b = r) w wr ∧ txt l k = txt l j
set_option maxRecDepth 100000 in
set_option maxHeartbeats 2000000 in
theorem texts (r : Nat) (A : Option Addr) (l : Lab) (cap k : Nat) (w : World) (h : Rdr w r A l cap k) :
    Calls Tryz.prog 136 #[.pointer (some ⟨r, 0, none⟩)] w fun e w' => Kept (fun b => b = r) w w' ∧
      ((k < l.length ∧ txt l k = true ∧ e = .returned (.tuple #[]) ∧ Rdr w' r A l cap l.length) ∨ ((¬ k < l.length ∨ txt l k = false) ∧ e = .panicked mustP)) := by
  have hlen := h.len
  have hle := h.le
  go_enter Tryz.func136, Tryz.ntmps136
  go_wp2_with fail
  by_cases hk : k < l.length
  · have HS := Lib.hid (txt_step hk)
    by_cases hn : k + 1 + l[k].toNat ≤ l.length
    · refine (text_yes r A l cap k w h hk hn).mono ?_
      rintro e w1 ⟨hk1, hr1, v, rfl, _⟩
      have HT : Hid (txt l k = txt l (k + 1 + l[k].toNat)) := Lib.hid (by rw [HS.out]; simp [hn])
      clear h
      generalize k + 1 + l[k].toNat = j0 at *
      go_wp2_with fail
      go_loopw [] (TextsR r A l cap k w) (fun wr => l.length - (intOf ((wr.cell? ⟨r, 1, none⟩).getD (.int .i64 0))).toNat)
      case atStart => exact ⟨j0, hr1, hk1, HT.out⟩
      case round =>
        obtain ⟨j, hr, hkk, ht⟩ := hrel
        have c0 := hr.c0
        have c1 := hr.c1
        have hjl := hr.le
        have HR := Lib.hid hr
        have HT2 := Lib.hid ht
        clear ht HT HS hr1 hr
        by_cases hj : j < l.length
        · have HS := Lib.hid (txt_step hj)
          go_wp2_with fail
          go_region
          by_cases hn2 : j + 1 + l[j].toNat ≤ l.length
          · have hT3 := text_yes r A l cap j wr.drew HR.out.drew hj hn2
            have HT3 := Lib.hid hT3
            have HT : Hid (txt l j = txt l (j + 1 + l[j].toNat)) := Lib.hid (by rw [HS.out]; simp [hn2])
            have hj1 : j < j + 1 + l[j].toNat := by omega
            clear hT3 HS
            generalize j + 1 + l[j].toNat = j1 at *
            go_wp2_with fail
            refine HT3.out.mono ?_
            rintro e w2 ⟨hk2, hr2, v2, rfl, _⟩
            have d1 := hr2.c1
            go_wp2_with fail
            refine ⟨⟨j1, hr2, (hkk.drew).trans hk2, by rw [HT2.out, HT.out]⟩, ?_⟩
            rw [d1, c1]
            simp [intOf]
            omega
          · have hT3 := text_no r A l cap j wr.drew HR.out.drew (fun ⟨_, h⟩ => hn2 h)
            have HT3 := Lib.hid hT3
            clear hT3
            go_wp2_with fail
            refine HT3.out.mono ?_
            rintro e w2 ⟨hk2, rfl⟩
            go_wp2_with fail
            exact ⟨rfl, (hkk.drew).trans hk2, .inr ⟨.inr (by rw [HT2.out, HS.out]; simp [hn2]), rfl⟩⟩
        · have hje : j = l.length := by omega
          have HE := Lib.hid (txt_end hj)
          have HJ := Lib.hid hje
          clear hje
          go_wp2_with fail
          go_region
          go_wp2_with fail
          go_end0
          have hr5 := HR.out.drew
          rw [HJ.out] at hr5
          exact ⟨hkk.drew, .inl ⟨hk, by rw [HT2.out, HE.out], rfl, hr5⟩⟩
    · refine (text_no r A l cap k w h (fun ⟨_, h⟩ => hn h)).mono ?_
      rintro e w1 ⟨hk1, rfl⟩
      go_wp2_with fail
      exact ⟨rfl, hk1, .inr ⟨.inr (by rw [HS.out]; simp [hn]), rfl⟩⟩
  · refine (text_no r A l cap k w h (fun ⟨h, _⟩ => hk h)).mono ?_
    rintro e w1 ⟨hk1, rfl⟩
    go_wp2_with fail
    exact ⟨rfl, hk1, .inr ⟨.inl hk, rfl⟩⟩
end Nm
end Go.Proofs.YthogembgndkmpaaGreatDoor
