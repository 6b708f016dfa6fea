/-
  Contracts of package rdata: SigBytes.
-/
import Derived.Test.YtkeimgamjnpcbaaGreatPut
import Derived.Test.YtkeimgamjnpcbaaGreatFresh
import Derived.Test.YtkeimgamjnpcbaaGreatCmp
namespace Go.Proofs.YtkeimgamjnpcbaaGreat
open Go.RowKit
set_option linter.unusedVariables false
namespace Nm
theorem byteV_lt {n : Nat} (h : n < 256) : byteV (UInt8.ofNat n) = .int .u8 n := by rw [byteV_mod]; congr 1; omega
/-- a signature's parts -/
structure SigM where
  t : Nat
  al : Nat
  lb : Nat
  ttl : Nat
  ex : Nat
  bg : Nat
  tg : Nat
  n : List Lab
  s : Lab
structure SigM.fits (g : SigM) : Prop where
  t : g.t < 65536
  al : g.al < 256
  lb : g.lb < 256
  ttl : g.ttl < 4294967296
  ex : g.ex < 4294967296
  bg : g.bg < 4294967296
  tg : g.tg < 65536
  n : Small g.n
  s : g.s.length ≤ 100000
def SigM.bytes (g : SigM) : Lab := be2 g.t ++ [UInt8.ofNat g.al, UInt8.ofNat g.lb] ++ be4 g.ttl ++ be4 g.ex ++ be4 g.bg ++ be2 g.tg ++ wire g.n ++ g.s
def SigM.v (g : SigM) (A : Option Addr) (cap : Nat) (S : Option Addr) (sc : Nat) : Value := .agg #[.int .u16 g.t, .int .u8 g.al, .int .u8 g.lb, .int .u32 g.ttl, .int .u32 g.ex, .int .u32 g.bg, .int .u16 g.tg, .slice A g.n.length cap, .slice S g.s.length sc]
theorem own_rowC (w : World) (B : Nat) (e : TypeId) (xs : List Value) (hB : B ≤ w.heap.size) (hl : xs.length ≤ 1000) : (w.alloc (.cells xs.toArray e)).ownsRow B e 1 (.slice (some ⟨w.heap.size, 0, none⟩) xs.length xs.length) xs.length xs :=
  ⟨by simp, .inr ⟨w.heap.size, xs.length, xs.toArray, rfl, hB, heap_alloc_new w _, Nat.le_refl _, by unfold maxLen; omega, by simp, by simp⟩⟩
theorem wire_len_few {n : List Lab} (h : Small n) : (wire n).length ≤ 1001001 := by
  have := wires_few h
  unfold wire; simp; omega
/-- a row of blocks that read as bytes -/
def blobsF (ls : List Lab) : Fact := ⟨fun v W => ∃ A bs, v = .slice A ls.length ls.length ∧ Cs W A (bs.map Blob.v) ∧ bs.map (·.l) = ls ∧ Blobs W bs, by
  intro v W W' hE h
  obtain ⟨A, bs, h1, h2, h3, h4⟩ := h
  exact ⟨A, bs, h1, h2.below hE, h3, h4.below hE⟩⟩
theorem blobs_p (ls : List Lab) (v : Value) (W : World) : (blobsF ls).p v W = ∃ A bs, v = .slice A ls.length ls.length ∧ Cs W A (bs.map Blob.v) ∧ bs.map (·.l) = ls ∧ Blobs W bs := rfl
theorem join_of {bs : List Blob} {ls : List Lab} (h : bs.map (·.l) = ls) : join bs = ls.flatten := by
  unfold join
  rw [← h, List.flatMap_def]
set_option maxRecDepth 100000 in
set_option maxHeartbeats 20000000 in
theorem SigBytes (g : SigM) (hg : g.fits) (A S : Option Addr) (cap sc : Nat) (w : World) (hA : Cs w A (g.n.map strV)) (hS : Cs w S (g.s.map byteV)) :
    Calls Tryz.prog 60 #[g.v A cap S sc] w fun e w' => ∃ v, e = .returned v ∧ w'.ownsRow w.heap.size 5 1 v g.bytes.length (g.bytes.map byteV) ∧ Below w.heap.size w w' := by
  obtain ⟨i0, hi, hz0, hz1, hz2⟩ := info_parts info_u8
  unfold SigM.v
  have hb1 : Below w.heap.size w (w.alloc (.cells #[.int .u16 g.t, .int .u8 g.al, .int .u8 g.lb, .int .u32 g.ttl, .int .u32 g.ex, .int .u32 g.bg, .int .u16 g.tg, .slice A g.n.length cap, .slice S g.s.length sc] 33)) := (Below.refl _ _).alloc (Nat.le_refl _) _
  have hblk := heap_alloc_new w (.cells #[.int .u16 g.t, .int .u8 g.al, .int .u8 g.lb, .int .u32 g.ttl, .int .u32 g.ex, .int .u32 g.bg, .int .u16 g.tg, .slice A g.n.length cap, .slice S g.s.length sc] 33)
  obtain ⟨k0, k1, k2, k3, k4, k5, k6, k7, k8, _⟩ := cells9 hblk
  have hwr : IntKind.u32.wrap (g.t : Int) = g.t := by have := hg.t; simp [IntKind.wrap, IntKind.bits, IntKind.signed]; omega
  have hgt := hg.t
  have hsz : (w.alloc (.cells #[.int .u16 g.t, .int .u8 g.al, .int .u8 g.lb, .int .u32 g.ttl, .int .u32 g.ex, .int .u32 g.bg, .int .u16 g.tg, .slice A g.n.length cap, .slice S g.s.length sc] 33)).heap.size = w.heap.size + 1 := by simp
  go_enter Tryz.func60, Tryz.ntmps60
  go_wp2_with fail
  generalize w.alloc (.cells #[.int .u16 g.t, .int .u8 g.al, .int .u8 g.lb, .int .u32 g.ttl, .int .u32 g.ex, .int .u32 g.bg, .int .u16 g.tg, .slice A g.n.length cap, .slice S g.s.length sc] 33) = w1 at *
  have HA := Lib.hid (hA.below hb1)
  have HS := Lib.hid (hS.below hb1)
  clear hA hS hblk
  refine wp_region_gen mixed0 (by kernel_rfl) w1.heap.size (Nat.le_refl _) [.is (.pointer (some ⟨w.heap.size, 0, none⟩)), .is (.int .u16 g.t), .is (.int .u32 g.t), .own w1.heap.size 5 1 2 ((be2 g.t).map byteV), .is (.pointer (some ⟨w.heap.size, 1, none⟩)), .is (.int .u8 g.al), .is (.pointer (some ⟨w.heap.size, 2, none⟩)), .is (.int .u8 g.lb),
    .own w1.heap.size 5 1 2 [.int .u8 g.al, .int .u8 g.lb], .own w1.heap.size 5 1 4 ((be2 g.t).map byteV ++ [.int .u8 g.al, .int .u8 g.lb]), .own w1.heap.size 5 1 4 ((be2 g.t).map byteV ++ [.int .u8 g.al, .int .u8 g.lb])]
    (fun i => if i = 9 then 2 else 0) (fun j => if j = 3 ∨ j = 8 ∨ j = 9 ∨ j = 10 then 1 else 0) (by kernel_rfl) ?_ ?_ ?_
  · intro j
    rcases j with _ | _ | _ | _ | _ | _ | _ | _ | _ | _ | _ | j
    all_goals first
      | exact kind_is _ _
      | exact kind_own _ _ _ _ _ _ (Nat.le_refl _)
      | (have hx : ¬ (j + 11 = 3 ∨ j + 11 = 8 ∨ j + 11 = 9 ∨ j + 11 = 10) := by omega
         rw [if_neg hx]
         exact kind_any _)
  · intro i o hio vals W hE haf
    have e0 := (bcl (o := 0) hE (by omega)).trans k0
    have e1 := (bcl (o := 1) hE (by omega)).trans k1
    have e2 := (bcl (o := 2) hE (by omega)).trans k2
    rcases i with _ | _ | _ | _ | _ | _ | _ | _ | _ | _ | _ | i
    all_goals first
      | (exfalso; simp at hio; done)
      | (simp at hio; subst hio; simp [bindD, rdB, Region.binds, factAt] at haf; simp [opYield_def, yieldUpon, relAct, dstAt, Act.put, Region.wanted, go_sem, haf, e0, e1, e2, Ext.refl, factAt, hwr, kindT]; done)
      | skip
    all_goals
      simp at hio
      subst hio
    · simp [bindD, rdB, Region.binds, factAt] at haf
      simp [opYield_def, yieldUpon, relAct, dstAt, Act.put, Region.wanted, go_sem, haf, factAt, kindT]
      refine (put2 W.heap.size (.slice none 0 0) 0 [] g.t W (World.ownsRow_nil _ _ _ _) (Nat.le_refl _) (by omega) (by omega)).mono fun e W' h5 => ?_
      obtain ⟨v, he, ho, hb⟩ := h5
      exact ⟨v, he, hb.below (World.ownsRow_nil _ _ 5 1) (Nat.le_refl _), own_base (by simpa using ho) hE.size⟩
    · simp [bindD, rdB, Region.binds, factAt] at haf
      simp [opYield_def, yieldUpon, relAct, dstAt, Act.put, Region.wanted, go_sem, haf, factAt, kindT]
      exact ⟨(Below.refl _ _).alloc (Nat.le_refl _) _, own_rowC W w1.heap.size 5 [.int .u8 g.al, .int .u8 g.lb] hE.size (by simp)⟩
    · simp [bindD, rdB, Region.binds, factAt] at haf
      obtain ⟨h3, h8⟩ := haf
      obtain ⟨A8, c8, e8, _, hcs8⟩ := Cs.of_own h8
      refine yield_bytes rfl (.tmp 9) (.tmp 14) Tryz.underlying31 rfl (v := vals 3) (by simp [relAct, dstAt, Act.put, Act.eval]) h3 hE.size (us := [.int .u8 g.al, .int .u8 g.lb]) (A := A8) (c := c8) (by simp [relAct, dstAt, Act.put, Act.eval, e8]) hcs8 (by simp [Value.oneCell']) (by simp) ?_
      intro v' W' h4 h5
      exact ⟨h5, h4⟩
  · intro vals W hE hF
    have h10 := hF 10 (by show 10 < 11; omega) (by kernel_rfl)
    have h11 : W.ownsRow w1.heap.size 5 1 (vals 10) 4 ((be2 g.t ++ [UInt8.ofNat g.al, UInt8.ofNat g.lb]).map byteV) := by
      rw [List.map_append]
      show W.ownsRow w1.heap.size 5 1 (vals 10) 4 ((be2 g.t).map byteV ++ [byteV (UInt8.ofNat g.al), byteV (UInt8.ofNat g.lb)])
      rw [byteV_lt hg.al, byteV_lt hg.lb]
      exact h10
    simp [relAct, dstAt, Act.put]
    clear hF h10
    have l0 : (be2 g.t ++ [UInt8.ofNat g.al, UInt8.ofNat g.lb]).length = 4 := rfl
    have e3 := (bcl (o := 3) hE (by omega)).trans k3
    have e4 := (bcl (o := 4) hE (by omega)).trans k4
    have e5 := (bcl (o := 5) hE (by omega)).trans k5
    have e6 := (bcl (o := 6) hE (by omega)).trans k6
    have e7 := (bcl (o := 7) hE (by omega)).trans k7
    have e8 := (bcl (o := 8) hE (by omega)).trans k8
    generalize vals 10 = v0 at *
    generalize hx0 : be2 g.t ++ [UInt8.ofNat g.al, UInt8.ofNat g.lb] = xs0 at *
    have HX0 := Lib.hid hx0
    clear hx0
    have hz := hE.size
    have hlt0 := fun k hk => (h11.lt k hk)
    clear k0 k1 k2 k3 k4 k5 k6 k7 k8
    have hbz : Below W.heap.size W (W.alloc (.cells #[.int .u32 g.ttl, .int .u32 g.ex, .int .u32 g.bg] 25)) := (Below.refl _ _).alloc (Nat.le_refl _) _
    have hq : (W.alloc (.cells #[.int .u32 g.ttl, .int .u32 g.ex, .int .u32 g.bg] 25)).heap[W.heap.size]? = some (.cells #[.int .u32 g.ttl, .int .u32 g.ex, .int .u32 g.bg] 25 (0, 0)) := heap_alloc_new W _
    have q0 : (W.alloc (.cells #[.int .u32 g.ttl, .int .u32 g.ex, .int .u32 g.bg] 25)).cell? ⟨W.heap.size, 0, none⟩ = some (.int .u32 g.ttl) := by rw [cell_of_row _ _ 0 _ _ _ hq]; rfl
    have q1 : (W.alloc (.cells #[.int .u32 g.ttl, .int .u32 g.ex, .int .u32 g.bg] 25)).cell? ⟨W.heap.size, 1, none⟩ = some (.int .u32 g.ex) := by rw [cell_of_row _ _ 1 _ _ _ hq]; rfl
    have q2 : (W.alloc (.cells #[.int .u32 g.ttl, .int .u32 g.ex, .int .u32 g.bg] 25)).cell? ⟨W.heap.size, 2, none⟩ = some (.int .u32 g.bg) := by rw [cell_of_row _ _ 2 _ _ _ hq]; rfl
    have hzz : (W.alloc (.cells #[.int .u32 g.ttl, .int .u32 g.ex, .int .u32 g.bg] 25)).heap.size = W.heap.size + 1 := by simp
    have o0 := own_below h11 hbz
    have hn1 : ¬ some W.heap.size = v0.ownBlock := fun h => by have := hlt0 _ h.symm; omega
    have hn2 : ¬ some w.heap.size = v0.ownBlock := fun h => by have := hlt0 _ h.symm; omega
    have z3 := (bcl (o := 3) hbz (show w.heap.size < _ by omega)).trans e3
    have z6 := (bcl (o := 6) hbz (show w.heap.size < _ by omega)).trans e6
    have z7 := (bcl (o := 7) hbz (show w.heap.size < _ by omega)).trans e7
    have z8 := (bcl (o := 8) hbz (show w.heap.size < _ by omega)).trans e8
    have HO := Lib.hid o0
    have HFits := Lib.hid hg
    have hBz := hE.trans (hbz.mono hz)
    clear o0 hq h11 hg
    go_wp2_with fail
    clear e3 e4 e5 e6 e7 e8
    refine wp_loop_rounds 4 ?_
    rw [rounds_succ]
    go_wp2_with fail
    generalize W.alloc (.cells #[.int .u32 g.ttl, .int .u32 g.ex, .int .u32 g.bg] 25) = Wz at *
    refine (put4 w1.heap.size v0 4 xs0 g.ttl Wz HO.out (by omega) (by omega) HFits.out.ttl).mono ?_
    rintro e W1 ⟨v1, rfl, own1, mv1⟩
    have s1 := mv1.kept.size
    have r1 := (mv1.kept.cell (o := 1) (show W.heap.size < _ by omega) hn1).trans q1
    go_wp2_with fail
    rw [rounds_succ]
    go_wp2_with fail
    have HO1 := Lib.hid own1
    clear own1 r1
    refine (put4 w1.heap.size v1 (4 + 4) _ g.ex W1 HO1.out (by omega) (by omega) HFits.out.ex).mono ?_
    rintro e W2 ⟨v2, rfl, own2, mv2⟩
    have mv12 := mv1.trans mv2
    have s2 := mv12.kept.size
    have r2 := (mv12.kept.cell (o := 2) (show W.heap.size < _ by omega) hn1).trans q2
    go_wp2_with fail
    rw [rounds_succ]
    go_wp2_with fail
    have HO2 := Lib.hid own2
    clear own2 r2
    refine (put4 w1.heap.size v2 (4 + 4 + 4) _ g.bg W2 HO2.out (by omega) (by omega) HFits.out.bg).mono ?_
    rintro e W3 ⟨v3, rfl, own3, mv3⟩
    have mv := mv12.trans mv3
    go_wp2_with fail
    rw [rounds_succ]
    go_wp2_with fail
    have s3 := mv.kept.size
    have y6 := (mv.kept.cell (o := 6) (show w.heap.size < _ by omega) hn2).trans z6
    have y7 := (mv.kept.cell (o := 7) (show w.heap.size < _ by omega) hn2).trans z7
    have y8 := (mv.kept.cell (o := 8) (show w.heap.size < _ by omega) hn2).trans z8
    have hB3 := hBz.trans (mv.below HO.out (by omega))
    have HO3 := Lib.hid own3
    clear own3 z6 z7 z8 z3 q0 q1 q2 mv12 mv1 mv2 mv3 HO1 HO2
    have hu : ∀ k, v3.ownBlock = some k → w1.heap.size ≤ k ∧ k < W3.heap.size := fun k hk => HO3.out.lt k hk
    have HU := Lib.hid hu
    clear hu hbz hn1 hn2 hlt0 hBz hzz mv
    generalize hxs : xs0 ++ be4 g.ttl ++ be4 g.ex ++ be4 g.bg = xs at *
    have HXS := Lib.hid hxs
    have lxs : xs.length = 16 := by rw [← hxs]; simp [l0, be4]
    have hwt : IntKind.u32.wrap (g.tg : Int) = g.tg := by have := HFits.out.tg; simp [IntKind.wrap, IntKind.bits, IntKind.signed]; omega
    have htg := HFits.out.tg
    have lb2 : (be2 g.tg).length = 2 := rfl
    have hwl := wire_len_few HFits.out.n
    have hsl := HFits.out.s
    have HWi : Hid (∀ W, Below w1.heap.size w1 W → Calls Tryz.prog 61 #[.slice A g.n.length cap] W fun e w' => ∃ v, e = .returned v ∧ w'.ownsRow W.heap.size 5 1 v (wire g.n).length ((wire g.n).map byteV) ∧ Below W.heap.size W w') := Lib.hid fun W hW => Wire A g.n cap W (HA.out.below hW) HFits.out.n
    clear hxs
    generalize hwn : wire g.n = wn at *
    have HWN := Lib.hid hwn
    clear hwn
    refine wp_region_gen0 mixed0 (by kernel_rfl) w1.heap.size hB3.size [.is v3, .is (.pointer (some ⟨w.heap.size, 6, none⟩)), .is (.int .u16 g.tg), .is (.int .u32 g.tg), .own w1.heap.size 5 1 18 ((xs ++ be2 g.tg).map byteV),
      .is (.pointer (some ⟨w.heap.size, 7, none⟩)), .is (.slice A g.n.length cap), .own W3.heap.size 5 1 wn.length (wn.map byteV), .is (.pointer (some ⟨w.heap.size, 8, none⟩)), .is (.slice S g.s.length sc),
      blobsF [xs ++ be2 g.tg, wn, g.s], .own W3.heap.size 5 1 ((xs ++ be2 g.tg) ++ wn ++ g.s).length (((xs ++ be2 g.tg) ++ wn ++ g.s).map byteV), .own W3.heap.size 5 1 ((xs ++ be2 g.tg) ++ wn ++ g.s).length (((xs ++ be2 g.tg) ++ wn ++ g.s).map byteV)]
      (fun i => if i = 4 then 1 else 0) (fun j => if j = 4 ∨ j = 10 then 3 else if j = 7 ∨ j = 11 ∨ j = 12 then 1 else 0) (by kernel_rfl) ?_
      (fun W => W.ownsRow w1.heap.size 5 1 v3 16 (xs.map byteV)) HO3.out (fun W W' hE h => own_below h hE) (fun W W' hb h => Kept.row h (Kept.of_below hb) (fun k hk => by have := (HU.out k hk).2; omega)) ?_ ?_
    · intro j
      rcases j with _ | _ | _ | _ | _ | _ | _ | _ | _ | _ | _ | _ | _ | j
      all_goals first
        | exact kind_is _ _
        | exact kind_own _ _ _ _ _ _ (Nat.le_refl _)
        | exact trivial
        | (have hx : ¬ (j + 13 = 7 ∨ j + 13 = 11 ∨ j + 13 = 12) := by omega
           have hy : ¬ (j + 13 = 4 ∨ j + 13 = 10) := by omega
           rw [if_neg hy, if_neg hx]
           exact kind_any _)
    · intro i o hio vals W hE2 haf hI
      have e6 := (bcl (o := 6) hE2 (show w.heap.size < w1.heap.size by omega)).trans y6
      have e7 := (bcl (o := 7) hE2 (show w.heap.size < w1.heap.size by omega)).trans y7
      have e8 := (bcl (o := 8) hE2 (show w.heap.size < w1.heap.size by omega)).trans y8
      have hWs := hE2.size
      have hHS : Cs W S (g.s.map byteV) := HS.out.below (hB3.trans hE2)
      rcases i with _ | _ | _ | _ | _ | _ | _ | _ | _ | _ | _ | _ | _ | i
      all_goals first
        | (exfalso; simp at hio; done)
        | (simp at hio; subst hio; simp [bindD, rdB, Region.binds, factAt] at haf; simp [opYield_def, yieldUpon, relAct, dstAt, Act.put, Region.wanted, go_sem, haf, e6, e7, e8, Ext.refl, factAt, hwt, kindT]; done)
        | skip
      all_goals
        simp at hio
        subst hio
        simp [bindD, rdB, Region.binds, factAt] at haf
      · have hrow := hI (fun k hk h => .inl (by
          by_cases e : k = 4
          · exact e
          · simp [e] at h))
        obtain ⟨h3, h4⟩ := haf
        simp [opYield_def, yieldUpon, relAct, dstAt, Act.put, Region.wanted, go_sem, h3, h4, factAt, kindT]
        refine (put2 w1.heap.size v3 16 xs g.tg W hrow (Nat.le_trans hB3.size hWs) (by omega) (by omega)).mono fun e W' h5 => ?_
        obtain ⟨v, he, ho, hm⟩ := h5
        exact ⟨v, he, hm.kept.mono (fun k _ h => HU.out k h.symm), by simpa using ho⟩
      · simp [opYield_def, yieldUpon, relAct, dstAt, Act.put, Region.wanted, go_sem, haf, factAt, kindT]
        refine (HWi.out W (hB3.trans hE2)).mono fun e W' h5 => ?_
        obtain ⟨v, he, ho, hb⟩ := h5
        exact ⟨v, he, hb, own_base ho hWs⟩
      · obtain ⟨h4, h7, h9⟩ := haf
        obtain ⟨A4, c4, e4, _, hc4⟩ := Cs.of_own h4
        obtain ⟨A7, c7, e7', _, hc7⟩ := Cs.of_own h7
        simp [opYield_def, yieldUpon, relAct, dstAt, Act.put, Region.wanted, go_sem, e4, e7', h9, factAt, kindT]
        have hb5 : Below W.heap.size W (W.alloc (.cells #[.slice A4 18 c4, .slice A7 wn.length c7, .slice S g.s.length sc] 31)) := (Below.refl _ _).alloc (Nat.le_refl _) _
        have hlx : (xs ++ be2 g.tg).length = 18 := by rw [List.length_append, lxs]; rfl
        refine ⟨hb5, some ⟨W.heap.size, 0, none⟩, [⟨A4, xs ++ be2 g.tg, c4⟩, ⟨A7, wn, c7⟩, ⟨S, g.s, sc⟩], rfl, ?_, rfl, ?_⟩
        · have := cs_new W 31 [.slice A4 18 c4, .slice A7 wn.length c7, .slice S g.s.length sc] (0, 0)
          simp only [List.map_cons, List.map_nil, Blob.v, hlx]
          exact this
        · intro b hb
          rcases List.mem_cons.1 hb with rfl | hb
          · refine Cs.below (w := W) ?_ hb5
            rw [List.map_append]
            exact hc4
          · rcases List.mem_cons.1 hb with rfl | hb
            · exact Cs.below (w := W) hc7 hb5
            · rcases List.mem_cons.1 hb with rfl | hb
              · exact Cs.below (w := W) hHS hb5
              · cases hb
      · rw [blobs_p] at haf
        obtain ⟨A9, bs, h1, h2, h3, h4⟩ := haf
        simp [opYield_def, yieldUpon, relAct, dstAt, Act.put, Region.wanted, go_sem, h1, factAt, kindT]
        have hbl : bs.length = 3 := by have := congrArg List.length h3; simpa using this
        have hj : join bs = xs ++ (be2 g.tg ++ (wn ++ g.s)) := by rw [join_of h3]; simp
        have hcc := Concat A9 bs 3 W h2 h4 (by omega) (by rw [hj]; simp [lxs, lb2]; omega)
        rw [hbl] at hcc
        refine hcc.mono fun e W' h5 => ?_
        obtain ⟨v, he, ho, hb⟩ := h5
        refine ⟨v, he, hb, ?_⟩
        rw [hj] at ho
        simpa using own_base ho hWs
    · intro vals W hE2 hF
      have h12 := hF 12 (by show 12 < 13; omega) (by kernel_rfl)
      simp [relAct, dstAt, Act.put]
      clear hF
      have h13 : W.ownsRow w.heap.size 5 1 (vals 12) g.bytes.length (g.bytes.map byteV) := by
        have hbe : g.bytes = (xs ++ be2 g.tg) ++ wn ++ g.s := by
          rw [← HXS.out, ← HWN.out]
          unfold SigM.bytes
          rw [HX0.out]
        rw [hbe]
        exact own_base h12 (by have := hB3.size; omega)
      have hb9 := hb1.trans ((hB3.trans hE2).mono (by omega))
      have H13 := Lib.hid h13
      clear h12 h13
      generalize vals 12 = vr at *
      go_wp2_with fail
      go_ret
      exact ⟨_, rfl, H13.out, hb9⟩
end Nm
end Go.Proofs.YtkeimgamjnpcbaaGreat
