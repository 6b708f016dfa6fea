/-
  Texts merged by a program (MsgG, Fresh2, Help, Help2, RefLow, OrdMath, Light).
-/
import Derived.Test.YtkeimgamjnpcbaaGreatCk1
import Derived.Test.YtkeimgamjnpcbaaGreatCk2
import Derived.Test.YtkeimgamjnpcbaaGreatCk3
import Derived.Test.YtkeimgamjnpcbaaGreatCk4
import Derived.Test.YtkeimgamjnpcbaaGreatCk15
set_option linter.unusedSimpArgs false
set_option linter.unusedVariables false
/- Contracts of package canon: Message, of any set. (Printed by a program: wip/gen_msgg.py.) -/
namespace Go.Proofs.YtkeimgamjnpcbaaGreat
open Go.RowKit
set_option linter.unusedVariables false
set_option linter.unusedSimpArgs false
namespace Nm
def star : Lab := [42]
/-- the owner that is signed -/
def ownN (n : List Lab) (lb : Nat) : List Lab := if n.length ≤ lb then lower n else star :: (lower n).drop (n.length - lb)
def headO (o : List Lab) (t ttl : Nat) : Lab := wire o ++ (be2 t ++ [0, 1] ++ be4 ttl)
/-- what is signed -/
def msgL (n : List Lab) (t : Nat) (ys : List Lab) (g : SigM) : Lab := g.low.bytes ++ ys.flatMap (fun y => headO (ownN n g.lb) t g.ttl ++ be2 y.length ++ y)
theorem told_mem {l d : List Lab} (h : Told l d) : ∀ x ∈ d, x ∈ l := by
  obtain ⟨s, h1, h2, rfl⟩ := h
  intro x hx
  exact h1.mem_iff.1 ((once_mem s x).1 hx)
theorem told_len {l d : List Lab} (h : Told l d) : d.length ≤ l.length := by
  obtain ⟨s, h1, h2, rfl⟩ := h
  rw [← h1.length_eq]
  exact once_len s
theorem pieces_len (hb : Lab) (xs : List Blob) (h1 : ∀ x ∈ xs, x.l.length ≤ 20000) (h2 : hb.length ≤ 10008) : ∀ k, k ≤ xs.length → ((xs.take k).flatMap (fun x => hb ++ be2 x.l.length ++ x.l)).length ≤ k * 30010
  | 0, _ => by simp
  | k + 1, hk => by
    have ih := pieces_len hb xs h1 h2 k (by omega)
    have hx := h1 xs[k] (List.getElem_mem _)
    rw [List.take_add_one, List.getElem?_eq_getElem (by omega), List.flatMap_append, List.length_append]
    have e : ((some xs[k]).toList.flatMap (fun x : Blob => hb ++ be2 x.l.length ++ x.l)).length = hb.length + 2 + xs[k].l.length := by
      rw [show (some xs[k]).toList = [xs[k]] from rfl, List.flatMap_singleton, List.length_append, List.length_append]
      rfl
    rw [e]
    omega
theorem own_capM {w : World} {B n c : Nat} {e : TypeId} {A : Option Addr} {xs : List Value} (h : w.ownsRow B e 1 (.slice A n c) n xs) : n ≤ c := by
  rcases h.2 with ⟨h1, rfl⟩ | ⟨g, cap, cur, h1, _, _, hc, _⟩
  · omega
  · cases h1
    exact hc
def MsgR (w W1 : World) (gb hb : Lab) (xs : List Blob) (vi vo : Value) (W : World) : Prop := ∃ k : Nat, k ≤ xs.length ∧ vi = .int .i64 k ∧ W.ownsRow w.heap.size 5 1 vo (gb ++ (xs.take k).flatMap (fun x => hb ++ be2 x.l.length ++ x.l)).length ((gb ++ (xs.take k).flatMap (fun x => hb ++ be2 x.l.length ++ x.l)).map byteV) ∧ Below W1.heap.size W1 W
set_option maxRecDepth 100000 in
set_option maxHeartbeats 20000000 in
theorem MessageG (A D : Option Addr) (n : List Lab) (cap dcap t : Nat) (sttl : Int) (ds : List Blob) (g : SigM) (SA SS : Option Addr) (sc ssc : Nat) (w : World) (ht2 : t < 65536) (hA : Cs w A (n.map strV)) (hn : Small n) (hD : Cs w D (ds.map Blob.v)) (hds : Blobs w ds) (hdl : ds.length ≤ 20) (hcap : ∀ d ∈ ds, d.l.length ≤ 100000 ∧ d.l.length ≤ d.cap ∧ d.cap ≤ maxLen) (hcx : ∀ d ∈ ds, (canX t d.l).length ≤ 20000)
    (hg : g.fits) (hSA : Cs w SA (g.n.map strV)) (hgl : g.low.bytes.length ≤ 10000) (hwo : (wire (ownN n g.lb)).length ≤ 10000) :
    Calls Tryz.prog 20 #[.agg #[.slice A n.length cap, .int .u16 t, .int .u32 sttl, .slice D ds.length dcap], g.v SA sc SS ssc] w fun e w' =>
      ∃ v ys, e = .returned v ∧ Told (ds.map fun d => canX t d.l) ys ∧ w'.ownsRow w.heap.size 5 1 v (msgL n t ys g).length ((msgL n t ys g).map byteV) ∧ Below w.heap.size w w' := by
  obtain ⟨i0, hi, hz0, hz1, hz2⟩ := info_parts info_u8
  unfold SigM.v
  generalize hw2 : (w.alloc (.cells #[.slice A n.length cap, .int .u16 t, .int .u32 sttl, .slice D ds.length dcap] 28)).alloc (.cells #[.int .u16 g.t, .int .u8 g.al, .int .u8 g.lb, .int .u32 g.ttl, .int .u32 g.ex, .int .u32 g.bg, .int .u16 g.tg, .slice SA g.n.length sc, .slice SS g.s.length ssc] 33) = w2
  have hb2 : Below w.heap.size w w2 := by rw [← hw2]; exact ((Below.refl _ _).alloc (Nat.le_refl _) _).alloc (by simp) _
  have hsz2 : w2.heap.size = w.heap.size + 2 := by rw [← hw2]; simp
  have hs : w2.heap[w.heap.size]? = some (.cells #[.slice A n.length cap, .int .u16 t, .int .u32 sttl, .slice D ds.length dcap] 28 (0, 0)) := by
    rw [← hw2]
    have := heap_alloc_new w (.cells #[.slice A n.length cap, .int .u16 t, .int .u32 sttl, .slice D ds.length dcap] 28)
    rw [Below.heap_alloc _ _ _ (by simp)]
    exact this
  have hgq : w2.heap[w.heap.size + 1]? = some (.cells #[.int .u16 g.t, .int .u8 g.al, .int .u8 g.lb, .int .u32 g.ttl, .int .u32 g.ex, .int .u32 g.bg, .int .u16 g.tg, .slice SA g.n.length sc, .slice SS g.s.length ssc] 33 (0, 0)) := by
    have := heap_alloc_new (w.alloc (.cells #[.slice A n.length cap, .int .u16 t, .int .u32 sttl, .slice D ds.length dcap] 28)) (.cells #[.int .u16 g.t, .int .u8 g.al, .int .u8 g.lb, .int .u32 g.ttl, .int .u32 g.ex, .int .u32 g.bg, .int .u16 g.tg, .slice SA g.n.length sc, .slice SS g.s.length ssc] 33)
    rw [World.size_alloc] at this
    rw [← hw2]; exact this
  have s0 : w2.cell? ⟨w.heap.size, 0, none⟩ = some (.slice A n.length cap) := by rw [cell_of_row _ _ 0 _ _ _ hs]; rfl
  have s1 : w2.cell? ⟨w.heap.size, 1, none⟩ = some (.int .u16 t) := by rw [cell_of_row _ _ 1 _ _ _ hs]; rfl
  have s2 : w2.cell? ⟨w.heap.size, 2, none⟩ = some (.int .u32 sttl) := by rw [cell_of_row _ _ 2 _ _ _ hs]; rfl
  have s3 : w2.cell? ⟨w.heap.size, 3, none⟩ = some (.slice D ds.length dcap) := by rw [cell_of_row _ _ 3 _ _ _ hs]; rfl
  obtain ⟨k0, k1, k2, k3, k4, k5, k6, k7, k8, kf⟩ := cells9 hgq
  have HA := Lib.hid (hA.below hb2)
  have HA0 := Lib.hid hA
  have HD0 := Lib.hid hD
  have HB0 := Lib.hid hds
  have HD := Lib.hid (hD.below hb2)
  have HCap := Lib.hid hcap
  have HCx := Lib.hid hcx
  have HSA := Lib.hid (hSA.below hb2)
  go_enter Tryz.func20, Tryz.ntmps20
  go_wp2_with fail
  clear hw2 hA hD hds hcap hcx hSA hs hgq HA HD
  refine (Lower SA g.n sc w2 HSA.out hg.n.few).mono ?_
  rintro e w3 ⟨v3, rfl, hown3, hb3⟩
  obtain ⟨A3, c3, rfl, _, hcs3⟩ := Cs.of_own hown3
  have hz3 := hb3.size
  have t0 := (bcl (o := 0) hb3 (show w.heap.size < _ by omega)).trans s0
  have t1 := (bcl (o := 1) hb3 (show w.heap.size < _ by omega)).trans s1
  have t2 := (bcl (o := 2) hb3 (show w.heap.size < _ by omega)).trans s2
  have t3 := (bcl (o := 3) hb3 (show w.heap.size < _ by omega)).trans s3
  have r0 := (bcl (o := 0) hb3 (show w.heap.size + 1 < _ by omega)).trans k0
  have r1 := (bcl (o := 1) hb3 (show w.heap.size + 1 < _ by omega)).trans k1
  have r2 := (bcl (o := 2) hb3 (show w.heap.size + 1 < _ by omega)).trans k2
  have r3 := (bcl (o := 3) hb3 (show w.heap.size + 1 < _ by omega)).trans k3
  have r4 := (bcl (o := 4) hb3 (show w.heap.size + 1 < _ by omega)).trans k4
  have r5 := (bcl (o := 5) hb3 (show w.heap.size + 1 < _ by omega)).trans k5
  have r6 := (bcl (o := 6) hb3 (show w.heap.size + 1 < _ by omega)).trans k6
  have r7 := (bcl (o := 7) hb3 (show w.heap.size + 1 < _ by omega)).trans k7
  have r8 := (bcl (o := 8) hb3 (show w.heap.size + 1 < _ by omega)).trans k8
  have f7 := (bfr (o := 7) hb3 (show w.heap.size + 1 < _ by omega)).trans (kf 7)
  have f8 := (bfr (o := 8) hb3 (show w.heap.size + 1 < _ by omega)).trans (kf 8)
  have hb23 := hb2.trans (hb3.mono (by omega))
  have HG := Lib.hid hg
  have HGB := Lib.hid hgl
  have HC3 := Lib.hid hcs3
  have hw3 : ∀ a, A3 = some a → (lower g.n).map strV ≠ [] → w2.heap.size ≤ a.block := fun a ha hx => (hown3.lt a.block (by rw [ha]; rfl)).1
  have HW3 := Lib.hid hw3
  clear k0 k1 k2 k3 k4 k5 k6 k7 k8 kf s0 s1 s2 s3 hb2 hown3 hcs3 hg hw3
  go_wp2_with fail
  generalize hw4 : (w3.setCell ⟨w.heap.size + 1, 8, none⟩ (.slice none 0 0)).setCell ⟨w.heap.size + 1, 7, none⟩ (.slice A3 g.n.length c3) = w4
  have hk4 : Kept (fun k => k = w.heap.size + 1) w3 w4 := by rw [← hw4]; exact kept_set2 _ _ _ _ _ _
  have hz4 := hk4.size
  have u0 := (hk4.cell (o := 0) (show w.heap.size < _ by omega) (by omega)).trans t0
  have u1 := (hk4.cell (o := 1) (show w.heap.size < _ by omega) (by omega)).trans t1
  have u2 := (hk4.cell (o := 2) (show w.heap.size < _ by omega) (by omega)).trans t2
  have u3 := (hk4.cell (o := 3) (show w.heap.size < _ by omega) (by omega)).trans t3
  have x2 : w4.cell? ⟨w.heap.size + 1, 2, none⟩ = some (.int .u8 g.lb) := by
    rw [← hw4, setc_near (by decide), setc_near (by decide)]
    exact r2
  have x3 : w4.cell? ⟨w.heap.size + 1, 3, none⟩ = some (.int .u32 g.ttl) := by
    rw [← hw4, setc_near (by decide), setc_near (by decide)]
    exact r3
  have hb4 : Below w.heap.size w w4 := hb23.trans (hk4.below (by omega) (fun k hk => by omega))
  have hcs4 : Cs w4 A3 ((lower g.n).map strV) := Kept.cs HC3.out hk4 (fun a ha hx => by have := HW3.out a ha hx; omega)
  have hsb := SigBytes g.low (SigM.low_fits HG.out) A3 none c3 0 w4 hcs4 (Cs.nil _ _)
  have hll := lower_len g.n
  unfold SigM.v SigM.low at hsb
  simp only [hll, List.length_nil] at hsb
  have HS := Lib.hid hsb
  clear hsb hcs4 r0 r1 r2 r3 r4 r5 r6 r7 r8 f7 f8 t0 t1 t2 t3 hw4
  refine HS.out.mono ?_
  rintro e w5 ⟨v5, rfl, hown5, hb5⟩
  have hz5 := hb5.size
  have y0 := (bcl (o := 0) hb5 (show w.heap.size < _ by omega)).trans u0
  have y1 := (bcl (o := 1) hb5 (show w.heap.size < _ by omega)).trans u1
  have y2 := (bcl (o := 2) hb5 (show w.heap.size < _ by omega)).trans u2
  have y3 := (bcl (o := 3) hb5 (show w.heap.size < _ by omega)).trans u3
  have z2 := (bcl (o := 2) hb5 (show w.heap.size + 1 < _ by omega)).trans x2
  have z3 := (bcl (o := 3) hb5 (show w.heap.size + 1 < _ by omega)).trans x3
  have H5 : Hid (w5.ownsRow w.heap.size 5 1 v5 g.low.bytes.length (g.low.bytes.map byteV)) := Lib.hid (own_base hown5 hb4.size)
  have hb5' := hb4.trans (hb5.mono hb4.size)
  clear hown5 u0 u1 u2 u3 x2 x3 HS HC3 HW3 hb3 hk4 hb23
  go_wp2_with fail
  have hA5 : Cs w5 A (n.map strV) := HA0.out.below hb5'
  refine (Lower A n cap w5 hA5 hn.few).mono ?_
  rintro e w7 ⟨v7, rfl, hown7, hb7⟩
  have hz7 := hb7.size
  have u0 := (bcl (o := 0) hb7 (show w.heap.size < _ by omega)).trans y0
  have u1 := (bcl (o := 1) hb7 (show w.heap.size < _ by omega)).trans y1
  have u2 := (bcl (o := 2) hb7 (show w.heap.size < _ by omega)).trans y2
  have u3 := (bcl (o := 3) hb7 (show w.heap.size < _ by omega)).trans y3
  have x2 := (bcl (o := 2) hb7 (show w.heap.size + 1 < _ by omega)).trans z2
  have x3 := (bcl (o := 3) hb7 (show w.heap.size + 1 < _ by omega)).trans z3
  have H7 := Lib.hid (own_below H5.out hb7)
  have hb8 := hb5'.trans (hb7.mono (by omega))
  have hc7x : ∀ (A : Option Addr) (c : Nat), v7 = .slice A n.length c → n.length ≤ c := fun A c h => own_capM (h ▸ hown7)
  obtain ⟨A7, c7, rfl, _, hcs7⟩ := Cs.of_own hown7
  have hc7c := hc7x A7 c7 rfl
  have HC7 := Lib.hid hcs7
  have hglb := HG.out.lb
  have hgtl := HG.out.ttl
  have hsz7 : w.heap.size + 1 < w7.heap.size := by omega
  have hfew := hn.few
  have hnl : n.length ≤ 1000 := by have := hn.1; omega
  clear hown7 y0 y1 y2 y3 z2 z3 H5 hb5' hA5 hcs7 hz3 hz4 hz5 hsz2
  by_cases hle : n.length ≤ g.lb
  · have hown : ownN n g.lb = lower n := by unfold ownN; rw [if_pos hle]
    rw [hown] at hwo
    have HOWN := Lib.hid hown
    have HWO := Lib.hid hwo
    have hnle : ¬ (g.lb : Int) < (n.length : Int) := by omega
    have hszo := hsz7
    have HCO := HC7
    have H7o := H7
    have hb8o := hb8
    have hn2 := hn.lower
    have hll2 := lower_len n
    clear hown hwo hle hb8 H7 hb4 hb5 hb7
    go_wp2_with fail
    have hlt := hz7
    have hwl : (wire (lower n)).length ≤ 10000 := HWO.out
    have hhl : (headO (lower n) t g.ttl).length ≤ 10008 := by
      simp [headO, be2, be4]; omega
    have HWi : Hid (∀ W, Below w7.heap.size w7 W → Calls Tryz.prog 61 #[.slice A7 n.length c7] W fun e w' => ∃ v, e = .returned v ∧ w'.ownsRow W.heap.size 5 1 v (wire (lower n)).length ((wire (lower n)).map byteV) ∧ Below W.heap.size W w') := Lib.hid fun W hW => by
      have := Wire A7 (lower n) c7 W (HCO.out.below hW) hn2
      rw [hll2] at this
      exact this
    have hNB : w.heap.size + 1 < w7.heap.size := hszo
    generalize hwn : wire (lower n) = wn at *
    refine wp_region_gen mixed0 (by kernel_rfl) w7.heap.size (Nat.le_refl _) [.is (.slice A7 n.length c7), .own w7.heap.size 5 1 wn.length (wn.map byteV),
      .is (.pointer (some ⟨w.heap.size, 1, none⟩)), .is (.int .u16 t), .is (.int .u16 ((t : Int) / 256)), .is (.int .u8 ((t : Int) / 256)),
      .is (.pointer (some ⟨w.heap.size, 1, none⟩)), .is (.int .u16 t), .is (.int .u8 ((t : Int) % 256)),
      .is (.pointer (some ⟨w.heap.size + 1, 3, none⟩)), .is (.int .u32 g.ttl), .is (.int .u32 ((g.ttl : Int) / 16777216)), .is (.int .u8 ((g.ttl : Int) / 16777216)),
      .is (.pointer (some ⟨w.heap.size + 1, 3, none⟩)), .is (.int .u32 g.ttl), .is (.int .u32 ((g.ttl : Int) / 65536)), .is (.int .u8 ((g.ttl : Int) / 65536 % 256)),
      .is (.pointer (some ⟨w.heap.size + 1, 3, none⟩)), .is (.int .u32 g.ttl), .is (.int .u32 ((g.ttl : Int) / 256)), .is (.int .u8 ((g.ttl : Int) / 256 % 256)),
      .is (.pointer (some ⟨w.heap.size + 1, 3, none⟩)), .is (.int .u32 g.ttl), .is (.int .u8 ((g.ttl : Int) % 256)),
      .own w7.heap.size 5 1 8 (tailV t g.ttl), .own w7.heap.size 5 1 (wn.length + 8) (wn.map byteV ++ tailV t g.ttl), .own w7.heap.size 5 1 (wn.length + 8) (wn.map byteV ++ tailV t g.ttl)]
      (fun i => if i = 25 then 2 else 0) (fun j => if j = 1 ∨ j = 24 ∨ j = 25 ∨ j = 26 then 1 else 0) (by kernel_rfl) ?_ ?_ ?_
    · intro j
      rcases j with _ | _ | _ | _ | _ | _ | _ | _ | _ | _ | _ | _ | _ | _ | _ | _ | _ | _ | _ | _ | _ | _ | _ | _ | _ | _ | _ | j
      all_goals first
        | exact kind_is _ _
        | exact kind_own _ _ _ _ _ _ (Nat.le_refl _)
        | (have hx : ¬ (j + 27 = 1 ∨ j + 27 = 24 ∨ j + 27 = 25 ∨ j + 27 = 26) := by omega
           rw [if_neg hx]
           exact kind_any _)
    · intro i o hio vals W hE haf
      have e1 := (bcl (o := 1) hE (show w.heap.size < _ by omega)).trans u1
      have e3 := (bcl (o := 3) hE (show w.heap.size + 1 < _ by omega)).trans x3
      have q1 : IntKind.u8.wrap ((t : Int) / 256) = (t : Int) / 256 := by simp [IntKind.wrap, IntKind.bits, IntKind.signed]; omega
      have q2 : IntKind.u8.wrap (t : Int) = (t : Int) % 256 := by simp [IntKind.wrap, IntKind.bits, IntKind.signed]
      have q3 : IntKind.u8.wrap ((g.ttl : Int) / 16777216) = (g.ttl : Int) / 16777216 := by simp [IntKind.wrap, IntKind.bits, IntKind.signed]; omega
      have q4 : IntKind.u8.wrap ((g.ttl : Int) / 65536) = (g.ttl : Int) / 65536 % 256 := by simp [IntKind.wrap, IntKind.bits, IntKind.signed]
      have q5 : IntKind.u8.wrap ((g.ttl : Int) / 256) = (g.ttl : Int) / 256 % 256 := by simp [IntKind.wrap, IntKind.bits, IntKind.signed]
      have q6 : IntKind.u8.wrap (g.ttl : Int) = (g.ttl : Int) % 256 := by simp [IntKind.wrap, IntKind.bits, IntKind.signed]
      rcases i with _ | _ | _ | _ | _ | _ | _ | _ | _ | _ | _ | _ | _ | _ | _ | _ | _ | _ | _ | _ | _ | _ | _ | _ | _ | _ | _ | i
      all_goals first
        | (exfalso; simp at hio; done)
        | (simp at hio; subst hio; simp [bindD, rdB, Region.binds, factAt] at haf; simp [opYield_def, yieldUpon, relAct, dstAt, Act.put, Region.wanted, go_sem, haf, e1, e3, Ext.refl, factAt, kindT, q1, q2, q3, q4, q5, q6]; done)
        | skip
      all_goals
        simp at hio
        subst hio
        simp [bindD, rdB, Region.binds, factAt] at haf
      · simp [opYield_def, yieldUpon, relAct, dstAt, Act.put, Region.wanted, go_sem, haf, factAt, kindT]
        refine (HWi.out W hE).mono fun e W' h5 => ?_
        obtain ⟨v, he, ho, hb⟩ := h5
        exact ⟨v, he, hb, own_base ho hE.size⟩
      · simp [opYield_def, yieldUpon, relAct, dstAt, Act.put, Region.wanted, go_sem, haf, factAt, kindT]
        exact ⟨(Below.refl _ _).alloc (Nat.le_refl _) _, own_rowC W w7.heap.size 5 (tailV t g.ttl) hE.size (by simp [tailV])⟩
      · obtain ⟨h1, h24⟩ := haf
        obtain ⟨A8, c8, e8, _, hcs8⟩ := Cs.of_own h24
        refine yield_bytes rfl (.tmp 37) (.tmp 60) Tryz.underlying31 rfl (v := vals 1) (by simp [relAct, dstAt, Act.put, Act.eval]) h1 hE.size (us := tailV t g.ttl) (A := A8) (c := c8) (by simp [relAct, dstAt, Act.put, Act.eval, e8, tailV]) hcs8 (by simp [tailV, Value.oneCell']) (by simp [tailV]; omega) ?_
        intro v' W' h4 h5
        exact ⟨h5, h4⟩
    · intro vals W hE hF
      have h26 := hF 26 (by show 26 < 27; omega) (by kernel_rfl)
      simp [relAct, dstAt, Act.put]
      clear hF
      have hzW := hE.size
      have y0 := (bcl (o := 0) hE (show w.heap.size < _ by omega)).trans u0
      have y1 := (bcl (o := 1) hE (show w.heap.size < _ by omega)).trans u1
      have y2 := (bcl (o := 2) hE (show w.heap.size < _ by omega)).trans u2
      have y3 := (bcl (o := 3) hE (show w.heap.size < _ by omega)).trans u3
      have h27 : W.ownsRow w.heap.size 5 1 (vals 26) (headO (lower n) t g.ttl).length ((headO (lower n) t g.ttl).map byteV) := by
        have he : (headO (lower n) t g.ttl).map byteV = wn.map byteV ++ tailV t g.ttl := by
          unfold headO
          rw [hwn, List.map_append, map_tail ht2 hgtl]
        rw [he, show (headO (lower n) t g.ttl).length = wn.length + 8 by unfold headO; rw [hwn]; simp [be2, be4]]
        exact own_base h26 (by omega)
      have hbW := hb8o.trans (hE.mono (by omega))
      have HH := Lib.hid h27
      have H5 := Lib.hid (own_below (H7o.out) hE)
      clear h26 h27 u0 u1 u2 u3 x2 x3 hb8o H7o HWi hwn
      generalize vals 26 = vh at *
      have hgb := HGB.out
      clear hwl
      generalize hgb2 : g.low.bytes = gb at *
      generalize hhb : headO (lower n) t g.ttl = hb at *
      have HDG := Lib.hid (DataG t sttl (CanonAll t) A D n.length cap dcap ds W (HD0.out.below hbW) (HB0.out.below hbW) (by omega) HCap.out)
      go_wp2_with fail
      refine HDG.out.mono ?_
      rintro e W1 ⟨A1, xs, cx, rfl, hA1, hxo, hto, hbW1⟩
      have hbWW1 := hbW.trans (hbW1.mono (by omega))
      have H5' := Lib.hid (own_below H5.out hbW1)
      have HH' := Lib.hid (own_below HH.out hbW1)
      obtain ⟨Ah, ch, rfl, _, hch⟩ := Cs.of_own HH'.out
      have HCh := Lib.hid hch
      have HA1 := Lib.hid hA1
      have HXo := Lib.hid hxo
      have HTo := Lib.hid hto
      have hxn : xs.length ≤ 20 := by have := told_len hto; simp at this; omega
      have HXl : Hid (∀ x ∈ xs, x.l.length ≤ 20000) := Lib.hid (fun x hx => by
        obtain ⟨d, hd, hdx⟩ := List.mem_map.1 (told_mem hto _ (List.mem_map.2 ⟨x, hx, rfl⟩))
        rw [← hdx]
        exact HCx.out d hd)
      clear hA1 hxo hto y0 y1 y2 y3 hch hE hbW HDG hbW1
      go_wp2_with fail
      go_loopw [65, 5] (MsgR w W1 gb hb xs) (fun i _ _ => xs.length - (intOf i).toNat)
      case atStart => exact ⟨0, by omega, rfl, by simpa using H5'.out, Below.refl _ _⟩
      case round =>
        obtain ⟨k, hk, rfl, hown, hbk⟩ := hrel
        obtain ⟨V, hVV⟩ : ∃ V, V = wr := ⟨_, rfl⟩
        rw [← hVV] at hown hbk ⊢
        clear hVV
        have hzk := hbk.size
        have hz1 := hbWW1.size
        by_cases hkx : k < xs.length
        · obtain ⟨x, hx0⟩ : ∃ b, xs[k]? = some b := ⟨_, List.getElem?_eq_getElem hkx⟩
          have hxm : x ∈ xs := List.mem_of_getElem? hx0
          obtain ⟨bk, off, rfl, hbk1, hcell⟩ := HA1.out k x.v (by rw [List.getElem?_map, hx0]; rfl)
          have hcell2 : V.cell? ⟨bk, off + k, none⟩ = some (.slice x.A x.l.length x.cap) := (bcl hbk hbk1).trans hcell
          have hxl := HXl.out x hxm
          have hxV : Cs V x.A (x.l.map byteV) := Cs.below (HXo.out x hxm) hbk
          obtain ⟨Ag, cg, hvo, _, hcg⟩ := Cs.of_own hown
          subst hvo
          have hLl : (gb ++ (xs.take k).flatMap (fun x => hb ++ be2 x.l.length ++ x.l)).length ≤ 10000 + k * 30010 := by
            have := pieces_len hb xs (fun x hx => HXl.out x hx) hhl k (by omega)
            rw [List.length_append]
            omega
          have HLt : Hid (gb ++ (xs.take (k + 1)).flatMap (fun x => hb ++ be2 x.l.length ++ x.l) = (gb ++ (xs.take k).flatMap (fun x => hb ++ be2 x.l.length ++ x.l)) ++ hb ++ be2 x.l.length ++ x.l) := Lib.hid (by
            rw [List.take_add_one, hx0, List.flatMap_append]
            simp)
          generalize hLe : gb ++ (xs.take k).flatMap (fun x => hb ++ be2 x.l.length ++ x.l) = L at *
          have HC4 := Lib.hid (concat4 V Ag Ah x.A L hb x.l cg ch x.cap hcg (HCh.out.below hbk) hxV (by omega) (by omega) (by omega))
          have hki : (k : Int) < (xs.length : Int) := by omega
          clear hown hcg hxV hx0 hcell hLe
          go_wp2_with fail
          refine HC4.out.mono ?_
          rintro e W3 ⟨v, rfl, ho3, hb3⟩
          have hbF := hbk.trans (hb3.mono hzk)
          have HO3 := Lib.hid (own_base ho3 (show w.heap.size ≤ V.heap.size by omega))
          clear ho3
          go_wp2_with fail
          refine ⟨⟨k + 1, by omega, by go_num, ?_, hbF⟩, by simp [intOf]; omega⟩
          rw [HLt.out]
          exact HO3.out
        · have hkx2 : k = xs.length := by omega
          subst hkx2
          rw [List.take_length] at hown
          have HO3 := Lib.hid hown
          have hbF := hbWW1.trans (hbk.mono hz1)
          clear hown
          go_wp2_with fail
          go_ret
          refine ⟨_, xs.map (·.l), rfl, HTo.out, ?_, hbF⟩
          have e1 : msgL n t (xs.map (·.l)) g = gb ++ xs.flatMap (fun x => hb ++ be2 x.l.length ++ x.l) := by
            unfold msgL
            rw [hgb2, HOWN.out, hhb, List.flatMap_map]
          rw [e1]
          exact HO3.out
  · have hgt : g.lb < n.length := by omega
    have hgti : (g.lb : Int) < (n.length : Int) := by omega
    obtain ⟨k, hk1, hk2, hk3⟩ : ∃ k : Nat, n.length - g.lb = k ∧ ((n.length : Int) - (g.lb : Int) = (k : Int)) ∧ k + g.lb = n.length := ⟨n.length - g.lb, rfl, by omega, by omega⟩
    have hown : ownN n g.lb = star :: (lower n).drop k := by unfold ownN; rw [if_neg (by omega), hk1]
    rw [hown] at hwo
    have HOWN := Lib.hid hown
    have HWO := Lib.hid hwo
    obtain ⟨b7, o7, rfl, hb7w, _⟩ := HC7.out 0 _ (List.getElem?_eq_getElem (by rw [List.length_map, lower_len]; omega))
    have hdl2 : ((lower n).drop k).length = n.length - k := by rw [List.length_drop, lower_len]
    have hki : (k : Int) ≤ (n.length : Int) := by omega
    have hkn : k ≤ n.length := by omega
    have hcs2 := HC7.out.drop' k c7 (by rw [List.length_map, lower_len]; exact hc7c)
    rw [← List.map_drop] at hcs2
    have HSm : Hid (Small (star :: (lower n).drop k)) := Lib.hid ⟨by have h1 := hn.lower.1; have h2 := lower_len n; rw [List.length_cons, List.length_drop]; omega, fun l hl => by
      rcases List.mem_cons.1 hl with rfl | hl
      · decide
      · exact hn.lower.2 l (List.mem_of_mem_drop hl)⟩
    generalize hsd : (lower n).drop k = sd at *
    have HCS2 := Lib.hid hcs2
    have hst : (w7.alloc (.cells #[.string (strB star)] 9)).ownsRow w7.heap.size 9 1 (.slice (some ⟨w7.heap.size, 0, none⟩) 1 1) 1 ([star].map strV) := own_rowC w7 w7.heap.size 9 ([star].map strV) (Nat.le_refl _) (by simp)
    have HSt := Lib.hid hst
    clear hown hwo hcs2 hst hsd
    by_cases hck : c7 = k
    · have hsd0 : sd = [] := List.length_eq_zero_iff.1 (by omega)
      subst hsd0
      go_wp2_with fail
      generalize hw9 : w7.alloc (.cells #[.string { data := #[42] }] 9) = w9 at *
      have hb79 : Below w7.heap.size w7 w9 := by rw [← hw9]; exact (Below.refl _ _).alloc (Nat.le_refl _) _
      have hown9 : w9.ownsRow w7.heap.size 9 1 (.slice (some ⟨w7.heap.size, 0, none⟩) 1 1) 1 ([star].map strV) := by rw [← hw9]; exact HSt.out
      clear hw9
      obtain ⟨A9, c9, hv9, _, hcs9⟩ := Cs.of_own hown9
      cases hv9
      have hz79 := hb79.size
      have HCO : Hid (Cs w9 (some ⟨w7.heap.size, 0, none⟩) ([star].map strV)) := Lib.hid hcs9
      have H7o := Lib.hid (own_below H7.out hb79)
      have hb8o := hb8.trans (hb79.mono (by omega))
      have hszo : w.heap.size + 1 < w9.heap.size := by omega
      have hn2 := HSm.out
      have hll2 : [star].length = 1 := rfl
      have v0' := (bcl (o := 0) hb79 (show w.heap.size < _ by omega)).trans u0
      have v1' := (bcl (o := 1) hb79 (show w.heap.size < _ by omega)).trans u1
      have v2' := (bcl (o := 2) hb79 (show w.heap.size < _ by omega)).trans u2
      have v3' := (bcl (o := 3) hb79 (show w.heap.size < _ by omega)).trans u3
      have w2' := (bcl (o := 2) hb79 (show w.heap.size + 1 < _ by omega)).trans x2
      have w3' := (bcl (o := 3) hb79 (show w.heap.size + 1 < _ by omega)).trans x3
      clear u0 u1 u2 u3 x2 x3 hown9 hcs9 hb8 H7 hb4 hb5 hb7
      have u0 := v0'
      have u1 := v1'
      have u2 := v2'
      have u3 := v3'
      have x2 := w2'
      have x3 := w3'
      clear v0' v1' v2' v3' w2' w3'
      have hlt := hz7
      have hwl : (wire ([star])).length ≤ 10000 := HWO.out
      have hhl : (headO ([star]) t g.ttl).length ≤ 10008 := by
        simp [headO, be2, be4]; omega
      have HWi : Hid (∀ W, Below w9.heap.size w9 W → Calls Tryz.prog 61 #[.slice (some ⟨w7.heap.size, 0, none⟩) 1 1] W fun e w' => ∃ v, e = .returned v ∧ w'.ownsRow W.heap.size 5 1 v (wire ([star])).length ((wire ([star])).map byteV) ∧ Below W.heap.size W w') := Lib.hid fun W hW => by
        have := Wire (some ⟨w7.heap.size, 0, none⟩) ([star]) 1 W (HCO.out.below hW) hn2
        rw [hll2] at this
        exact this
      have hNB : w.heap.size + 1 < w9.heap.size := hszo
      generalize hwn : wire ([star]) = wn at *
      refine wp_region_gen mixed0 (by kernel_rfl) w9.heap.size (Nat.le_refl _) [.is (.slice (some ⟨w7.heap.size, 0, none⟩) 1 1), .own w9.heap.size 5 1 wn.length (wn.map byteV),
        .is (.pointer (some ⟨w.heap.size, 1, none⟩)), .is (.int .u16 t), .is (.int .u16 ((t : Int) / 256)), .is (.int .u8 ((t : Int) / 256)),
        .is (.pointer (some ⟨w.heap.size, 1, none⟩)), .is (.int .u16 t), .is (.int .u8 ((t : Int) % 256)),
        .is (.pointer (some ⟨w.heap.size + 1, 3, none⟩)), .is (.int .u32 g.ttl), .is (.int .u32 ((g.ttl : Int) / 16777216)), .is (.int .u8 ((g.ttl : Int) / 16777216)),
        .is (.pointer (some ⟨w.heap.size + 1, 3, none⟩)), .is (.int .u32 g.ttl), .is (.int .u32 ((g.ttl : Int) / 65536)), .is (.int .u8 ((g.ttl : Int) / 65536 % 256)),
        .is (.pointer (some ⟨w.heap.size + 1, 3, none⟩)), .is (.int .u32 g.ttl), .is (.int .u32 ((g.ttl : Int) / 256)), .is (.int .u8 ((g.ttl : Int) / 256 % 256)),
        .is (.pointer (some ⟨w.heap.size + 1, 3, none⟩)), .is (.int .u32 g.ttl), .is (.int .u8 ((g.ttl : Int) % 256)),
        .own w9.heap.size 5 1 8 (tailV t g.ttl), .own w9.heap.size 5 1 (wn.length + 8) (wn.map byteV ++ tailV t g.ttl), .own w9.heap.size 5 1 (wn.length + 8) (wn.map byteV ++ tailV t g.ttl)]
        (fun i => if i = 25 then 2 else 0) (fun j => if j = 1 ∨ j = 24 ∨ j = 25 ∨ j = 26 then 1 else 0) (by kernel_rfl) ?_ ?_ ?_
      · intro j
        rcases j with _ | _ | _ | _ | _ | _ | _ | _ | _ | _ | _ | _ | _ | _ | _ | _ | _ | _ | _ | _ | _ | _ | _ | _ | _ | _ | _ | j
        all_goals first
          | exact kind_is _ _
          | exact kind_own _ _ _ _ _ _ (Nat.le_refl _)
          | (have hx : ¬ (j + 27 = 1 ∨ j + 27 = 24 ∨ j + 27 = 25 ∨ j + 27 = 26) := by omega
             rw [if_neg hx]
             exact kind_any _)
      · intro i o hio vals W hE haf
        have e1 := (bcl (o := 1) hE (show w.heap.size < _ by omega)).trans u1
        have e3 := (bcl (o := 3) hE (show w.heap.size + 1 < _ by omega)).trans x3
        have q1 : IntKind.u8.wrap ((t : Int) / 256) = (t : Int) / 256 := by simp [IntKind.wrap, IntKind.bits, IntKind.signed]; omega
        have q2 : IntKind.u8.wrap (t : Int) = (t : Int) % 256 := by simp [IntKind.wrap, IntKind.bits, IntKind.signed]
        have q3 : IntKind.u8.wrap ((g.ttl : Int) / 16777216) = (g.ttl : Int) / 16777216 := by simp [IntKind.wrap, IntKind.bits, IntKind.signed]; omega
        have q4 : IntKind.u8.wrap ((g.ttl : Int) / 65536) = (g.ttl : Int) / 65536 % 256 := by simp [IntKind.wrap, IntKind.bits, IntKind.signed]
        have q5 : IntKind.u8.wrap ((g.ttl : Int) / 256) = (g.ttl : Int) / 256 % 256 := by simp [IntKind.wrap, IntKind.bits, IntKind.signed]
        have q6 : IntKind.u8.wrap (g.ttl : Int) = (g.ttl : Int) % 256 := by simp [IntKind.wrap, IntKind.bits, IntKind.signed]
        rcases i with _ | _ | _ | _ | _ | _ | _ | _ | _ | _ | _ | _ | _ | _ | _ | _ | _ | _ | _ | _ | _ | _ | _ | _ | _ | _ | _ | i
        all_goals first
          | (exfalso; simp at hio; done)
          | (simp at hio; subst hio; simp [bindD, rdB, Region.binds, factAt] at haf; simp [opYield_def, yieldUpon, relAct, dstAt, Act.put, Region.wanted, go_sem, haf, e1, e3, Ext.refl, factAt, kindT, q1, q2, q3, q4, q5, q6]; done)
          | skip
        all_goals
          simp at hio
          subst hio
          simp [bindD, rdB, Region.binds, factAt] at haf
        · simp [opYield_def, yieldUpon, relAct, dstAt, Act.put, Region.wanted, go_sem, haf, factAt, kindT]
          refine (HWi.out W hE).mono fun e W' h5 => ?_
          obtain ⟨v, he, ho, hb⟩ := h5
          exact ⟨v, he, hb, own_base ho hE.size⟩
        · simp [opYield_def, yieldUpon, relAct, dstAt, Act.put, Region.wanted, go_sem, haf, factAt, kindT]
          exact ⟨(Below.refl _ _).alloc (Nat.le_refl _) _, own_rowC W w9.heap.size 5 (tailV t g.ttl) hE.size (by simp [tailV])⟩
        · obtain ⟨h1, h24⟩ := haf
          obtain ⟨A8, c8, e8, _, hcs8⟩ := Cs.of_own h24
          refine yield_bytes rfl (.tmp 37) (.tmp 60) Tryz.underlying31 rfl (v := vals 1) (by simp [relAct, dstAt, Act.put, Act.eval]) h1 hE.size (us := tailV t g.ttl) (A := A8) (c := c8) (by simp [relAct, dstAt, Act.put, Act.eval, e8, tailV]) hcs8 (by simp [tailV, Value.oneCell']) (by simp [tailV]; omega) ?_
          intro v' W' h4 h5
          exact ⟨h5, h4⟩
      · intro vals W hE hF
        have h26 := hF 26 (by show 26 < 27; omega) (by kernel_rfl)
        simp [relAct, dstAt, Act.put]
        clear hF
        have hzW := hE.size
        have y0 := (bcl (o := 0) hE (show w.heap.size < _ by omega)).trans u0
        have y1 := (bcl (o := 1) hE (show w.heap.size < _ by omega)).trans u1
        have y2 := (bcl (o := 2) hE (show w.heap.size < _ by omega)).trans u2
        have y3 := (bcl (o := 3) hE (show w.heap.size < _ by omega)).trans u3
        have h27 : W.ownsRow w.heap.size 5 1 (vals 26) (headO ([star]) t g.ttl).length ((headO ([star]) t g.ttl).map byteV) := by
          have he : (headO ([star]) t g.ttl).map byteV = wn.map byteV ++ tailV t g.ttl := by
            unfold headO
            rw [hwn, List.map_append, map_tail ht2 hgtl]
          rw [he, show (headO ([star]) t g.ttl).length = wn.length + 8 by unfold headO; rw [hwn]; simp [be2, be4]]
          exact own_base h26 (by omega)
        have hbW := hb8o.trans (hE.mono (by omega))
        have HH := Lib.hid h27
        have H5 := Lib.hid (own_below (H7o.out) hE)
        clear h26 h27 u0 u1 u2 u3 x2 x3 hb8o H7o HWi hwn
        generalize vals 26 = vh at *
        have hgb := HGB.out
        clear hwl
        generalize hgb2 : g.low.bytes = gb at *
        generalize hhb : headO ([star]) t g.ttl = hb at *
        have HDG := Lib.hid (DataG t sttl (CanonAll t) A D n.length cap dcap ds W (HD0.out.below hbW) (HB0.out.below hbW) (by omega) HCap.out)
        go_wp2_with fail
        refine HDG.out.mono ?_
        rintro e W1 ⟨A1, xs, cx, rfl, hA1, hxo, hto, hbW1⟩
        have hbWW1 := hbW.trans (hbW1.mono (by omega))
        have H5' := Lib.hid (own_below H5.out hbW1)
        have HH' := Lib.hid (own_below HH.out hbW1)
        obtain ⟨Ah, ch, rfl, _, hch⟩ := Cs.of_own HH'.out
        have HCh := Lib.hid hch
        have HA1 := Lib.hid hA1
        have HXo := Lib.hid hxo
        have HTo := Lib.hid hto
        have hxn : xs.length ≤ 20 := by have := told_len hto; simp at this; omega
        have HXl : Hid (∀ x ∈ xs, x.l.length ≤ 20000) := Lib.hid (fun x hx => by
          obtain ⟨d, hd, hdx⟩ := List.mem_map.1 (told_mem hto _ (List.mem_map.2 ⟨x, hx, rfl⟩))
          rw [← hdx]
          exact HCx.out d hd)
        clear hA1 hxo hto y0 y1 y2 y3 hch hE hbW HDG hbW1
        go_wp2_with fail
        go_loopw [65, 5] (MsgR w W1 gb hb xs) (fun i _ _ => xs.length - (intOf i).toNat)
        case atStart => exact ⟨0, by omega, rfl, by simpa using H5'.out, Below.refl _ _⟩
        case round =>
          obtain ⟨k, hk, rfl, hown, hbk⟩ := hrel
          obtain ⟨V, hVV⟩ : ∃ V, V = wr := ⟨_, rfl⟩
          rw [← hVV] at hown hbk ⊢
          clear hVV
          have hzk := hbk.size
          have hz1 := hbWW1.size
          by_cases hkx : k < xs.length
          · obtain ⟨x, hx0⟩ : ∃ b, xs[k]? = some b := ⟨_, List.getElem?_eq_getElem hkx⟩
            have hxm : x ∈ xs := List.mem_of_getElem? hx0
            obtain ⟨bk, off, rfl, hbk1, hcell⟩ := HA1.out k x.v (by rw [List.getElem?_map, hx0]; rfl)
            have hcell2 : V.cell? ⟨bk, off + k, none⟩ = some (.slice x.A x.l.length x.cap) := (bcl hbk hbk1).trans hcell
            have hxl := HXl.out x hxm
            have hxV : Cs V x.A (x.l.map byteV) := Cs.below (HXo.out x hxm) hbk
            obtain ⟨Ag, cg, hvo, _, hcg⟩ := Cs.of_own hown
            subst hvo
            have hLl : (gb ++ (xs.take k).flatMap (fun x => hb ++ be2 x.l.length ++ x.l)).length ≤ 10000 + k * 30010 := by
              have := pieces_len hb xs (fun x hx => HXl.out x hx) hhl k (by omega)
              rw [List.length_append]
              omega
            have HLt : Hid (gb ++ (xs.take (k + 1)).flatMap (fun x => hb ++ be2 x.l.length ++ x.l) = (gb ++ (xs.take k).flatMap (fun x => hb ++ be2 x.l.length ++ x.l)) ++ hb ++ be2 x.l.length ++ x.l) := Lib.hid (by
              rw [List.take_add_one, hx0, List.flatMap_append]
              simp)
            generalize hLe : gb ++ (xs.take k).flatMap (fun x => hb ++ be2 x.l.length ++ x.l) = L at *
            have HC4 := Lib.hid (concat4 V Ag Ah x.A L hb x.l cg ch x.cap hcg (HCh.out.below hbk) hxV (by omega) (by omega) (by omega))
            have hki : (k : Int) < (xs.length : Int) := by omega
            clear hown hcg hxV hx0 hcell hLe
            go_wp2_with fail
            refine HC4.out.mono ?_
            rintro e W3 ⟨v, rfl, ho3, hb3⟩
            have hbF := hbk.trans (hb3.mono hzk)
            have HO3 := Lib.hid (own_base ho3 (show w.heap.size ≤ V.heap.size by omega))
            clear ho3
            go_wp2_with fail
            refine ⟨⟨k + 1, by omega, by go_num, ?_, hbF⟩, by simp [intOf]; omega⟩
            rw [HLt.out]
            exact HO3.out
          · have hkx2 : k = xs.length := by omega
            subst hkx2
            rw [List.take_length] at hown
            have HO3 := Lib.hid hown
            have hbF := hbWW1.trans (hbk.mono hz1)
            clear hown
            go_wp2_with fail
            go_ret
            refine ⟨_, xs.map (·.l), rfl, HTo.out, ?_, hbF⟩
            have e1 : msgL n t (xs.map (·.l)) g = gb ++ xs.flatMap (fun x => hb ++ be2 x.l.length ++ x.l) := by
              unfold msgL
              rw [hgb2, HOWN.out, hhb, List.flatMap_map]
            rw [e1]
            exact HO3.out
    · have hcs3 : Cs w7 (some ⟨b7, o7 + k, none⟩) (sd.map strV) := by have := HCS2.out; rw [if_neg hck] at this; simpa [add_plain] using this
      have HC3 := Lib.hid hcs3
      clear hcs3
      go_wp2_with (first | (at_builtin; refine wpList_names HSt.out (by simp) (HC3.out.below ((Below.refl _ _).alloc (Nat.le_refl _) _)) rfl (.tmp 28) (.tmp 34) Tryz.underlying23 rfl rfl (s := sd) (c := _) (by rw [hdl2]; rfl) (by omega) ?_; intro v9 w9 hown9 hb9))
      obtain ⟨A9, c9, rfl, _, hcs9⟩ := Cs.of_own hown9
      have hb79 : Below w7.heap.size w7 w9 := ((Below.refl _ _).alloc (Nat.le_refl _) _).trans hb9
      have hz79 := hb79.size
      have HCO : Hid (Cs w9 A9 ((star :: sd).map strV)) := Lib.hid hcs9
      have H7o := Lib.hid (own_below H7.out hb79)
      have hb8o := hb8.trans (hb79.mono (by omega))
      have hszo : w.heap.size + 1 < w9.heap.size := by omega
      have hn2 := HSm.out
      have hll2 : (star :: sd).length = 1 + sd.length := by rw [List.length_cons, Nat.add_comm]
      have v0' := (bcl (o := 0) hb79 (show w.heap.size < _ by omega)).trans u0
      have v1' := (bcl (o := 1) hb79 (show w.heap.size < _ by omega)).trans u1
      have v2' := (bcl (o := 2) hb79 (show w.heap.size < _ by omega)).trans u2
      have v3' := (bcl (o := 3) hb79 (show w.heap.size < _ by omega)).trans u3
      have w2' := (bcl (o := 2) hb79 (show w.heap.size + 1 < _ by omega)).trans x2
      have w3' := (bcl (o := 3) hb79 (show w.heap.size + 1 < _ by omega)).trans x3
      clear u0 u1 u2 u3 x2 x3 hown9 hcs9 hb9 hb8 H7 hb4 hb5 hb7
      have u0 := v0'
      have u1 := v1'
      have u2 := v2'
      have u3 := v3'
      have x2 := w2'
      have x3 := w3'
      clear v0' v1' v2' v3' w2' w3'
      have hlt := hz7
      have hwl : (wire (star :: sd)).length ≤ 10000 := HWO.out
      have hhl : (headO (star :: sd) t g.ttl).length ≤ 10008 := by
        simp [headO, be2, be4]; omega
      have HWi : Hid (∀ W, Below w9.heap.size w9 W → Calls Tryz.prog 61 #[.slice A9 (1 + sd.length) c9] W fun e w' => ∃ v, e = .returned v ∧ w'.ownsRow W.heap.size 5 1 v (wire (star :: sd)).length ((wire (star :: sd)).map byteV) ∧ Below W.heap.size W w') := Lib.hid fun W hW => by
        have := Wire A9 (star :: sd) c9 W (HCO.out.below hW) hn2
        rw [hll2] at this
        exact this
      have hNB : w.heap.size + 1 < w9.heap.size := hszo
      generalize hwn : wire (star :: sd) = wn at *
      refine wp_region_gen mixed0 (by kernel_rfl) w9.heap.size (Nat.le_refl _) [.is (.slice A9 (1 + sd.length) c9), .own w9.heap.size 5 1 wn.length (wn.map byteV),
        .is (.pointer (some ⟨w.heap.size, 1, none⟩)), .is (.int .u16 t), .is (.int .u16 ((t : Int) / 256)), .is (.int .u8 ((t : Int) / 256)),
        .is (.pointer (some ⟨w.heap.size, 1, none⟩)), .is (.int .u16 t), .is (.int .u8 ((t : Int) % 256)),
        .is (.pointer (some ⟨w.heap.size + 1, 3, none⟩)), .is (.int .u32 g.ttl), .is (.int .u32 ((g.ttl : Int) / 16777216)), .is (.int .u8 ((g.ttl : Int) / 16777216)),
        .is (.pointer (some ⟨w.heap.size + 1, 3, none⟩)), .is (.int .u32 g.ttl), .is (.int .u32 ((g.ttl : Int) / 65536)), .is (.int .u8 ((g.ttl : Int) / 65536 % 256)),
        .is (.pointer (some ⟨w.heap.size + 1, 3, none⟩)), .is (.int .u32 g.ttl), .is (.int .u32 ((g.ttl : Int) / 256)), .is (.int .u8 ((g.ttl : Int) / 256 % 256)),
        .is (.pointer (some ⟨w.heap.size + 1, 3, none⟩)), .is (.int .u32 g.ttl), .is (.int .u8 ((g.ttl : Int) % 256)),
        .own w9.heap.size 5 1 8 (tailV t g.ttl), .own w9.heap.size 5 1 (wn.length + 8) (wn.map byteV ++ tailV t g.ttl), .own w9.heap.size 5 1 (wn.length + 8) (wn.map byteV ++ tailV t g.ttl)]
        (fun i => if i = 25 then 2 else 0) (fun j => if j = 1 ∨ j = 24 ∨ j = 25 ∨ j = 26 then 1 else 0) (by kernel_rfl) ?_ ?_ ?_
      · intro j
        rcases j with _ | _ | _ | _ | _ | _ | _ | _ | _ | _ | _ | _ | _ | _ | _ | _ | _ | _ | _ | _ | _ | _ | _ | _ | _ | _ | _ | j
        all_goals first
          | exact kind_is _ _
          | exact kind_own _ _ _ _ _ _ (Nat.le_refl _)
          | (have hx : ¬ (j + 27 = 1 ∨ j + 27 = 24 ∨ j + 27 = 25 ∨ j + 27 = 26) := by omega
             rw [if_neg hx]
             exact kind_any _)
      · intro i o hio vals W hE haf
        have e1 := (bcl (o := 1) hE (show w.heap.size < _ by omega)).trans u1
        have e3 := (bcl (o := 3) hE (show w.heap.size + 1 < _ by omega)).trans x3
        have q1 : IntKind.u8.wrap ((t : Int) / 256) = (t : Int) / 256 := by simp [IntKind.wrap, IntKind.bits, IntKind.signed]; omega
        have q2 : IntKind.u8.wrap (t : Int) = (t : Int) % 256 := by simp [IntKind.wrap, IntKind.bits, IntKind.signed]
        have q3 : IntKind.u8.wrap ((g.ttl : Int) / 16777216) = (g.ttl : Int) / 16777216 := by simp [IntKind.wrap, IntKind.bits, IntKind.signed]; omega
        have q4 : IntKind.u8.wrap ((g.ttl : Int) / 65536) = (g.ttl : Int) / 65536 % 256 := by simp [IntKind.wrap, IntKind.bits, IntKind.signed]
        have q5 : IntKind.u8.wrap ((g.ttl : Int) / 256) = (g.ttl : Int) / 256 % 256 := by simp [IntKind.wrap, IntKind.bits, IntKind.signed]
        have q6 : IntKind.u8.wrap (g.ttl : Int) = (g.ttl : Int) % 256 := by simp [IntKind.wrap, IntKind.bits, IntKind.signed]
        rcases i with _ | _ | _ | _ | _ | _ | _ | _ | _ | _ | _ | _ | _ | _ | _ | _ | _ | _ | _ | _ | _ | _ | _ | _ | _ | _ | _ | i
        all_goals first
          | (exfalso; simp at hio; done)
          | (simp at hio; subst hio; simp [bindD, rdB, Region.binds, factAt] at haf; simp [opYield_def, yieldUpon, relAct, dstAt, Act.put, Region.wanted, go_sem, haf, e1, e3, Ext.refl, factAt, kindT, q1, q2, q3, q4, q5, q6]; done)
          | skip
        all_goals
          simp at hio
          subst hio
          simp [bindD, rdB, Region.binds, factAt] at haf
        · simp [opYield_def, yieldUpon, relAct, dstAt, Act.put, Region.wanted, go_sem, haf, factAt, kindT]
          refine (HWi.out W hE).mono fun e W' h5 => ?_
          obtain ⟨v, he, ho, hb⟩ := h5
          exact ⟨v, he, hb, own_base ho hE.size⟩
        · simp [opYield_def, yieldUpon, relAct, dstAt, Act.put, Region.wanted, go_sem, haf, factAt, kindT]
          exact ⟨(Below.refl _ _).alloc (Nat.le_refl _) _, own_rowC W w9.heap.size 5 (tailV t g.ttl) hE.size (by simp [tailV])⟩
        · obtain ⟨h1, h24⟩ := haf
          obtain ⟨A8, c8, e8, _, hcs8⟩ := Cs.of_own h24
          refine yield_bytes rfl (.tmp 37) (.tmp 60) Tryz.underlying31 rfl (v := vals 1) (by simp [relAct, dstAt, Act.put, Act.eval]) h1 hE.size (us := tailV t g.ttl) (A := A8) (c := c8) (by simp [relAct, dstAt, Act.put, Act.eval, e8, tailV]) hcs8 (by simp [tailV, Value.oneCell']) (by simp [tailV]; omega) ?_
          intro v' W' h4 h5
          exact ⟨h5, h4⟩
      · intro vals W hE hF
        have h26 := hF 26 (by show 26 < 27; omega) (by kernel_rfl)
        simp [relAct, dstAt, Act.put]
        clear hF
        have hzW := hE.size
        have y0 := (bcl (o := 0) hE (show w.heap.size < _ by omega)).trans u0
        have y1 := (bcl (o := 1) hE (show w.heap.size < _ by omega)).trans u1
        have y2 := (bcl (o := 2) hE (show w.heap.size < _ by omega)).trans u2
        have y3 := (bcl (o := 3) hE (show w.heap.size < _ by omega)).trans u3
        have h27 : W.ownsRow w.heap.size 5 1 (vals 26) (headO (star :: sd) t g.ttl).length ((headO (star :: sd) t g.ttl).map byteV) := by
          have he : (headO (star :: sd) t g.ttl).map byteV = wn.map byteV ++ tailV t g.ttl := by
            unfold headO
            rw [hwn, List.map_append, map_tail ht2 hgtl]
          rw [he, show (headO (star :: sd) t g.ttl).length = wn.length + 8 by unfold headO; rw [hwn]; simp [be2, be4]]
          exact own_base h26 (by omega)
        have hbW := hb8o.trans (hE.mono (by omega))
        have HH := Lib.hid h27
        have H5 := Lib.hid (own_below (H7o.out) hE)
        clear h26 h27 u0 u1 u2 u3 x2 x3 hb8o H7o HWi hwn
        generalize vals 26 = vh at *
        have hgb := HGB.out
        clear hwl
        generalize hgb2 : g.low.bytes = gb at *
        generalize hhb : headO (star :: sd) t g.ttl = hb at *
        have HDG := Lib.hid (DataG t sttl (CanonAll t) A D n.length cap dcap ds W (HD0.out.below hbW) (HB0.out.below hbW) (by omega) HCap.out)
        go_wp2_with fail
        refine HDG.out.mono ?_
        rintro e W1 ⟨A1, xs, cx, rfl, hA1, hxo, hto, hbW1⟩
        have hbWW1 := hbW.trans (hbW1.mono (by omega))
        have H5' := Lib.hid (own_below H5.out hbW1)
        have HH' := Lib.hid (own_below HH.out hbW1)
        obtain ⟨Ah, ch, rfl, _, hch⟩ := Cs.of_own HH'.out
        have HCh := Lib.hid hch
        have HA1 := Lib.hid hA1
        have HXo := Lib.hid hxo
        have HTo := Lib.hid hto
        have hxn : xs.length ≤ 20 := by have := told_len hto; simp at this; omega
        have HXl : Hid (∀ x ∈ xs, x.l.length ≤ 20000) := Lib.hid (fun x hx => by
          obtain ⟨d, hd, hdx⟩ := List.mem_map.1 (told_mem hto _ (List.mem_map.2 ⟨x, hx, rfl⟩))
          rw [← hdx]
          exact HCx.out d hd)
        clear hA1 hxo hto y0 y1 y2 y3 hch hE hbW HDG hbW1
        go_wp2_with fail
        go_loopw [65, 5] (MsgR w W1 gb hb xs) (fun i _ _ => xs.length - (intOf i).toNat)
        case atStart => exact ⟨0, by omega, rfl, by simpa using H5'.out, Below.refl _ _⟩
        case round =>
          obtain ⟨k, hk, rfl, hown, hbk⟩ := hrel
          obtain ⟨V, hVV⟩ : ∃ V, V = wr := ⟨_, rfl⟩
          rw [← hVV] at hown hbk ⊢
          clear hVV
          have hzk := hbk.size
          have hz1 := hbWW1.size
          by_cases hkx : k < xs.length
          · obtain ⟨x, hx0⟩ : ∃ b, xs[k]? = some b := ⟨_, List.getElem?_eq_getElem hkx⟩
            have hxm : x ∈ xs := List.mem_of_getElem? hx0
            obtain ⟨bk, off, rfl, hbk1, hcell⟩ := HA1.out k x.v (by rw [List.getElem?_map, hx0]; rfl)
            have hcell2 : V.cell? ⟨bk, off + k, none⟩ = some (.slice x.A x.l.length x.cap) := (bcl hbk hbk1).trans hcell
            have hxl := HXl.out x hxm
            have hxV : Cs V x.A (x.l.map byteV) := Cs.below (HXo.out x hxm) hbk
            obtain ⟨Ag, cg, hvo, _, hcg⟩ := Cs.of_own hown
            subst hvo
            have hLl : (gb ++ (xs.take k).flatMap (fun x => hb ++ be2 x.l.length ++ x.l)).length ≤ 10000 + k * 30010 := by
              have := pieces_len hb xs (fun x hx => HXl.out x hx) hhl k (by omega)
              rw [List.length_append]
              omega
            have HLt : Hid (gb ++ (xs.take (k + 1)).flatMap (fun x => hb ++ be2 x.l.length ++ x.l) = (gb ++ (xs.take k).flatMap (fun x => hb ++ be2 x.l.length ++ x.l)) ++ hb ++ be2 x.l.length ++ x.l) := Lib.hid (by
              rw [List.take_add_one, hx0, List.flatMap_append]
              simp)
            generalize hLe : gb ++ (xs.take k).flatMap (fun x => hb ++ be2 x.l.length ++ x.l) = L at *
            have HC4 := Lib.hid (concat4 V Ag Ah x.A L hb x.l cg ch x.cap hcg (HCh.out.below hbk) hxV (by omega) (by omega) (by omega))
            have hki : (k : Int) < (xs.length : Int) := by omega
            clear hown hcg hxV hx0 hcell hLe
            go_wp2_with fail
            refine HC4.out.mono ?_
            rintro e W3 ⟨v, rfl, ho3, hb3⟩
            have hbF := hbk.trans (hb3.mono hzk)
            have HO3 := Lib.hid (own_base ho3 (show w.heap.size ≤ V.heap.size by omega))
            clear ho3
            go_wp2_with fail
            refine ⟨⟨k + 1, by omega, by go_num, ?_, hbF⟩, by simp [intOf]; omega⟩
            rw [HLt.out]
            exact HO3.out
          · have hkx2 : k = xs.length := by omega
            subst hkx2
            rw [List.take_length] at hown
            have HO3 := Lib.hid hown
            have hbF := hbWW1.trans (hbk.mono hz1)
            clear hown
            go_wp2_with fail
            go_ret
            refine ⟨_, xs.map (·.l), rfl, HTo.out, ?_, hbF⟩
            have e1 : msgL n t (xs.map (·.l)) g = gb ++ xs.flatMap (fun x => hb ++ be2 x.l.length ++ x.l) := by
              unfold msgL
              rw [hgb2, HOWN.out, hhb, List.flatMap_map]
            rw [e1]
            exact HO3.out
end Nm
end Go.Proofs.YtkeimgamjnpcbaaGreat

/- Contracts of the reference's Fresh; names and signatures held against one another. -/
namespace Go.Proofs.YtkeimgamjnpcbaaGreat
open Go.RowKit
set_option linter.unusedVariables false
namespace Nm
set_option maxRecDepth 100000 in
set_option maxHeartbeats 10000000 in
theorem RefFresh (s : SetV) (ttl tag now valid : Int) (A : Option Addr) (sn : List Lab) (cap : Nat) (w : World) (hs : s.ok w) (hsn : s.n.length ≤ 1000) (hscap : s.n.length ≤ s.cap) (hscap2 : s.cap ≤ maxLen)
    (hc : Cs w A (sn.map strV)) (hn : sn.length ≤ 1000) (h1 : 0 ≤ now) (h2 : now ≤ 4294967295) (h3 : 0 ≤ valid) (h4 : valid ≤ 4294967295) :
    Calls Tryz.prog 16 #[s.v, .int .u32 ttl, .int .u16 tag, .slice A sn.length cap, .int .u32 now, .int .u32 valid] w fun e w' =>
      e = .returned (.agg #[.int .u16 s.t, .int .u8 253, .int .u8 (labels s.n), .int .u32 ttl, .int .u32 (plus now valid), .int .u32 now, .int .u16 tag, .slice A sn.length cap, .slice none 0 0]) ∧ Below w.heap.size w w' := by
  unfold SetV.v
  obtain ⟨hs1, _, _⟩ := hs
  have HS := Lib.hid hs1
  have HC := Lib.hid hc
  clear hs1 hc
  go_enter Tryz.func16, Tryz.ntmps16
  go_wp2_with fail
  generalize hw1 : (w.alloc (.cells #[.slice s.A s.n.length s.cap, .int .u16 s.t, .int .u32 s.ttl, .slice s.D s.ds.length s.dcap] 28)).alloc _ = w1
  have hb1 : Below w.heap.size w w1 := by rw [← hw1]; exact ((Below.refl _ _).alloc (Nat.le_refl _) _).alloc (by simp) _
  have hsz1 : w1.heap.size = w.heap.size + 2 := by rw [← hw1]; simp
  have HS1 := Lib.hid (HS.out.below hb1)
  have HC1 := Lib.hid (HC.out.below hb1)
  have hr : w1.heap[w.heap.size + 1]? = some (.cells #[.int .u16 0, .int .u8 0, .int .u8 0, .int .u32 0, .int .u32 0, .int .u32 0, .int .u16 0, .slice none 0 0, .slice none 0 0] 33 (0, 0)) := by
    have := heap_alloc_new (w.alloc (.cells #[.slice s.A s.n.length s.cap, .int .u16 s.t, .int .u32 s.ttl, .slice s.D s.ds.length s.dcap] 28)) (.cells #[.int .u16 0, .int .u8 0, .int .u8 0, .int .u32 0, .int .u32 0, .int .u32 0, .int .u16 0, .slice none 0 0, .slice none 0 0] 33)
    rw [World.size_alloc] at this
    rw [← hw1]; exact this
  have hx0 : w1.cell? ⟨w.heap.size, 0, none⟩ = some (.slice s.A s.n.length s.cap) := by rw [← hw1]; simp [go_sem]
  have hx1 : w1.cell? ⟨w.heap.size, 1, none⟩ = some (.int .u16 s.t) := by rw [← hw1]; simp [go_sem]
  clear hw1
  refine wp_region_rel (by kernel_rfl) (by kernel_rfl) (fun _ _ => false) (by kernel_rfl)
    (fun i W W' => if i = 13 then W.grownBy W' (some (w.heap.size + 1)) ∧ (∃ cs, W'.heap[w.heap.size + 1]? = some (.cells cs 33 (0, 0)) ∧ cs.size = 9) else Below W.heap.size W W')
    (fun W => w1.grownBy W (some (w.heap.size + 1)) ∧ ∃ cs, W.heap[w.heap.size + 1]? = some (.cells cs 33 (0, 0)) ∧ cs.size = 9)
    (fun i v W => match i with
      | 0 => v = .pointer (some ⟨w.heap.size, 1, none⟩)
      | 1 => v = .int .u16 s.t
      | 2 => v = .pointer (some ⟨w.heap.size, 0, none⟩)
      | 3 => v = .slice s.A s.n.length s.cap
      | 4 => v = .int .u8 (labels s.n)
      | 5 => v = .int .u32 ttl
      | 6 => v = .int .u32 now
      | 7 => v = .int .u32 valid
      | 8 => v = .int .u32 (plus now valid)
      | 9 => v = .int .u32 now
      | 10 => v = .int .u16 tag
      | 11 => v = .slice A sn.length cap
      | 12 => v = .agg #[.int .u16 s.t, .int .u8 253, .int .u8 (labels s.n), .int .u32 ttl, .int .u32 (plus now valid), .int .u32 now, .int .u16 tag, .slice A sn.length cap, .slice none 0 0]
      | 13 => W.heap[w.heap.size + 1]? = some (.cells #[.int .u16 s.t, .int .u8 253, .int .u8 (labels s.n), .int .u32 ttl, .int .u32 (plus now valid), .int .u32 now, .int .u16 tag, .slice A sn.length cap, .slice none 0 0] 33 (0, 0))
      | _ => True)
    ?_ ?_ ?_ ?_ ?_
  · exact ⟨⟨rfl, rfl, rfl, Nat.le_refl _, fun _ _ _ => rfl⟩, _, hr, rfl⟩
  · intro i W W' ⟨hg, hcs⟩ hT
    by_cases hi : i = 13
    · simp only [hi, if_true] at hT
      exact ⟨hg.trans hT.1, hT.2⟩
    · simp only [hi, if_false] at hT
      obtain ⟨cs, h5, h6⟩ := hcs
      exact ⟨hg.trans ⟨hT.os, hT.tape, hT.output, hT.size, fun k hk _ => hT.block k hk⟩, cs, (hT.block _ (lt_block h5)).trans h5, h6⟩
  · intro i j v W W' hij _ _ hCW hRj hT
    by_cases hi : i = 13
    · simp only [hi, if_true] at hT
      rcases j with _ | _ | _ | _ | _ | _ | _ | _ | _ | _ | _ | _ | _ | _ | j
      all_goals first
        | exact hRj
        | (exfalso; omega)
        | trivial
    · simp only [hi, if_false] at hT
      rcases j with _ | _ | _ | _ | _ | _ | _ | _ | _ | _ | _ | _ | _ | _ | j
      all_goals first
        | exact hRj
        | exact (hT.block _ (lt_block hRj)).trans hRj
  · intro i o hio vals W hCW haf
    have e0 : W.cell? ⟨w.heap.size, 0, none⟩ = some (.slice s.A s.n.length s.cap) := hCW.1.cell hx0 (by simp)
    have e1 : W.cell? ⟨w.heap.size, 1, none⟩ = some (.int .u16 s.t) := hCW.1.cell hx1 (by simp)
    have hbw : Below w.heap.size w W := hb1.grown hCW.1 hb1.size (fun k hk => by cases hk; omega)
    have hcs : Cs W s.A (s.n.map strV) := HS.out.below hbw
    have hcn : Cs W A (sn.map strV) := HC.out.below hbw
    have hWs := hCW.1.size
    rcases i with _ | _ | _ | _ | _ | _ | _ | _ | _ | _ | _ | _ | _ | _ | i
    · simp at hio
      subst hio
      simp [bindD, rdB, Region.binds] at haf
      simp [opYield_def, yieldUpon, relAct, dstAt, Act.put, Region.wanted, go_sem, haf, e0, e1, Below.refl]
    · simp at hio
      subst hio
      simp [bindD, rdB, Region.binds] at haf
      simp [opYield_def, yieldUpon, relAct, dstAt, Act.put, Region.wanted, go_sem, haf, e0, e1, Below.refl]
    · simp at hio
      subst hio
      simp [bindD, rdB, Region.binds] at haf
      simp [opYield_def, yieldUpon, relAct, dstAt, Act.put, Region.wanted, go_sem, haf, e0, e1, Below.refl]
    · simp at hio
      subst hio
      simp [bindD, rdB, Region.binds] at haf
      simp [opYield_def, yieldUpon, relAct, dstAt, Act.put, Region.wanted, go_sem, haf, e0, e1, Below.refl]
    · simp at hio
      subst hio
      simp [bindD, rdB, Region.binds] at haf
      simp [opYield_def, yieldUpon, relAct, dstAt, Act.put, Region.wanted, go_sem, haf]
      exact (RefLabels s.A s.n s.cap W hcs (by omega)).mono fun e W' ⟨h1, h2⟩ => ⟨h1, h2 ▸ Below.refl _ _⟩
    · simp at hio
      subst hio
      simp [bindD, rdB, Region.binds] at haf
      simp [opYield_def, yieldUpon, relAct, dstAt, Act.put, Region.wanted, go_sem, haf, e0, e1, Below.refl]
    · simp at hio
      subst hio
      simp [bindD, rdB, Region.binds] at haf
      simp [opYield_def, yieldUpon, relAct, dstAt, Act.put, Region.wanted, go_sem, haf, e0, e1, Below.refl]
    · simp at hio
      subst hio
      simp [bindD, rdB, Region.binds] at haf
      simp [opYield_def, yieldUpon, relAct, dstAt, Act.put, Region.wanted, go_sem, haf, e0, e1, Below.refl]
    · simp at hio
      subst hio
      simp [bindD, rdB, Region.binds] at haf
      simp [opYield_def, yieldUpon, relAct, dstAt, Act.put, Region.wanted, go_sem, haf]
      exact (RefPlus now valid h1 h2 h3 h4 W).mono fun e W' ⟨h1, h2⟩ => ⟨h1, h2 ▸ Below.refl _ _⟩
    · simp at hio
      subst hio
      simp [bindD, rdB, Region.binds] at haf
      simp [opYield_def, yieldUpon, relAct, dstAt, Act.put, Region.wanted, go_sem, haf, e0, e1, Below.refl]
    · simp at hio
      subst hio
      simp [bindD, rdB, Region.binds] at haf
      simp [opYield_def, yieldUpon, relAct, dstAt, Act.put, Region.wanted, go_sem, haf, e0, e1, Below.refl]
    · simp at hio
      subst hio
      simp [bindD, rdB, Region.binds] at haf
      simp [opYield_def, yieldUpon, relAct, dstAt, Act.put, Region.wanted, go_sem, haf, e0, e1, Below.refl]
    · simp at hio
      subst hio
      simp [bindD, rdB, Region.binds] at haf
      simp [opYield_def, yieldUpon, relAct, dstAt, Act.put, Region.wanted, go_sem, haf, e0, e1, Below.refl]
    · simp at hio
      subst hio
      have q13 := haf ⟨12, .data⟩ (by simp) (by decide)
      simp at q13
      clear haf
      refine hCW.2.elim fun cs hz => ?_
      have hcs2 := hz.1
      have hsz := hz.2
      refine yield_store (g := w.heap.size + 1) (cells := #[.int .u16 s.t, .int .u8 253, .int .u8 (labels s.n), .int .u32 ttl, .int .u32 (plus now valid), .int .u32 now, .int .u16 tag, .slice A sn.length cap, .slice none 0 0]) rfl rfl (by simp [relAct, dstAt, Act.put, Act.eval]) (by simp [relAct, dstAt, Act.put, Act.eval, q13]) hcs2 (by kernel_rfl) hsz (by simp [Value.oneCell']) ?_
      have hblk := setRow_block W (w.heap.size + 1) #[.int .u16 s.t, .int .u8 253, .int .u8 (labels s.n), .int .u32 ttl, .int .u32 (plus now valid), .int .u32 now, .int .u16 tag, .slice A sn.length cap, .slice none 0 0] cs 33 (0, 0) hcs2
      have hgr := setRow_grown W (w.heap.size + 1) #[.int .u16 s.t, .int .u8 253, .int .u8 (labels s.n), .int .u32 ttl, .int .u32 (plus now valid), .int .u32 now, .int .u16 tag, .slice A sn.length cap, .slice none 0 0]
      refine ⟨?_, hblk⟩
      rw [if_pos rfl]
      exact ⟨hgr, _, hblk, rfl⟩
    · simp at hio
  · intro vals W hCW hR
    have hblk := hR 13 (by show 13 < 14; omega) (fun _ _ => rfl)
    simp [relAct, dstAt, Act.put]
    clear hR
    obtain ⟨k0, k1, k2, k3, k4, k5, k6, k7, k8, _⟩ := cells9 hblk
    have hbw : Below w.heap.size w W := hb1.grown hCW.1 hb1.size (fun k hk => by cases hk; omega)
    clear hblk hCW hr hx0 hx1
    go_wp2_with fail
    refine bodyPost_ret (v := .agg #[.int .u16 s.t, .int .u8 253, .int .u8 (labels s.n), .int .u32 ttl, .int .u32 (plus now valid), .int .u32 now, .int .u16 tag, .slice A sn.length cap, .slice none 0 0]) ?_ rfl ⟨rfl, hbw⟩
    simp [results, Tryz.results16, go_sem, k0, k1, k2, k3, k4, k5, k6, k7, k8]
end Nm
end Go.Proofs.YtkeimgamjnpcbaaGreat

/- Contracts of the laws' help: names held against one another; light names. -/
namespace Go.Proofs.YtkeimgamjnpcbaaGreat
open Go.RowKit
set_option linter.unusedVariables false
namespace Nm
def NameR (a b : List Lab) (w : World) (i : Value) (wr : World) : Prop :=
  ∃ k : Nat, k ≤ a.length ∧ i = .int .i64 k ∧ a.take k = b.take k ∧ Below w.heap.size w wr
set_option maxRecDepth 100000 in
set_option maxHeartbeats 4000000 in
theorem HName (A B : Option Addr) (a b : List Lab) (ca cb : Nat) (w : World) (hca : Cs w A (a.map strV)) (hcb : Cs w B (b.map strV)) (hla : a.length ≤ 1000000) (hlb : b.length ≤ 1000000) :
    Calls Tryz.prog 32 #[.slice A a.length ca, .slice B b.length cb] w fun e w' => Below w.heap.size w w' ∧ e = .returned (.bool (decide (a = b))) := by
  have HA := Lib.hid hca
  have HB := Lib.hid hcb
  clear hca hcb
  by_cases hl : a.length = b.length
  · have hlb2 : ((a.length : Int) != (b.length : Int)) = false := by simp [hl]
    have HL := Lib.hid hl
    clear hl
    go_enter Tryz.func32, Tryz.ntmps32
    go_wp2_with fail
    go_loopw [5] (NameR a b w) (fun i _ => a.length - (intOf i).toNat)
    case atStart => exact ⟨0, Nat.zero_le _, rfl, rfl, Below.refl _ _⟩
    case round =>
      obtain ⟨k, hk, rfl, htk, hbel⟩ := hrel
      have HT := Lib.hid htk
      clear htk
      by_cases hlt : k < a.length
      · have hlt2 : k < b.length := by have := HL.out; omega
        obtain ⟨ba, oa, rfl, hba, hxa⟩ := Cs.str HA.out hlt
        obtain ⟨bb, ob, rfl, hbb, hxb⟩ := Cs.str HB.out hlt2
        have hxa1 := (hbel.cell (p := ⟨ba, oa + k, none⟩) hba).trans hxa
        have hxb1 := (hbel.cell (p := ⟨bb, ob + k, none⟩) hbb).trans hxb
        have HN : Hid (∀ h : a[k] = b[k], a.take (k + 1) = b.take (k + 1)) := Lib.hid (fun h => by rw [List.take_succ_eq_append_getElem hlt, List.take_succ_eq_append_getElem hlt2, HT.out, h])
        have HD : Hid (a[k] ≠ b[k] → a ≠ b) := Lib.hid (fun h e => h (by subst e; rfl))
        clear hxa hxb
        generalize a[k] = x at *
        generalize b[k] = y at *
        by_cases hxy : x = y
        · subst hxy
          have HN2 := Lib.hid (HN.out rfl)
          clear HN HD
          go_wp2_with fail
          go_region
          go_wp2_with fail
          exact ⟨⟨k + 1, hlt, by go_num, HN2.out, hbel.drew⟩, by simp [intOf]; omega⟩
        · have HD2 := Lib.hid (HD.out hxy)
          have hne : ((strB x).toList == (strB y).toList) = false := by rw [strB_toList, strB_toList, beq_eq_false_iff_ne]; exact hxy
          have hne2 : ((strB x).toList != (strB y).toList) = true := by rw [strB_toList, strB_toList, bne_iff_ne]; exact hxy
          clear HN HD hxy
          go_wp2_with fail
          go_region
          go_wp2_with fail
          go_ret
          exact ⟨hbel.drew, ret_bool (by simp [HD2.out])⟩
      · have HE : Hid (a = b) := Lib.hid (by
          have h1 := HT.out
          have h2 := HL.out
          rw [List.take_of_length_le (by omega), List.take_of_length_le (by omega)] at h1
          exact h1)
        go_wp2_with fail
        go_ret
        exact ⟨hbel, ret_bool (by simp [HE.out])⟩
  · have hlb2 : ((a.length : Int) != (b.length : Int)) = true := by simp; omega
    have HD : Hid (a ≠ b) := Lib.hid (fun e => hl (by rw [e]))
    go_enter Tryz.func32, Tryz.ntmps32
    go_wp2_with fail
    go_ret
    exact ⟨Below.refl _ _, ret_bool (by simp [HD.out])⟩
end Nm
end Go.Proofs.YtkeimgamjnpcbaaGreat

/- Contracts of the laws' help: signatures held against one another; light names, light sets. -/
namespace Go.Proofs.YtkeimgamjnpcbaaGreat
open Go.RowKit
set_option linter.unusedVariables false
namespace Nm
set_option maxRecDepth 100000 in
set_option maxHeartbeats 4000000 in
theorem HSig (t al lb ttl ex bg tg : Int) (A B : Option Addr) (a b : List Lab) (ca cb : Nat) (u v : Value) (hu : u.oneCell' = true) (hv : v.oneCell' = true) (w : World) (hca : Cs w A (a.map strV)) (hcb : Cs w B (b.map strV)) (hla : a.length ≤ 1000000) (hlb : b.length ≤ 1000000) :
    Calls Tryz.prog 15 #[.agg #[.int .u16 t, .int .u8 al, .int .u8 lb, .int .u32 ttl, .int .u32 ex, .int .u32 bg, .int .u16 tg, .slice A a.length ca, u], .agg #[.int .u16 t, .int .u8 al, .int .u8 lb, .int .u32 ttl, .int .u32 ex, .int .u32 bg, .int .u16 tg, .slice B b.length cb, v]] w fun e w' =>
      Below w.heap.size w w' ∧ e = .returned (.bool (decide (a = b))) := by
  have hb2 : ∀ o1 o2, Below w.heap.size w ((w.alloc o1).alloc o2) := fun o1 o2 => ((Below.refl _ _).alloc (Nat.le_refl _) _).alloc (by simp) _
  have hN : ∀ o1 o2, Calls Tryz.prog 32 #[.slice A a.length ca, .slice B b.length cb] ((w.alloc o1).alloc o2) fun e w' => Below w.heap.size w w' ∧ e = .returned (.bool (decide (a = b))) := fun o1 o2 =>
    (HName A B a b ca cb ((w.alloc o1).alloc o2) (hca.below (hb2 _ _)) (hcb.below (hb2 _ _)) hla hlb).mono fun e w' ⟨h1, h2⟩ => ⟨(hb2 o1 o2).trans (h1.mono (by simp; omega)), h2⟩
  have HN := Lib.hid hN
  clear hN hb2 hca hcb
  generalize decide (a = b) = r at *
  go_enter Tryz.func15, Tryz.ntmps15
  go_wp2_with fail
  refine (HN.out _ _).mono ?_
  rintro e w' ⟨hb, rfl⟩
  go_wp2_with fail
  go_ret
  exact ⟨hb, rfl⟩
def lens (n : List Lab) : Nat := (n.map List.length).sum
theorem lens_take {n : List Lab} {k : Nat} (h : k < n.length) : lens (n.take (k + 1)) = lens (n.take k) + n[k].length := by
  unfold lens
  rw [List.take_succ_eq_append_getElem h, List.map_append, List.sum_append]
  rfl
def lightN (n : List Lab) : Bool := decide (n.length ≤ 200) && n.all (fun l => decide (l.length ≤ 300)) && decide (lens n ≤ 2000)
theorem lightN_true {n : List Lab} (h : lightN n = true) : n.length ≤ 200 ∧ (∀ l ∈ n, l.length ≤ 300) ∧ lens n ≤ 2000 := by
  unfold lightN at h
  simp at h
  exact ⟨h.1.1, h.1.2, h.2⟩
theorem lightN_small {n : List Lab} (h : lightN n = true) : Small n := by
  obtain ⟨h1, h2, _⟩ := lightN_true h
  exact ⟨by omega, fun l hl => by have := h2 l hl; omega⟩
def LightR (n : List Lab) (w : World) (all i : Value) (wr : World) : Prop :=
  ∃ k : Nat, k ≤ n.length ∧ i = .int .i64 k ∧ all = .int .i64 (lens (n.take k)) ∧ (∀ l ∈ n.take k, l.length ≤ 300) ∧ lens (n.take k) ≤ k * 300 ∧ w = wr
set_option maxRecDepth 100000 in
set_option maxHeartbeats 4000000 in
theorem HLight (A : Option Addr) (n : List Lab) (cap : Nat) (w : World) (hc : Cs w A (n.map strV)) (hl : n.length ≤ maxLen) (hs : ∀ l ∈ n, l.length ≤ maxLen) :
    Calls Tryz.prog 42 #[.slice A n.length cap] w fun e w' => e = .returned (.bool (lightN n)) ∧ w = w' := by
  have HS := Lib.hid hs
  clear hs
  unfold maxLen at hl HS
  by_cases h2 : 200 < n.length
  · have HV : Hid (lightN n = false) := Lib.hid (by unfold lightN; simp; intro h; omega)
    go_enter Tryz.func42, Tryz.ntmps42
    go_wp2_with fail
    go_ret
    exact ⟨ret_bool HV.out.symm, rfl⟩
  · go_enter Tryz.func42, Tryz.ntmps42
    go_wp2_with fail
    go_loopw [3, 4] (LightR n w) (fun _ i _ => n.length - (intOf i).toNat)
    case atStart => exact ⟨0, Nat.zero_le _, rfl, rfl, by simp, by simp [lens], rfl⟩
    case round =>
      obtain ⟨k, hk, rfl, rfl, hall, hsum, rfl⟩ := hrel
      have HA := Lib.hid hall
      clear hall
      by_cases hlt : k < n.length
      · obtain ⟨bk, off, rfl, hbl, hc0⟩ := Cs.str hc hlt
        have hl6 := HS.out n[k] (List.getElem_mem hlt)
        have HL := Lib.hid (lens_take hlt)
        have hsz := strB_size n[k]
        have HM : Hid (n[k] ∈ n) := Lib.hid (List.getElem_mem hlt)
        have HN : Hid (∀ l ∈ n.take (k + 1), l ∈ n.take k ∨ l = n[k]) := Lib.hid (by
          intro l hl
          rw [List.take_succ_eq_append_getElem hlt, List.mem_append] at hl
          simpa only [List.mem_singleton] using hl)
        generalize n[k] = l at *
        generalize lens (n.take k) = s at *
        by_cases h3 : 300 < l.length
        · have HV : Hid (lightN n = false) := Lib.hid (by
            unfold lightN
            have : n.all (fun l => decide (l.length ≤ 300)) = false := by
              rw [List.all_eq_false]
              exact ⟨l, HM.out, by simp; omega⟩
            rw [this]; simp)
          go_wp2_with fail
          go_ret
          exact ⟨ret_bool HV.out.symm, rfl⟩
        · go_wp2_with fail
          refine ⟨⟨k + 1, by omega, by go_num, by rw [HL.out]; go_num, ?_, by rw [HL.out]; omega, rfl⟩, by simp [intOf]; omega⟩
          intro x hx
          rcases HN.out x hx with h | h
          · exact HA.out x h
          · rw [h]; omega
      · have hkn : k = n.length := by omega
        rw [hkn, List.take_length] at HA hsum ⊢
        clear hkn
        have HV : Hid (lightN n = decide (lens n ≤ 2000)) := Lib.hid (by
          unfold lightN
          have : n.all (fun l => decide (l.length ≤ 300)) = true := by
            rw [List.all_eq_true]
            intro l hl
            simpa using HA.out l hl
          rw [this]; simp; omega)
        go_wp2_with fail
        go_ret
        exact ⟨ret_bool (by rw [HV.out]; simp; omega), rfl⟩
end Nm
end Go.Proofs.YtkeimgamjnpcbaaGreat

/- Contracts of the reference's texts in small letters; of a place among so many. -/
namespace Go.Proofs.YtkeimgamjnpcbaaGreat
open Go.RowKit
set_option linter.unusedVariables false
set_option linter.unusedSimpArgs false
namespace Nm
theorem refLow (c : UInt8) (w : World) : Calls Tryz.prog 94 #[.int .u8 (c.toNat : Nat)] w fun e w' => e = .returned (.int .u8 ((lowB c).toNat : Nat)) ∧ w = w' := by
  have hc256 : c.toNat < 256 := UInt8.toNat_lt c
  by_cases hu : 65 ≤ c.toNat ∧ c.toNat ≤ 90
  · obtain ⟨hu1, hu2⟩ := hu
    have hb : (((lowB c).toNat : Nat) : Int) = (c.toNat : Int) + 32 := by
      unfold lowB
      rw [if_pos ⟨hu1, hu2⟩, UInt8.toNat_add]
      have : (32 : UInt8).toNat = 32 := rfl
      omega
    rw [hb]
    have hu1' : (65 : Int) ≤ (c.toNat : Int) := by omega
    have hu2' : (c.toNat : Int) ≤ 90 := by omega
    go_enter Tryz.func94, Tryz.ntmps94
    go_wp2_with fail
    go_ret
    exact ⟨rfl, rfl⟩
  · have hb : lowB c = c := by unfold lowB; rw [if_neg hu]
    rw [hb]
    by_cases h1 : 65 ≤ c.toNat
    · have hu1' : (65 : Int) ≤ (c.toNat : Int) := by omega
      have hu2' : (90 : Int) < (c.toNat : Int) := by omega
      clear hu hb
      go_enter Tryz.func94, Tryz.ntmps94
      go_wp2_with fail
      go_ret
      exact ⟨rfl, rfl⟩
    · have hu1' : (c.toNat : Int) < 65 := by omega
      clear hu h1 hb
      go_enter Tryz.func94, Tryz.ntmps94
      go_wp2_with fail
      go_ret
      exact ⟨rfl, rfl⟩
set_option maxHeartbeats 1000000 in
theorem LowText (l : Lab) (w : World) (hl : l.length ≤ 1000000) : Calls Tryz.prog 58 #[.string (strB l)] w fun e w' => e = .returned (.string (strB (low l))) ∧ Below w.heap.size w w' := by
  obtain ⟨w1, cap, cs, fr, hrun, hcap, hb1, hs1, hblk, htake, hfr⟩ := bytes_of w l
  go_enter Tryz.func58, Tryz.ntmps58
  go_wp2_with fail
  have HB := Lib.hid hblk
  have HT := Lib.hid htake
  clear hblk htake hrun
  go_loopw [4] (SmallR l w fr) (fun i _ => l.length - (intOf i).toNat)
  case atStart => exact ⟨0, cs, Nat.zero_le _, rfl, HB.out, by rw [half_zero]; exact HT.out, hb1⟩
  case round =>
    obtain ⟨k, cs, hk, rfl, hblk, htake, hbw⟩ := hrel
    have HB := Lib.hid hblk
    have HT := Lib.hid htake
    have ht2 : cs.toList.take (half l k).length = (half l k).map byteV := by rw [half_len]; exact htake
    by_cases hlt : k < l.length
    · have hk2 : k < (half l k).length := by rw [half_len]; exact hlt
      have hc := blk_cell hblk ht2 hk2
      rw [half_at hlt] at hc
      have hz := blk_frozen (i := k) hblk (by omega)
      clear hblk htake
      generalize hce : l[k] = c at *
      have hset := blk_set (i := k) HB.out ht2 (lowB c)
      rw [half_set hlt (lowB c) (by rw [hce])] at hset
      have HS := Lib.hid hset
      have hc' : wr.cell? ⟨w.heap.size, k, none⟩ = some (.int .u8 (c.toNat : Nat)) := hc
      clear hce ht2 hset hc
      go_wp2_with fail
      refine (refLow c _).mono ?_
      rintro e w2 ⟨rfl, rfl⟩
      go_wp2_with fail
      refine ⟨⟨k + 1, cs.setIfInBounds k (byteV (lowB c)), by omega, by go_num, HS.out.1, ?_, hbw.setCell (Nat.le_refl _) _⟩, by simp [intOf]; omega⟩
      have := HS.out.2; rw [half_len] at this; exact this
    · have hkl : k = l.length := by omega
      subst hkl
      have hcs := blk_cs hblk ht2
      rw [half_all] at hcs
      have hcv := run_str (P := Tryz.prog) wr Tryz.underlying31 Tryz.underlying5 Tryz.underlying9 cap hcs
      rw [low_len] at hcv
      clear hblk htake ht2 hcs
      go_wp2_with fail
      go_ret
      exact ⟨rfl, hbw⟩
set_option maxHeartbeats 1000000 in
theorem RLower (A : Option Addr) (n : List Lab) (cap : Nat) (w : World) (hc : Cs w A (n.map strV)) (hf : Few n) :
    Calls Tryz.prog 17 #[.slice A n.length cap] w fun e w' => ∃ v, e = .returned v ∧ w'.ownsRow w.heap.size 9 1 v n.length ((lower n).map strV) ∧ Below w.heap.size w w' := by
  obtain ⟨i0, hi, hz0, hz1, hz2⟩ := info_parts info_str
  have hlen := hf.1
  have HF := Lib.hid hf
  clear hf
  go_enter Tryz.func17, Tryz.ntmps17
  go_wp2_with fail
  go_loopw [3, 4] (LowerR n w) (fun _ i _ => n.length - (intOf i).toNat)
  case atStart => exact ⟨0, Nat.zero_le _, rfl, World.ownsRow_nil _ _ _ _, Below.refl _ _⟩
  case round =>
    obtain ⟨k, hk, rfl, hown, hbel⟩ := hrel
    by_cases hlt : k < n.length
    · obtain ⟨bk, off, rfl, hbl, hc0⟩ := Cs.str hc hlt
      have hc1 := (hbel.cell (p := ⟨bk, off + k, none⟩) hbl).trans hc0
      have hl6 : n[k].length ≤ 1000000 := by have := HF.out.2 n[k] (List.getElem_mem hlt); omega
      have HN : Hid ((lower (n.take (k + 1))).map strV = (lower (n.take k)).map strV ++ [strV (low n[k])]) := by
        show _ = _
        unfold lower
        rw [List.take_succ_eq_append_getElem hlt, List.map_append, List.map_append]; rfl
      generalize n[k] = l at *
      go_wp2_with fail
      refine (LowText l _ hl6).mono ?_
      rintro e w2 ⟨rfl, hb2⟩
      have hown2 := own_below hown hb2
      have hbel2 := hbel.trans (hb2.mono hbel.size)
      go_wp2_with (first | (at_builtin; refine wpList_push2 hown2 hbel2.size [strV (low l)] rfl (by simp [strV, Value.oneCell']) hi hz0 hz1 hz2 rfl (by decide) rfl _ _ 23 Tryz.underlying23 rfl rfl rfl (by unfold maxLen; omega) (by omega) ?_; intro v4 w4 hown4 hbw4; have hbw5 := hbel2.trans hbw4))
      exact ⟨⟨k + 1, by omega, by go_num, by rw [HN.out]; exact hown4, hbw5⟩, by simp [intOf]; omega⟩
    · have hkl : k = n.length := by omega
      rw [hkl, List.take_length] at hown
      clear hkl
      go_wp2_with fail
      go_ret
      exact ⟨_, rfl, hown, hbel⟩
/-- a place among so many -/
theorem Place (k : Int) (n : Nat) (w : World) (h1 : -9223372036854775808 ≤ k) (h2 : k ≤ 9223372036854775807) (hn : 1 ≤ n) (hn2 : n ≤ 1000) :
    Calls Tryz.prog 18 #[.int .i64 k, .int .i64 n] w fun e w' => ∃ j : Nat, e = .returned (.int .i64 j) ∧ j < n ∧ w = w' := by
  have hne : ¬ (n : Int) = 0 := by omega
  obtain ⟨m, hm, hm1, hm2⟩ : ∃ m : Int, k.tmod n = m ∧ -(n : Int) < m ∧ m < n := by
    refine ⟨_, rfl, ?_, Int.tmod_lt_of_pos _ (by omega)⟩
    have := Int.tmod_lt_of_pos (-k) (b := n) (by omega)
    rw [Int.neg_tmod] at this
    omega
  have hw : IntKind.i64.wrap m = m := IntWalk.i64_in _ (by omega)
  by_cases hneg : m < 0
  · obtain ⟨j, hj⟩ : ∃ j : Nat, m + n = j := ⟨(m + n).toNat, by omega⟩
    have hw2 : IntKind.i64.wrap (m + n) = m + n := IntWalk.i64_in _ (by omega)
    have hjn : j < n := by omega
    go_enter Tryz.func18, Tryz.ntmps18
    go_wp2_with fail
    go_ret
    exact ⟨j, by first | rfl | rw [hj], hjn, rfl⟩
  · obtain ⟨j, hj⟩ : ∃ j : Nat, m = j := ⟨m.toNat, by omega⟩
    have hjn : j < n := by omega
    go_enter Tryz.func18, Tryz.ntmps18
    go_wp2_with fail
    go_ret
    exact ⟨j, by first | rfl | rw [hj], hjn, rfl⟩
end Nm
end Go.Proofs.YtkeimgamjnpcbaaGreat

/- Plain law: how long what is signed may be; names that are said in small letters already. -/
namespace Go.Proofs.YtkeimgamjnpcbaaGreat
open Go.RowKit
set_option linter.unusedVariables false
set_option linter.unusedSimpArgs false
namespace Nm
theorem wires_lens : ∀ n : List Lab, (wires n).length = lens n + n.length
  | [] => rfl
  | l :: n => by
    have ih := wires_lens n
    have e : wires (l :: n) = wire1 l ++ wires n := by simp [wires]
    have e2 : lens (l :: n) = l.length + lens n := by simp [lens]
    rw [e, List.length_append, ih, e2, List.length_cons]
    simp [wire1]
    omega
theorem wire_lens (n : List Lab) : (wire n).length = lens n + n.length + 1 := by
  unfold wire
  rw [List.length_append, wires_lens]
  rfl
theorem lens_lower (n : List Lab) : lens (lower n) = lens n := by
  unfold lens lower
  rw [List.map_map]
  congr 1
  apply List.map_congr_left
  intro l _
  exact low_len l
theorem lens_drop (n : List Lab) (k : Nat) : lens (n.drop k) ≤ lens n := by
  have h : lens (n.take k ++ n.drop k) = lens (n.take k) + lens (n.drop k) := by unfold lens; rw [List.map_append, List.sum_append]
  rw [List.take_append_drop] at h
  omega
theorem wire_lower_len (n : List Lab) : (wire (lower n)).length = (wire n).length := by rw [wire_lens, wire_lens, lens_lower, lower_len]
theorem openN_len (b : Lab) : (wire (lower (openN b))).length ≤ b.length + 1 := by
  rw [wire_lower_len]
  cases hO : openO b with
  | none => rw [(openO_none hO).2.1]; simp [wire, wires]
  | some p =>
    obtain ⟨n, k⟩ := p
    obtain ⟨_, _, _, h4, _⟩ := openO_some hO
    obtain ⟨g1, g2, _, _⟩ := openO_le hO
    rw [h4, g2, List.length_take]
    omega
theorem soaO_len {b : Lab} {m x : List Lab} {k : Nat} (h : soaO b = some (m, x, k)) : (wire (lower m) ++ wire (lower x) ++ b.drop k).length ≤ 3 * b.length + 30 := by
  unfold soaO at h
  cases h1 : openO b with
  | none => rw [h1] at h; cases h
  | some p =>
    obtain ⟨m', i⟩ := p
    rw [h1] at h
    simp only at h
    cases h2 : openO (b.drop i) with
    | none => rw [h2] at h; cases h
    | some q =>
      obtain ⟨x', j⟩ := q
      rw [h2] at h
      simp only at h
      split at h
      · simp only [Option.some.injEq, Prod.mk.injEq] at h
        obtain ⟨rfl, rfl, rfl⟩ := h
        obtain ⟨g1, g2, _, _⟩ := openO_le h1
        obtain ⟨g3, g4, _, _⟩ := openO_le h2
        rw [List.length_append, List.length_append, wire_lower_len, wire_lower_len, g2, g4, List.length_take, List.length_take, List.length_drop, List.length_drop]
        omega
      · cases h
theorem canonO_len (t : Int) (b : Lab) : (canonO t b).length ≤ 3 * b.length + 30 := by
  unfold canonO
  split
  · have := openN_len b
    omega
  · split
    · have := openN_len (b.drop 2)
      rw [List.length_append, List.length_take]
      rw [List.length_drop] at this
      omega
    · split
      · cases hs : soaO b with
        | none => simp
        | some p =>
          obtain ⟨m, x, k⟩ := p
          exact soaO_len hs
      · split
        · have := openN_len (b.drop 18)
          rw [List.length_append, List.length_append, List.length_take, List.length_drop]
          rw [List.length_drop] at this
          omega
        · omega
theorem canX_len (t : Int) (b : Lab) : (canX t b).length ≤ 3 * b.length + 30 := by
  unfold canX canonD
  split
  · omega
  · split
    · exact canonO_len t b
    · omega
theorem ownN_len (n : List Lab) (lb : Nat) (h : lightN n = true) : (wire (ownN n lb)).length ≤ 10000 := by
  obtain ⟨h1, h2, h3⟩ := lightN_true h
  unfold ownN
  split
  · rw [wire_lower_len, wire_lens]
    omega
  · rw [wire_lens]
    have a := lens_drop (lower n) (n.length - lb)
    have b : lens (star :: (lower n).drop (n.length - lb)) = 1 + lens ((lower n).drop (n.length - lb)) := by simp [lens, star]
    rw [lens_lower] at a
    rw [b, List.length_cons, List.length_drop, lower_len]
    omega
theorem low_bytes_len (g : SigM) (h : lightN g.n = true) : g.low.bytes.length ≤ 10000 := by
  obtain ⟨h1, h2, h3⟩ := lightN_true h
  have e : g.low.bytes.length = 18 + (wire (lower g.n)).length + 0 := by simp [SigM.bytes, SigM.low, be2, be4]; omega
  rw [e, wire_lower_len, wire_lens]
  omega
theorem ownN_lower (n : List Lab) (lb : Nat) : ownN (lower n) lb = ownN n lb := by
  unfold ownN
  rw [lower_len, lower_idem]
theorem msgL_lower (n : List Lab) (t : Nat) (ys : List Lab) (g : SigM) : msgL (lower n) t ys g = msgL n t ys g := by
  unfold msgL
  rw [ownN_lower]
theorem lightN_lower {n : List Lab} (h : lightN n = true) : lightN (lower n) = true := by
  obtain ⟨h1, h2, h3⟩ := lightN_true h
  unfold lightN
  rw [lower_len, lens_lower]
  simp only [Bool.and_eq_true, decide_eq_true_eq, List.all_eq_true]
  refine ⟨⟨h1, fun l hl => ?_⟩, h3⟩
  obtain ⟨x, hx, rfl⟩ := List.mem_map.1 hl
  rw [low_len]
  exact h2 x hx
theorem HBytes (A B : Option Addr) (a b : Lab) (c d : Nat) (w : World) (hA : Cs w A (a.map byteV)) (hB : Cs w B (b.map byteV)) :
    Calls Tryz.prog 19 #[.slice A a.length c, .slice B b.length d] w fun e w' => e = .returned (.bool (decide (a = b))) ∧ w = w' := by
  have h1 := run_str (P := Tryz.prog) w Tryz.underlying31 Tryz.underlying5 Tryz.underlying9 c hA
  have h2 := run_str (P := Tryz.prog) w Tryz.underlying31 Tryz.underlying5 Tryz.underlying9 d hB
  go_enter Tryz.func19, Tryz.ntmps19
  go_wp2_with fail
  go_ret
  exact ⟨ret_bool (by rw [Bool.eq_iff_iff]; simp), rfl⟩
end Nm
end Go.Proofs.YtkeimgamjnpcbaaGreat

/- The walk of CanonFresh: light sets. -/
namespace Go.Proofs.YtkeimgamjnpcbaaGreat
open Go.RowKit
set_option linter.unusedVariables false
namespace Nm
def lightS (s : SetV) (sn : List Lab) : Bool := decide (s.ds.length ≤ 10) && lightN s.n && lightN sn && s.ds.all (fun d => decide (d.l.length ≤ 500))
def LightL (ds : List Blob) (w : World) (i : Value) (wr : World) : Prop :=
  ∃ k : Nat, k ≤ ds.length ∧ i = .int .i64 k ∧ (∀ d ∈ ds.take k, d.l.length ≤ 500) ∧ w = wr
set_option maxRecDepth 100000 in
set_option maxHeartbeats 20000000 in
theorem Light (s : SetV) (A : Option Addr) (sn : List Lab) (cap : Nat) (w : World) (hs : s.ok w) (hc : Cs w A (sn.map strV)) (hl1 : s.n.length ≤ maxLen) (hl2 : ∀ l ∈ s.n, l.length ≤ maxLen) (hl3 : sn.length ≤ maxLen) (hl4 : ∀ l ∈ sn, l.length ≤ maxLen) (hl5 : ∀ d ∈ s.ds, d.l.length ≤ maxLen) (hl6 : s.ds.length ≤ maxLen) :
    Calls Tryz.prog 13 #[s.v, .agg #[.int .u16 0, .int .u8 0, .int .u8 0, .int .u32 0, .int .u32 0, .int .u32 0, .int .u16 0, .slice A sn.length cap, .slice none 0 0]] w fun e w' =>
      e = .returned (.bool (lightS s sn)) ∧ Below w.heap.size w w' := by
  unfold SetV.v
  generalize hw2 : (w.alloc (.cells #[.slice s.A s.n.length s.cap, .int .u16 s.t, .int .u32 s.ttl, .slice s.D s.ds.length s.dcap] 28)).alloc (.cells #[.int .u16 0, .int .u8 0, .int .u8 0, .int .u32 0, .int .u32 0, .int .u32 0, .int .u16 0, .slice A sn.length cap, .slice none 0 0] 33) = w2
  have hb2 : Below w.heap.size w w2 := by rw [← hw2]; exact ((Below.refl _ _).alloc (Nat.le_refl _) _).alloc (by simp) _
  have hsz2 : w2.heap.size = w.heap.size + 2 := by rw [← hw2]; simp
  have hq : w2.heap[w.heap.size]? = some (.cells #[.slice s.A s.n.length s.cap, .int .u16 s.t, .int .u32 s.ttl, .slice s.D s.ds.length s.dcap] 28 (0, 0)) := by
    rw [← hw2]
    have := heap_alloc_new w (.cells #[.slice s.A s.n.length s.cap, .int .u16 s.t, .int .u32 s.ttl, .slice s.D s.ds.length s.dcap] 28)
    rw [Below.heap_alloc _ _ _ (by simp)]
    exact this
  have hgq : w2.heap[w.heap.size + 1]? = some (.cells #[.int .u16 0, .int .u8 0, .int .u8 0, .int .u32 0, .int .u32 0, .int .u32 0, .int .u16 0, .slice A sn.length cap, .slice none 0 0] 33 (0, 0)) := by
    have := heap_alloc_new (w.alloc (.cells #[.slice s.A s.n.length s.cap, .int .u16 s.t, .int .u32 s.ttl, .slice s.D s.ds.length s.dcap] 28)) (.cells #[.int .u16 0, .int .u8 0, .int .u8 0, .int .u32 0, .int .u32 0, .int .u32 0, .int .u16 0, .slice A sn.length cap, .slice none 0 0] 33)
    rw [World.size_alloc] at this
    rw [← hw2]; exact this
  have s0 : w2.cell? ⟨w.heap.size, 0, none⟩ = some (.slice s.A s.n.length s.cap) := by rw [cell_of_row _ _ 0 _ _ _ hq]; rfl
  have s3 : w2.cell? ⟨w.heap.size, 3, none⟩ = some (.slice s.D s.ds.length s.dcap) := by rw [cell_of_row _ _ 3 _ _ _ hq]; rfl
  obtain ⟨k0, k1, k2, k3, k4, k5, k6, k7, k8, kf⟩ := cells9 hgq
  have HN := Lib.hid (hs.1.below hb2)
  have HD := Lib.hid (hs.2.1.below hb2)
  have HC := Lib.hid (hc.below hb2)
  have HL1 := Lib.hid (HLight s.A s.n s.cap w2 HN.out hl1 hl2)
  have HL2 := Lib.hid (HLight A sn cap w2 HC.out hl3 hl4)
  have H5 := Lib.hid hl5
  have HV : Hid (∀ b c : Bool, lightN s.n = b → lightN sn = c → s.ds.length ≤ 10 → lightS s sn = (b && c && s.ds.all (fun d => decide (d.l.length ≤ 500)))) := Lib.hid (by
    intro b c h1 h2 h3
    unfold lightS
    rw [h1, h2, decide_eq_true h3, Bool.true_and])
  have HV2 : Hid (10 < s.ds.length → lightS s sn = false) := Lib.hid (by
    intro h
    unfold lightS
    rw [decide_eq_false (by omega)]
    rfl)
  generalize hln : lightN s.n = b1 at *
  generalize hls : lightN sn = b2 at *
  have hds : (s.ds.length : Int) ≤ 9223372036854775807 := by unfold maxLen at hl6; omega
  have HVV := Lib.hid (HV.out b1 b2 rfl rfl)
  clear hs hc hq hgq hl1 hl2 hl3 hl4 hl5 hl6 HV
  generalize hds2 : s.ds = ds at *
  by_cases h10 : 10 < ds.length
  · have hv := HV2.out h10
    have hd : decide (10 < (ds.length : Int)) = true := decide_eq_true (by omega)
    generalize lightS s sn = r at *
    subst hv
    go_enter Tryz.func13, Tryz.ntmps13
    go_wp2_with fail
    go_ret
    exact ⟨rfl, hb2⟩
  · have hvv := HVV.out (by omega)
    have hd : decide (10 < (ds.length : Int)) = false := decide_eq_false (by omega)
    generalize lightS s sn = r at *
    subst hvv
    cases b1
    · have hvf : (false && b2 && ds.all (fun d => decide (d.l.length ≤ 500))) = false := by simp
      rw [hvf]
      go_enter Tryz.func13, Tryz.ntmps13
      go_wp2_with fail
      refine HL1.out.mono ?_
      rintro e w3 ⟨rfl, rfl⟩
      clear hw2
      go_wp2_with fail
      go_ret
      exact ⟨rfl, hb2⟩
    · cases b2
      · have hvf : (true && false && ds.all (fun d => decide (d.l.length ≤ 500))) = false := by simp
        rw [hvf]
        go_enter Tryz.func13, Tryz.ntmps13
        go_wp2_with fail
        refine HL1.out.mono ?_
        rintro e w3 ⟨rfl, rfl⟩
        clear hw2
        go_wp2_with fail
        refine HL2.out.mono ?_
        rintro e w3 ⟨rfl, rfl⟩
        go_wp2_with fail
        go_ret
        exact ⟨rfl, hb2⟩
      · rw [Bool.true_and, Bool.true_and]
        obtain ⟨r, hr⟩ : ∃ r, r = ds.all (fun d => decide (d.l.length ≤ 500)) := ⟨_, rfl⟩
        rw [← hr]
        have HR := Lib.hid hr.symm
        clear hr
        go_enter Tryz.func13, Tryz.ntmps13
        go_wp2_with fail
        refine HL1.out.mono ?_
        rintro e w3 ⟨rfl, rfl⟩
        clear hw2
        go_wp2_with fail
        refine HL2.out.mono ?_
        rintro e w3 ⟨rfl, rfl⟩
        go_wp2_with fail
        go_loopw [5] (LightL ds w2) (fun i _ => ds.length - (intOf i).toNat)
        case atStart => exact ⟨0, Nat.zero_le _, rfl, by simp, rfl⟩
        case round =>
          obtain ⟨k, hk, rfl, hdk, rfl⟩ := hrel
          have HK := Lib.hid hdk
          clear hdk
          have hlD : ds.length ≤ 10 := by omega
          by_cases hlt : k < ds.length
          · obtain ⟨bk, off, hA, hbl, hc0⟩ := Cs.blob HD.out hlt
            have hl5' := H5.out ds[k] (List.getElem_mem hlt)
            have HM : Hid (ds[k] ∈ ds) := Lib.hid (List.getElem_mem hlt)
            have HN2 : Hid (∀ d ∈ ds.take (k + 1), d ∈ ds.take k ∨ d = ds[k]) := Lib.hid (by
              intro l hl
              rw [List.take_succ_eq_append_getElem hlt, List.mem_append] at hl
              simpa only [List.mem_singleton] using hl)
            generalize ds[k] = d at *
            unfold maxLen at hl5'
            rw [hA] at s3
            by_cases h3 : 500 < d.l.length
            · have hvf : r = false := by
                rw [← HR.out]
                rw [List.all_eq_false]
                exact ⟨d, HM.out, by simp; omega⟩
              subst hvf
              have hdd : decide (500 < (d.l.length : Int)) = true := decide_eq_true (by omega)
              go_wp2_with fail
              go_ret
              exact ⟨rfl, hb2⟩
            · have hdd : decide (500 < (d.l.length : Int)) = false := decide_eq_false (by omega)
              go_wp2_with fail
              refine ⟨⟨k + 1, by omega, by go_num, ?_, rfl⟩, by simp [intOf]; omega⟩
              intro x hx
              rcases HN2.out x hx with h | h
              · exact HK.out x h
              · rw [h]; omega
          · have hkn : k = ds.length := by omega
            have hvt : r = true := by
              rw [← HR.out, List.all_eq_true]
              intro d hd2
              have := HK.out d (by rw [hkn, List.take_length]; exact hd2)
              simpa using this
            subst hvt
            rw [hkn]
            go_wp2_with fail
            go_ret
            exact ⟨rfl, hb2⟩
end Nm
end Go.Proofs.YtkeimgamjnpcbaaGreat
