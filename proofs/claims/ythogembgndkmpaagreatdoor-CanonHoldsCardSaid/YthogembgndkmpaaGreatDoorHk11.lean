/-
  Texts merged by a program (MsgG, YGrow).
-/
import Derived.ArgAppend
import Derived.Test.YthogembgndkmpaaGreatDoorHk5
import Derived.Test.YthogembgndkmpaaGreatDoorHk10
set_option linter.unusedSimpArgs false
set_option linter.unusedVariables false
/- Contracts of package canon: Message, of any set. (Printed by a program: wip/gen_msgg.py.) -/
namespace Go.Proofs.YthogembgndkmpaaGreatDoor
open Go.RowKit
namespace Nm
def star : Lab := [42]
/-- the owner that is signed -/
def ownN (n : List Lab) (lb : Nat) : List Lab := if n.length ≤ lb then lower n else star :: (lower n).drop (n.length - lb)
def headO (o : List Lab) (t ttl : Nat) : Lab := wire o ++ (be2 t ++ [0, 1] ++ be4 ttl)
/-- what is signed -/
def msgL (n : List Lab) (t : Nat) (ys : List Lab) (g : SigM) : Lab := g.low.bytes ++ ys.flatMap (fun y => headO (ownN n g.lb) t g.ttl ++ be2 y.length ++ y)
theorem told_mem {l d : List Lab} (h : Told l d) : ∀ x ∈ d, x ∈ l := by
  obtain ⟨s, h1, h2, rfl⟩ := h
  intro x hx
  exact h1.mem_iff.1 ((once_mem s x).1 hx)
theorem told_len {l d : List Lab} (h : Told l d) : d.length ≤ l.length := by
  obtain ⟨s, h1, h2, rfl⟩ := h
  rw [← h1.length_eq]
  exact once_len s
theorem pieces_len (hb : Lab) (xs : List Blob) (h1 : ∀ x ∈ xs, x.l.length ≤ 20000) (h2 : hb.length ≤ 10008) : ∀ k, k ≤ xs.length → ((xs.take k).flatMap (fun x => hb ++ be2 x.l.length ++ x.l)).length ≤ k * 30010
  | 0, _ => by simp
  | k + 1, hk => by
    have ih := pieces_len hb xs h1 h2 k (by omega)
    have hx := h1 xs[k] (List.getElem_mem _)
    rw [List.take_add_one, List.getElem?_eq_getElem (by omega), List.flatMap_append, List.length_append]
    have e : ((some xs[k]).toList.flatMap (fun x : Blob => hb ++ be2 x.l.length ++ x.l)).length = hb.length + 2 + xs[k].l.length := by
      rw [show (some xs[k]).toList = [xs[k]] from rfl, List.flatMap_singleton, List.length_append, List.length_append]
      rfl
    rw [e]
    omega
theorem own_capM {w : World} {B n c : Nat} {e : TypeId} {A : Option Addr} {xs : List Value} (h : w.ownsRow B e 1 (.slice A n c) n xs) : n ≤ c := by
  rcases h.2 with ⟨h1, rfl⟩ | ⟨g, cap, cur, h1, _, _, hc, _⟩
  · omega
  · cases h1
    exact hc
def MsgR (w W1 : World) (gb hb : Lab) (xs : List Blob) (vi vo : Value) (W : World) : Prop := ∃ k : Nat, k ≤ xs.length ∧ vi = .int .i64 k ∧ W.ownsRow w.heap.size 5 1 vo (gb ++ (xs.take k).flatMap (fun x => hb ++ be2 x.l.length ++ x.l)).length ((gb ++ (xs.take k).flatMap (fun x => hb ++ be2 x.l.length ++ x.l)).map byteV) ∧ Below W1.heap.size W1 W
set_option maxRecDepth 100000 in
set_option maxHeartbeats 20000000 in
theorem MessageGC (A D : Option Addr) (n : List Lab) (cap dcap t : Nat) (sttl : Int) (ds : List Blob) (g : SigM) (SA SS : Option Addr) (sc ssc : Nat) (w : World) (hCC : CanonC t) (ht2 : t < 65536) (hA : Cs w A (n.map strV)) (hn : Small n) (hD : Cs w D (ds.map Blob.v)) (hds : Blobs w ds) (hdl : ds.length ≤ 20) (hcap : ∀ d ∈ ds, d.l.length ≤ 100000 ∧ d.l.length ≤ d.cap ∧ d.cap ≤ maxLen) (hcx : ∀ d ∈ ds, (canX t d.l).length ≤ 20000)
    (hg : g.fits) (hSA : Cs w SA (g.n.map strV)) (hgl : g.low.bytes.length ≤ 10000) (hwo : (wire (ownN n g.lb)).length ≤ 10000) :
    Calls Tryz.prog 18 #[.agg #[.slice A n.length cap, .int .u16 t, .int .u32 sttl, .slice D ds.length dcap], g.v SA sc SS ssc] w fun e w' =>
      ∃ v ys, e = .returned v ∧ Told (ds.map fun d => canX t d.l) ys ∧ w'.ownsRow w.heap.size 5 1 v (msgL n t ys g).length ((msgL n t ys g).map byteV) ∧ Below w.heap.size w w' := by
  obtain ⟨i0, hi, hz0, hz1, hz2⟩ := info_parts info_u8
  unfold SigM.v
  generalize hw2 : (w.alloc (.cells #[.slice A n.length cap, .int .u16 t, .int .u32 sttl, .slice D ds.length dcap] 34)).alloc (.cells #[.int .u16 g.t, .int .u8 g.al, .int .u8 g.lb, .int .u32 g.ttl, .int .u32 g.ex, .int .u32 g.bg, .int .u16 g.tg, .slice SA g.n.length sc, .slice SS g.s.length ssc] 41) = w2
  have hb2 : Below w.heap.size w w2 := by rw [← hw2]; exact ((Below.refl _ _).alloc (Nat.le_refl _) _).alloc (by simp) _
  have hsz2 : w2.heap.size = w.heap.size + 2 := by rw [← hw2]; simp
  have hs : w2.heap[w.heap.size]? = some (.cells #[.slice A n.length cap, .int .u16 t, .int .u32 sttl, .slice D ds.length dcap] 34 (0, 0)) := by
    rw [← hw2]
    have := heap_alloc_new w (.cells #[.slice A n.length cap, .int .u16 t, .int .u32 sttl, .slice D ds.length dcap] 34)
    rw [Below.heap_alloc _ _ _ (by simp)]
    exact this
  have hgq : w2.heap[w.heap.size + 1]? = some (.cells #[.int .u16 g.t, .int .u8 g.al, .int .u8 g.lb, .int .u32 g.ttl, .int .u32 g.ex, .int .u32 g.bg, .int .u16 g.tg, .slice SA g.n.length sc, .slice SS g.s.length ssc] 41 (0, 0)) := by
    have := heap_alloc_new (w.alloc (.cells #[.slice A n.length cap, .int .u16 t, .int .u32 sttl, .slice D ds.length dcap] 34)) (.cells #[.int .u16 g.t, .int .u8 g.al, .int .u8 g.lb, .int .u32 g.ttl, .int .u32 g.ex, .int .u32 g.bg, .int .u16 g.tg, .slice SA g.n.length sc, .slice SS g.s.length ssc] 41)
    rw [World.size_alloc] at this
    rw [← hw2]; exact this
  have s0 : w2.cell? ⟨w.heap.size, 0, none⟩ = some (.slice A n.length cap) := by rw [cell_of_row _ _ 0 _ _ _ hs]; rfl
  have s1 : w2.cell? ⟨w.heap.size, 1, none⟩ = some (.int .u16 t) := by rw [cell_of_row _ _ 1 _ _ _ hs]; rfl
  have s2 : w2.cell? ⟨w.heap.size, 2, none⟩ = some (.int .u32 sttl) := by rw [cell_of_row _ _ 2 _ _ _ hs]; rfl
  have s3 : w2.cell? ⟨w.heap.size, 3, none⟩ = some (.slice D ds.length dcap) := by rw [cell_of_row _ _ 3 _ _ _ hs]; rfl
  obtain ⟨k0, k1, k2, k3, k4, k5, k6, k7, k8, kf⟩ := cells9 hgq
  have HA := Lib.hid (hA.below hb2)
  have HA0 := Lib.hid hA
  have HD0 := Lib.hid hD
  have HB0 := Lib.hid hds
  have HD := Lib.hid (hD.below hb2)
  have HCap := Lib.hid hcap
  have HCx := Lib.hid hcx
  have HSA := Lib.hid (hSA.below hb2)
  go_enter Tryz.func18, Tryz.ntmps18
  go_wp2_with fail
  clear hw2 hA hD hds hcap hcx hSA hs hgq HA HD
  refine (Lower SA g.n sc w2 HSA.out hg.n.few).mono ?_
  rintro e w3 ⟨v3, rfl, hown3, hb3⟩
  obtain ⟨A3, c3, rfl, _, hcs3⟩ := Cs.of_own hown3
  have hz3 := hb3.size
  have t0 := (bcl (o := 0) hb3 (show w.heap.size < _ by omega)).trans s0
  have t1 := (bcl (o := 1) hb3 (show w.heap.size < _ by omega)).trans s1
  have t2 := (bcl (o := 2) hb3 (show w.heap.size < _ by omega)).trans s2
  have t3 := (bcl (o := 3) hb3 (show w.heap.size < _ by omega)).trans s3
  have r0 := (bcl (o := 0) hb3 (show w.heap.size + 1 < _ by omega)).trans k0
  have r1 := (bcl (o := 1) hb3 (show w.heap.size + 1 < _ by omega)).trans k1
  have r2 := (bcl (o := 2) hb3 (show w.heap.size + 1 < _ by omega)).trans k2
  have r3 := (bcl (o := 3) hb3 (show w.heap.size + 1 < _ by omega)).trans k3
  have r4 := (bcl (o := 4) hb3 (show w.heap.size + 1 < _ by omega)).trans k4
  have r5 := (bcl (o := 5) hb3 (show w.heap.size + 1 < _ by omega)).trans k5
  have r6 := (bcl (o := 6) hb3 (show w.heap.size + 1 < _ by omega)).trans k6
  have r7 := (bcl (o := 7) hb3 (show w.heap.size + 1 < _ by omega)).trans k7
  have r8 := (bcl (o := 8) hb3 (show w.heap.size + 1 < _ by omega)).trans k8
  have f7 := (bfr (o := 7) hb3 (show w.heap.size + 1 < _ by omega)).trans (kf 7)
  have f8 := (bfr (o := 8) hb3 (show w.heap.size + 1 < _ by omega)).trans (kf 8)
  have hb23 := hb2.trans (hb3.mono (by omega))
  have HG := Lib.hid hg
  have HGB := Lib.hid hgl
  have HC3 := Lib.hid hcs3
  have hw3 : ∀ a, A3 = some a → (lower g.n).map strV ≠ [] → w2.heap.size ≤ a.block := fun a ha hx => (hown3.lt a.block (by rw [ha]; rfl)).1
  have HW3 := Lib.hid hw3
  clear k0 k1 k2 k3 k4 k5 k6 k7 k8 kf s0 s1 s2 s3 hb2 hown3 hcs3 hg hw3
  go_wp2_with fail
  generalize hw4 : (w3.setCell ⟨w.heap.size + 1, 8, none⟩ (.slice none 0 0)).setCell ⟨w.heap.size + 1, 7, none⟩ (.slice A3 g.n.length c3) = w4
  have hk4 : Kept (fun k => k = w.heap.size + 1) w3 w4 := by rw [← hw4]; exact kept_set2 _ _ _ _ _ _
  have hz4 := hk4.size
  have u0 := (hk4.cell (o := 0) (show w.heap.size < _ by omega) (by omega)).trans t0
  have u1 := (hk4.cell (o := 1) (show w.heap.size < _ by omega) (by omega)).trans t1
  have u2 := (hk4.cell (o := 2) (show w.heap.size < _ by omega) (by omega)).trans t2
  have u3 := (hk4.cell (o := 3) (show w.heap.size < _ by omega) (by omega)).trans t3
  have x2 : w4.cell? ⟨w.heap.size + 1, 2, none⟩ = some (.int .u8 g.lb) := by
    rw [← hw4, setc_near (by decide), setc_near (by decide)]
    exact r2
  have x3 : w4.cell? ⟨w.heap.size + 1, 3, none⟩ = some (.int .u32 g.ttl) := by
    rw [← hw4, setc_near (by decide), setc_near (by decide)]
    exact r3
  have hb4 : Below w.heap.size w w4 := hb23.trans (hk4.below (by omega) (fun k hk => by omega))
  have hcs4 : Cs w4 A3 ((lower g.n).map strV) := Kept.cs HC3.out hk4 (fun a ha hx => by have := HW3.out a ha hx; omega)
  have hsb := SigBytes g.low (SigM.low_fits HG.out) A3 none c3 0 w4 hcs4 (Cs.nil _ _)
  have hll := lower_len g.n
  unfold SigM.v SigM.low at hsb
  simp only [hll, List.length_nil] at hsb
  have HS := Lib.hid hsb
  clear hsb hcs4 r0 r1 r2 r3 r4 r5 r6 r7 r8 f7 f8 t0 t1 t2 t3 hw4
  refine HS.out.mono ?_
  rintro e w5 ⟨v5, rfl, hown5, hb5⟩
  have hz5 := hb5.size
  have y0 := (bcl (o := 0) hb5 (show w.heap.size < _ by omega)).trans u0
  have y1 := (bcl (o := 1) hb5 (show w.heap.size < _ by omega)).trans u1
  have y2 := (bcl (o := 2) hb5 (show w.heap.size < _ by omega)).trans u2
  have y3 := (bcl (o := 3) hb5 (show w.heap.size < _ by omega)).trans u3
  have z2 := (bcl (o := 2) hb5 (show w.heap.size + 1 < _ by omega)).trans x2
  have z3 := (bcl (o := 3) hb5 (show w.heap.size + 1 < _ by omega)).trans x3
  have H5 : Hid (w5.ownsRow w.heap.size 5 1 v5 g.low.bytes.length (g.low.bytes.map byteV)) := Lib.hid (own_base hown5 hb4.size)
  have hb5' := hb4.trans (hb5.mono hb4.size)
  clear hown5 u0 u1 u2 u3 x2 x3 HS HC3 HW3 hb3 hk4 hb23
  go_wp2_with fail
  have hA5 : Cs w5 A (n.map strV) := HA0.out.below hb5'
  refine (Lower A n cap w5 hA5 hn.few).mono ?_
  rintro e w7 ⟨v7, rfl, hown7, hb7⟩
  have hz7 := hb7.size
  have u0 := (bcl (o := 0) hb7 (show w.heap.size < _ by omega)).trans y0
  have u1 := (bcl (o := 1) hb7 (show w.heap.size < _ by omega)).trans y1
  have u2 := (bcl (o := 2) hb7 (show w.heap.size < _ by omega)).trans y2
  have u3 := (bcl (o := 3) hb7 (show w.heap.size < _ by omega)).trans y3
  have x2 := (bcl (o := 2) hb7 (show w.heap.size + 1 < _ by omega)).trans z2
  have x3 := (bcl (o := 3) hb7 (show w.heap.size + 1 < _ by omega)).trans z3
  have H7 := Lib.hid (own_below H5.out hb7)
  have hb8 := hb5'.trans (hb7.mono (by omega))
  have hc7x : ∀ (A : Option Addr) (c : Nat), v7 = .slice A n.length c → n.length ≤ c := fun A c h => own_capM (h ▸ hown7)
  obtain ⟨A7, c7, rfl, _, hcs7⟩ := Cs.of_own hown7
  have hc7c := hc7x A7 c7 rfl
  have HC7 := Lib.hid hcs7
  have hglb := HG.out.lb
  have hgtl := HG.out.ttl
  have hsz7 : w.heap.size + 1 < w7.heap.size := by omega
  have hfew := hn.few
  have hnl : n.length ≤ 1000 := by have := hn.1; omega
  clear hown7 y0 y1 y2 y3 z2 z3 H5 hb5' hA5 hcs7 hz3 hz4 hz5 hsz2
  by_cases hle : n.length ≤ g.lb
  · have hown : ownN n g.lb = lower n := by unfold ownN; rw [if_pos hle]
    rw [hown] at hwo
    have HOWN := Lib.hid hown
    have HWO := Lib.hid hwo
    have hnle : ¬ (g.lb : Int) < (n.length : Int) := by omega
    have hszo := hsz7
    have HCO := HC7
    have H7o := H7
    have hb8o := hb8
    have hn2 := hn.lower
    have hll2 := lower_len n
    clear hown hwo hle hb8 H7 hb4 hb5 hb7
    go_wp2_with fail
    have hlt := hz7
    have hwl : (wire (lower n)).length ≤ 10000 := HWO.out
    have hhl : (headO (lower n) t g.ttl).length ≤ 10008 := by
      simp [headO, be2, be4]; omega
    have HWi : Hid (∀ W, Below w7.heap.size w7 W → Calls Tryz.prog 44 #[.slice A7 n.length c7] W fun e w' => ∃ v, e = .returned v ∧ w'.ownsRow W.heap.size 5 1 v (wire (lower n)).length ((wire (lower n)).map byteV) ∧ Below W.heap.size W w') := Lib.hid fun W hW => by
      have := Wire A7 (lower n) c7 W (HCO.out.below hW) hn2
      rw [hll2] at this
      exact this
    have hNB : w.heap.size + 1 < w7.heap.size := hszo
    generalize hwn : wire (lower n) = wn at *
    refine wp_region_gen mixed0 (by kernel_rfl) w7.heap.size (Nat.le_refl _) [.is (.slice A7 n.length c7), .own w7.heap.size 5 1 wn.length (wn.map byteV),
      .is (.pointer (some ⟨w.heap.size, 1, none⟩)), .is (.int .u16 t), .is (.int .u16 ((t : Int) / 256)), .is (.int .u8 ((t : Int) / 256)),
      .is (.pointer (some ⟨w.heap.size, 1, none⟩)), .is (.int .u16 t), .is (.int .u8 ((t : Int) % 256)),
      .is (.pointer (some ⟨w.heap.size + 1, 3, none⟩)), .is (.int .u32 g.ttl), .is (.int .u32 ((g.ttl : Int) / 16777216)), .is (.int .u8 ((g.ttl : Int) / 16777216)),
      .is (.pointer (some ⟨w.heap.size + 1, 3, none⟩)), .is (.int .u32 g.ttl), .is (.int .u32 ((g.ttl : Int) / 65536)), .is (.int .u8 ((g.ttl : Int) / 65536 % 256)),
      .is (.pointer (some ⟨w.heap.size + 1, 3, none⟩)), .is (.int .u32 g.ttl), .is (.int .u32 ((g.ttl : Int) / 256)), .is (.int .u8 ((g.ttl : Int) / 256 % 256)),
      .is (.pointer (some ⟨w.heap.size + 1, 3, none⟩)), .is (.int .u32 g.ttl), .is (.int .u8 ((g.ttl : Int) % 256)),
      .own w7.heap.size 5 1 8 (tailV t g.ttl), .own w7.heap.size 5 1 (wn.length + 8) (wn.map byteV ++ tailV t g.ttl), .own w7.heap.size 5 1 (wn.length + 8) (wn.map byteV ++ tailV t g.ttl)]
      (fun i => if i = 25 then 2 else 0) (fun j => if j = 1 ∨ j = 24 ∨ j = 25 ∨ j = 26 then 1 else 0) (by kernel_rfl) ?_ ?_ ?_
    · intro j
      rcases j with _ | _ | _ | _ | _ | _ | _ | _ | _ | _ | _ | _ | _ | _ | _ | _ | _ | _ | _ | _ | _ | _ | _ | _ | _ | _ | _ | j
      all_goals first
        | exact kind_is _ _
        | exact kind_own _ _ _ _ _ _ (Nat.le_refl _)
        | (have hx : ¬ (j + 27 = 1 ∨ j + 27 = 24 ∨ j + 27 = 25 ∨ j + 27 = 26) := by omega
           rw [if_neg hx]
           exact kind_any _)
    · intro i o hio vals W hE haf
      have e1 := (bcl (o := 1) hE (show w.heap.size < _ by omega)).trans u1
      have e3 := (bcl (o := 3) hE (show w.heap.size + 1 < _ by omega)).trans x3
      have q1 : IntKind.u8.wrap ((t : Int) / 256) = (t : Int) / 256 := by simp [IntKind.wrap, IntKind.bits, IntKind.signed]; omega
      have q2 : IntKind.u8.wrap (t : Int) = (t : Int) % 256 := by simp [IntKind.wrap, IntKind.bits, IntKind.signed]
      have q3 : IntKind.u8.wrap ((g.ttl : Int) / 16777216) = (g.ttl : Int) / 16777216 := by simp [IntKind.wrap, IntKind.bits, IntKind.signed]; omega
      have q4 : IntKind.u8.wrap ((g.ttl : Int) / 65536) = (g.ttl : Int) / 65536 % 256 := by simp [IntKind.wrap, IntKind.bits, IntKind.signed]
      have q5 : IntKind.u8.wrap ((g.ttl : Int) / 256) = (g.ttl : Int) / 256 % 256 := by simp [IntKind.wrap, IntKind.bits, IntKind.signed]
      have q6 : IntKind.u8.wrap (g.ttl : Int) = (g.ttl : Int) % 256 := by simp [IntKind.wrap, IntKind.bits, IntKind.signed]
      rcases i with _ | _ | _ | _ | _ | _ | _ | _ | _ | _ | _ | _ | _ | _ | _ | _ | _ | _ | _ | _ | _ | _ | _ | _ | _ | _ | _ | i
      all_goals first
        | (exfalso; simp at hio; done)
        | (simp at hio; subst hio; simp [bindD, rdB, Region.binds, factAt] at haf; simp [opYield_def, yieldUpon, relAct, dstAt, Act.put, Region.wanted, go_sem, haf, e1, e3, Ext.refl, factAt, kindT, q1, q2, q3, q4, q5, q6]; done)
        | skip
      all_goals
        simp at hio
        subst hio
        simp [bindD, rdB, Region.binds, factAt] at haf
      · simp [opYield_def, yieldUpon, relAct, dstAt, Act.put, Region.wanted, go_sem, haf, factAt, kindT]
        refine (HWi.out W hE).mono fun e W' h5 => ?_
        obtain ⟨v, he, ho, hb⟩ := h5
        exact ⟨v, he, hb, own_base ho hE.size⟩
      · simp [opYield_def, yieldUpon, relAct, dstAt, Act.put, Region.wanted, go_sem, haf, factAt, kindT]
        exact ⟨(Below.refl _ _).alloc (Nat.le_refl _) _, own_rowC W w7.heap.size 5 (tailV t g.ttl) hE.size (by simp [tailV])⟩
      · obtain ⟨h1, h24⟩ := haf
        obtain ⟨A8, c8, e8, _, hcs8⟩ := Cs.of_own h24
        refine yield_bytes rfl (.tmp 37) (.tmp 60) Tryz.underlying28 rfl (v := vals 1) (by simp [relAct, dstAt, Act.put, Act.eval]) h1 hE.size (us := tailV t g.ttl) (A := A8) (c := c8) (by simp [relAct, dstAt, Act.put, Act.eval, e8, tailV]) hcs8 (by simp [tailV, Value.oneCell']) (by simp [tailV]; omega) ?_
        intro v' W' h4 h5
        exact ⟨h5, h4⟩
    · intro vals W hE hF
      have h26 := hF 26 (by show 26 < 27; omega) (by kernel_rfl)
      simp [relAct, dstAt, Act.put]
      clear hF
      have hzW := hE.size
      have y0 := (bcl (o := 0) hE (show w.heap.size < _ by omega)).trans u0
      have y1 := (bcl (o := 1) hE (show w.heap.size < _ by omega)).trans u1
      have y2 := (bcl (o := 2) hE (show w.heap.size < _ by omega)).trans u2
      have y3 := (bcl (o := 3) hE (show w.heap.size < _ by omega)).trans u3
      have h27 : W.ownsRow w.heap.size 5 1 (vals 26) (headO (lower n) t g.ttl).length ((headO (lower n) t g.ttl).map byteV) := by
        have he : (headO (lower n) t g.ttl).map byteV = wn.map byteV ++ tailV t g.ttl := by
          unfold headO
          rw [hwn, List.map_append, map_tail ht2 hgtl]
        rw [he, show (headO (lower n) t g.ttl).length = wn.length + 8 by unfold headO; rw [hwn]; simp [be2, be4]]
        exact own_base h26 (by omega)
      have hbW := hb8o.trans (hE.mono (by omega))
      have HH := Lib.hid h27
      have H5 := Lib.hid (own_below (H7o.out) hE)
      clear h26 h27 u0 u1 u2 u3 x2 x3 hb8o H7o HWi hwn
      generalize vals 26 = vh at *
      have hgb := HGB.out
      clear hwl
      generalize hgb2 : g.low.bytes = gb at *
      generalize hhb : headO (lower n) t g.ttl = hb at *
      have HDG := Lib.hid (DataG t sttl hCC A D n.length cap dcap ds W (HD0.out.below hbW) (HB0.out.below hbW) (by omega) HCap.out)
      go_wp2_with fail
      refine HDG.out.mono ?_
      rintro e W1 ⟨A1, xs, cx, rfl, hA1, hxo, hto, hbW1⟩
      have hbWW1 := hbW.trans (hbW1.mono (by omega))
      have H5' := Lib.hid (own_below H5.out hbW1)
      have HH' := Lib.hid (own_below HH.out hbW1)
      obtain ⟨Ah, ch, rfl, _, hch⟩ := Cs.of_own HH'.out
      have HCh := Lib.hid hch
      have HA1 := Lib.hid hA1
      have HXo := Lib.hid hxo
      have HTo := Lib.hid hto
      have hxn : xs.length ≤ 20 := by have := told_len hto; simp at this; omega
      have HXl : Hid (∀ x ∈ xs, x.l.length ≤ 20000) := Lib.hid (fun x hx => by
        obtain ⟨d, hd, hdx⟩ := List.mem_map.1 (told_mem hto _ (List.mem_map.2 ⟨x, hx, rfl⟩))
        rw [← hdx]
        exact HCx.out d hd)
      clear hA1 hxo hto y0 y1 y2 y3 hch hE hbW HDG hbW1
      go_wp2_with fail
      go_loopw [65, 5] (MsgR w W1 gb hb xs) (fun i _ _ => xs.length - (intOf i).toNat)
      case atStart => exact ⟨0, by omega, rfl, by simpa using H5'.out, Below.refl _ _⟩
      case round =>
        obtain ⟨k, hk, rfl, hown, hbk⟩ := hrel
        obtain ⟨V, hVV⟩ : ∃ V, V = wr := ⟨_, rfl⟩
        rw [← hVV] at hown hbk ⊢
        clear hVV
        have hzk := hbk.size
        have hz1 := hbWW1.size
        by_cases hkx : k < xs.length
        · obtain ⟨x, hx0⟩ : ∃ b, xs[k]? = some b := ⟨_, List.getElem?_eq_getElem hkx⟩
          have hxm : x ∈ xs := List.mem_of_getElem? hx0
          obtain ⟨bk, off, rfl, hbk1, hcell⟩ := HA1.out k x.v (by rw [List.getElem?_map, hx0]; rfl)
          have hcell2 : V.cell? ⟨bk, off + k, none⟩ = some (.slice x.A x.l.length x.cap) := (bcl hbk hbk1).trans hcell
          have hxl := HXl.out x hxm
          have hxV : Cs V x.A (x.l.map byteV) := Cs.below (HXo.out x hxm) hbk
          obtain ⟨Ag, cg, hvo, _, hcg⟩ := Cs.of_own hown
          subst hvo
          have hLl : (gb ++ (xs.take k).flatMap (fun x => hb ++ be2 x.l.length ++ x.l)).length ≤ 10000 + k * 30010 := by
            have := pieces_len hb xs (fun x hx => HXl.out x hx) hhl k (by omega)
            rw [List.length_append]
            omega
          have HLt : Hid (gb ++ (xs.take (k + 1)).flatMap (fun x => hb ++ be2 x.l.length ++ x.l) = (gb ++ (xs.take k).flatMap (fun x => hb ++ be2 x.l.length ++ x.l)) ++ hb ++ be2 x.l.length ++ x.l) := Lib.hid (by
            rw [List.take_add_one, hx0, List.flatMap_append]
            simp)
          generalize hLe : gb ++ (xs.take k).flatMap (fun x => hb ++ be2 x.l.length ++ x.l) = L at *
          have HC4 := Lib.hid (concat4 V Ag Ah x.A L hb x.l cg ch x.cap hcg (HCh.out.below hbk) hxV (by omega) (by omega) (by omega))
          have hki : (k : Int) < (xs.length : Int) := by omega
          clear hown hcg hxV hx0 hcell hLe
          go_wp2_with fail
          refine HC4.out.mono ?_
          rintro e W3 ⟨v, rfl, ho3, hb3⟩
          have hbF := hbk.trans (hb3.mono hzk)
          have HO3 := Lib.hid (own_base ho3 (show w.heap.size ≤ V.heap.size by omega))
          clear ho3
          go_wp2_with fail
          refine ⟨⟨k + 1, by omega, by go_num, ?_, hbF⟩, by simp [intOf]; omega⟩
          rw [HLt.out]
          exact HO3.out
        · have hkx2 : k = xs.length := by omega
          subst hkx2
          rw [List.take_length] at hown
          have HO3 := Lib.hid hown
          have hbF := hbWW1.trans (hbk.mono hz1)
          clear hown
          go_wp2_with fail
          go_ret
          refine ⟨_, xs.map (·.l), rfl, HTo.out, ?_, hbF⟩
          have e1 : msgL n t (xs.map (·.l)) g = gb ++ xs.flatMap (fun x => hb ++ be2 x.l.length ++ x.l) := by
            unfold msgL
            rw [hgb2, HOWN.out, hhb, List.flatMap_map]
          rw [e1]
          exact HO3.out
  · have hgt : g.lb < n.length := by omega
    have hgti : (g.lb : Int) < (n.length : Int) := by omega
    obtain ⟨k, hk1, hk2, hk3⟩ : ∃ k : Nat, n.length - g.lb = k ∧ ((n.length : Int) - (g.lb : Int) = (k : Int)) ∧ k + g.lb = n.length := ⟨n.length - g.lb, rfl, by omega, by omega⟩
    have hown : ownN n g.lb = star :: (lower n).drop k := by unfold ownN; rw [if_neg (by omega), hk1]
    rw [hown] at hwo
    have HOWN := Lib.hid hown
    have HWO := Lib.hid hwo
    obtain ⟨b7, o7, rfl, hb7w, _⟩ := HC7.out 0 _ (List.getElem?_eq_getElem (by rw [List.length_map, lower_len]; omega))
    have hdl2 : ((lower n).drop k).length = n.length - k := by rw [List.length_drop, lower_len]
    have hki : (k : Int) ≤ (n.length : Int) := by omega
    have hkn : k ≤ n.length := by omega
    have hcs2 := HC7.out.drop' k c7 (by rw [List.length_map, lower_len]; exact hc7c)
    rw [← List.map_drop] at hcs2
    have HSm : Hid (Small (star :: (lower n).drop k)) := Lib.hid ⟨by have h1 := hn.lower.1; have h2 := lower_len n; rw [List.length_cons, List.length_drop]; omega, fun l hl => by
      rcases List.mem_cons.1 hl with rfl | hl
      · decide
      · exact hn.lower.2 l (List.mem_of_mem_drop hl)⟩
    generalize hsd : (lower n).drop k = sd at *
    have HCS2 := Lib.hid hcs2
    have hst : (w7.alloc (.cells #[.string (strB star)] 9)).ownsRow w7.heap.size 9 1 (.slice (some ⟨w7.heap.size, 0, none⟩) 1 1) 1 ([star].map strV) := own_rowC w7 w7.heap.size 9 ([star].map strV) (Nat.le_refl _) (by simp)
    have HSt := Lib.hid hst
    clear hown hwo hcs2 hst hsd
    by_cases hck : c7 = k
    · have hsd0 : sd = [] := List.length_eq_zero_iff.1 (by omega)
      subst hsd0
      go_wp2_with fail
      generalize hw9 : w7.alloc (.cells #[.string { data := #[42] }] 9) = w9 at *
      have hb79 : Below w7.heap.size w7 w9 := by rw [← hw9]; exact (Below.refl _ _).alloc (Nat.le_refl _) _
      have hown9 : w9.ownsRow w7.heap.size 9 1 (.slice (some ⟨w7.heap.size, 0, none⟩) 1 1) 1 ([star].map strV) := by rw [← hw9]; exact HSt.out
      clear hw9
      obtain ⟨A9, c9, hv9, _, hcs9⟩ := Cs.of_own hown9
      cases hv9
      have hz79 := hb79.size
      have HCO : Hid (Cs w9 (some ⟨w7.heap.size, 0, none⟩) ([star].map strV)) := Lib.hid hcs9
      have H7o := Lib.hid (own_below H7.out hb79)
      have hb8o := hb8.trans (hb79.mono (by omega))
      have hszo : w.heap.size + 1 < w9.heap.size := by omega
      have hn2 := HSm.out
      have hll2 : [star].length = 1 := rfl
      have v0' := (bcl (o := 0) hb79 (show w.heap.size < _ by omega)).trans u0
      have v1' := (bcl (o := 1) hb79 (show w.heap.size < _ by omega)).trans u1
      have v2' := (bcl (o := 2) hb79 (show w.heap.size < _ by omega)).trans u2
      have v3' := (bcl (o := 3) hb79 (show w.heap.size < _ by omega)).trans u3
      have w2' := (bcl (o := 2) hb79 (show w.heap.size + 1 < _ by omega)).trans x2
      have w3' := (bcl (o := 3) hb79 (show w.heap.size + 1 < _ by omega)).trans x3
      clear u0 u1 u2 u3 x2 x3 hown9 hcs9 hb8 H7 hb4 hb5 hb7
      have u0 := v0'
      have u1 := v1'
      have u2 := v2'
      have u3 := v3'
      have x2 := w2'
      have x3 := w3'
      clear v0' v1' v2' v3' w2' w3'
      have hlt := hz7
      have hwl : (wire ([star])).length ≤ 10000 := HWO.out
      have hhl : (headO ([star]) t g.ttl).length ≤ 10008 := by
        simp [headO, be2, be4]; omega
      have HWi : Hid (∀ W, Below w9.heap.size w9 W → Calls Tryz.prog 44 #[.slice (some ⟨w7.heap.size, 0, none⟩) 1 1] W fun e w' => ∃ v, e = .returned v ∧ w'.ownsRow W.heap.size 5 1 v (wire ([star])).length ((wire ([star])).map byteV) ∧ Below W.heap.size W w') := Lib.hid fun W hW => by
        have := Wire (some ⟨w7.heap.size, 0, none⟩) ([star]) 1 W (HCO.out.below hW) hn2
        rw [hll2] at this
        exact this
      have hNB : w.heap.size + 1 < w9.heap.size := hszo
      generalize hwn : wire ([star]) = wn at *
      refine wp_region_gen mixed0 (by kernel_rfl) w9.heap.size (Nat.le_refl _) [.is (.slice (some ⟨w7.heap.size, 0, none⟩) 1 1), .own w9.heap.size 5 1 wn.length (wn.map byteV),
        .is (.pointer (some ⟨w.heap.size, 1, none⟩)), .is (.int .u16 t), .is (.int .u16 ((t : Int) / 256)), .is (.int .u8 ((t : Int) / 256)),
        .is (.pointer (some ⟨w.heap.size, 1, none⟩)), .is (.int .u16 t), .is (.int .u8 ((t : Int) % 256)),
        .is (.pointer (some ⟨w.heap.size + 1, 3, none⟩)), .is (.int .u32 g.ttl), .is (.int .u32 ((g.ttl : Int) / 16777216)), .is (.int .u8 ((g.ttl : Int) / 16777216)),
        .is (.pointer (some ⟨w.heap.size + 1, 3, none⟩)), .is (.int .u32 g.ttl), .is (.int .u32 ((g.ttl : Int) / 65536)), .is (.int .u8 ((g.ttl : Int) / 65536 % 256)),
        .is (.pointer (some ⟨w.heap.size + 1, 3, none⟩)), .is (.int .u32 g.ttl), .is (.int .u32 ((g.ttl : Int) / 256)), .is (.int .u8 ((g.ttl : Int) / 256 % 256)),
        .is (.pointer (some ⟨w.heap.size + 1, 3, none⟩)), .is (.int .u32 g.ttl), .is (.int .u8 ((g.ttl : Int) % 256)),
        .own w9.heap.size 5 1 8 (tailV t g.ttl), .own w9.heap.size 5 1 (wn.length + 8) (wn.map byteV ++ tailV t g.ttl), .own w9.heap.size 5 1 (wn.length + 8) (wn.map byteV ++ tailV t g.ttl)]
        (fun i => if i = 25 then 2 else 0) (fun j => if j = 1 ∨ j = 24 ∨ j = 25 ∨ j = 26 then 1 else 0) (by kernel_rfl) ?_ ?_ ?_
      · intro j
        rcases j with _ | _ | _ | _ | _ | _ | _ | _ | _ | _ | _ | _ | _ | _ | _ | _ | _ | _ | _ | _ | _ | _ | _ | _ | _ | _ | _ | j
        all_goals first
          | exact kind_is _ _
          | exact kind_own _ _ _ _ _ _ (Nat.le_refl _)
          | (have hx : ¬ (j + 27 = 1 ∨ j + 27 = 24 ∨ j + 27 = 25 ∨ j + 27 = 26) := by omega
             rw [if_neg hx]
             exact kind_any _)
      · intro i o hio vals W hE haf
        have e1 := (bcl (o := 1) hE (show w.heap.size < _ by omega)).trans u1
        have e3 := (bcl (o := 3) hE (show w.heap.size + 1 < _ by omega)).trans x3
        have q1 : IntKind.u8.wrap ((t : Int) / 256) = (t : Int) / 256 := by simp [IntKind.wrap, IntKind.bits, IntKind.signed]; omega
        have q2 : IntKind.u8.wrap (t : Int) = (t : Int) % 256 := by simp [IntKind.wrap, IntKind.bits, IntKind.signed]
        have q3 : IntKind.u8.wrap ((g.ttl : Int) / 16777216) = (g.ttl : Int) / 16777216 := by simp [IntKind.wrap, IntKind.bits, IntKind.signed]; omega
        have q4 : IntKind.u8.wrap ((g.ttl : Int) / 65536) = (g.ttl : Int) / 65536 % 256 := by simp [IntKind.wrap, IntKind.bits, IntKind.signed]
        have q5 : IntKind.u8.wrap ((g.ttl : Int) / 256) = (g.ttl : Int) / 256 % 256 := by simp [IntKind.wrap, IntKind.bits, IntKind.signed]
        have q6 : IntKind.u8.wrap (g.ttl : Int) = (g.ttl : Int) % 256 := by simp [IntKind.wrap, IntKind.bits, IntKind.signed]
        rcases i with _ | _ | _ | _ | _ | _ | _ | _ | _ | _ | _ | _ | _ | _ | _ | _ | _ | _ | _ | _ | _ | _ | _ | _ | _ | _ | _ | i
        all_goals first
          | (exfalso; simp at hio; done)
          | (simp at hio; subst hio; simp [bindD, rdB, Region.binds, factAt] at haf; simp [opYield_def, yieldUpon, relAct, dstAt, Act.put, Region.wanted, go_sem, haf, e1, e3, Ext.refl, factAt, kindT, q1, q2, q3, q4, q5, q6]; done)
          | skip
        all_goals
          simp at hio
          subst hio
          simp [bindD, rdB, Region.binds, factAt] at haf
        · simp [opYield_def, yieldUpon, relAct, dstAt, Act.put, Region.wanted, go_sem, haf, factAt, kindT]
          refine (HWi.out W hE).mono fun e W' h5 => ?_
          obtain ⟨v, he, ho, hb⟩ := h5
          exact ⟨v, he, hb, own_base ho hE.size⟩
        · simp [opYield_def, yieldUpon, relAct, dstAt, Act.put, Region.wanted, go_sem, haf, factAt, kindT]
          exact ⟨(Below.refl _ _).alloc (Nat.le_refl _) _, own_rowC W w9.heap.size 5 (tailV t g.ttl) hE.size (by simp [tailV])⟩
        · obtain ⟨h1, h24⟩ := haf
          obtain ⟨A8, c8, e8, _, hcs8⟩ := Cs.of_own h24
          refine yield_bytes rfl (.tmp 37) (.tmp 60) Tryz.underlying28 rfl (v := vals 1) (by simp [relAct, dstAt, Act.put, Act.eval]) h1 hE.size (us := tailV t g.ttl) (A := A8) (c := c8) (by simp [relAct, dstAt, Act.put, Act.eval, e8, tailV]) hcs8 (by simp [tailV, Value.oneCell']) (by simp [tailV]; omega) ?_
          intro v' W' h4 h5
          exact ⟨h5, h4⟩
      · intro vals W hE hF
        have h26 := hF 26 (by show 26 < 27; omega) (by kernel_rfl)
        simp [relAct, dstAt, Act.put]
        clear hF
        have hzW := hE.size
        have y0 := (bcl (o := 0) hE (show w.heap.size < _ by omega)).trans u0
        have y1 := (bcl (o := 1) hE (show w.heap.size < _ by omega)).trans u1
        have y2 := (bcl (o := 2) hE (show w.heap.size < _ by omega)).trans u2
        have y3 := (bcl (o := 3) hE (show w.heap.size < _ by omega)).trans u3
        have h27 : W.ownsRow w.heap.size 5 1 (vals 26) (headO ([star]) t g.ttl).length ((headO ([star]) t g.ttl).map byteV) := by
          have he : (headO ([star]) t g.ttl).map byteV = wn.map byteV ++ tailV t g.ttl := by
            unfold headO
            rw [hwn, List.map_append, map_tail ht2 hgtl]
          rw [he, show (headO ([star]) t g.ttl).length = wn.length + 8 by unfold headO; rw [hwn]; simp [be2, be4]]
          exact own_base h26 (by omega)
        have hbW := hb8o.trans (hE.mono (by omega))
        have HH := Lib.hid h27
        have H5 := Lib.hid (own_below (H7o.out) hE)
        clear h26 h27 u0 u1 u2 u3 x2 x3 hb8o H7o HWi hwn
        generalize vals 26 = vh at *
        have hgb := HGB.out
        clear hwl
        generalize hgb2 : g.low.bytes = gb at *
        generalize hhb : headO ([star]) t g.ttl = hb at *
        have HDG := Lib.hid (DataG t sttl hCC A D n.length cap dcap ds W (HD0.out.below hbW) (HB0.out.below hbW) (by omega) HCap.out)
        go_wp2_with fail
        refine HDG.out.mono ?_
        rintro e W1 ⟨A1, xs, cx, rfl, hA1, hxo, hto, hbW1⟩
        have hbWW1 := hbW.trans (hbW1.mono (by omega))
        have H5' := Lib.hid (own_below H5.out hbW1)
        have HH' := Lib.hid (own_below HH.out hbW1)
        obtain ⟨Ah, ch, rfl, _, hch⟩ := Cs.of_own HH'.out
        have HCh := Lib.hid hch
        have HA1 := Lib.hid hA1
        have HXo := Lib.hid hxo
        have HTo := Lib.hid hto
        have hxn : xs.length ≤ 20 := by have := told_len hto; simp at this; omega
        have HXl : Hid (∀ x ∈ xs, x.l.length ≤ 20000) := Lib.hid (fun x hx => by
          obtain ⟨d, hd, hdx⟩ := List.mem_map.1 (told_mem hto _ (List.mem_map.2 ⟨x, hx, rfl⟩))
          rw [← hdx]
          exact HCx.out d hd)
        clear hA1 hxo hto y0 y1 y2 y3 hch hE hbW HDG hbW1
        go_wp2_with fail
        go_loopw [65, 5] (MsgR w W1 gb hb xs) (fun i _ _ => xs.length - (intOf i).toNat)
        case atStart => exact ⟨0, by omega, rfl, by simpa using H5'.out, Below.refl _ _⟩
        case round =>
          obtain ⟨k, hk, rfl, hown, hbk⟩ := hrel
          obtain ⟨V, hVV⟩ : ∃ V, V = wr := ⟨_, rfl⟩
          rw [← hVV] at hown hbk ⊢
          clear hVV
          have hzk := hbk.size
          have hz1 := hbWW1.size
          by_cases hkx : k < xs.length
          · obtain ⟨x, hx0⟩ : ∃ b, xs[k]? = some b := ⟨_, List.getElem?_eq_getElem hkx⟩
            have hxm : x ∈ xs := List.mem_of_getElem? hx0
            obtain ⟨bk, off, rfl, hbk1, hcell⟩ := HA1.out k x.v (by rw [List.getElem?_map, hx0]; rfl)
            have hcell2 : V.cell? ⟨bk, off + k, none⟩ = some (.slice x.A x.l.length x.cap) := (bcl hbk hbk1).trans hcell
            have hxl := HXl.out x hxm
            have hxV : Cs V x.A (x.l.map byteV) := Cs.below (HXo.out x hxm) hbk
            obtain ⟨Ag, cg, hvo, _, hcg⟩ := Cs.of_own hown
            subst hvo
            have hLl : (gb ++ (xs.take k).flatMap (fun x => hb ++ be2 x.l.length ++ x.l)).length ≤ 10000 + k * 30010 := by
              have := pieces_len hb xs (fun x hx => HXl.out x hx) hhl k (by omega)
              rw [List.length_append]
              omega
            have HLt : Hid (gb ++ (xs.take (k + 1)).flatMap (fun x => hb ++ be2 x.l.length ++ x.l) = (gb ++ (xs.take k).flatMap (fun x => hb ++ be2 x.l.length ++ x.l)) ++ hb ++ be2 x.l.length ++ x.l) := Lib.hid (by
              rw [List.take_add_one, hx0, List.flatMap_append]
              simp)
            generalize hLe : gb ++ (xs.take k).flatMap (fun x => hb ++ be2 x.l.length ++ x.l) = L at *
            have HC4 := Lib.hid (concat4 V Ag Ah x.A L hb x.l cg ch x.cap hcg (HCh.out.below hbk) hxV (by omega) (by omega) (by omega))
            have hki : (k : Int) < (xs.length : Int) := by omega
            clear hown hcg hxV hx0 hcell hLe
            go_wp2_with fail
            refine HC4.out.mono ?_
            rintro e W3 ⟨v, rfl, ho3, hb3⟩
            have hbF := hbk.trans (hb3.mono hzk)
            have HO3 := Lib.hid (own_base ho3 (show w.heap.size ≤ V.heap.size by omega))
            clear ho3
            go_wp2_with fail
            refine ⟨⟨k + 1, by omega, by go_num, ?_, hbF⟩, by simp [intOf]; omega⟩
            rw [HLt.out]
            exact HO3.out
          · have hkx2 : k = xs.length := by omega
            subst hkx2
            rw [List.take_length] at hown
            have HO3 := Lib.hid hown
            have hbF := hbWW1.trans (hbk.mono hz1)
            clear hown
            go_wp2_with fail
            go_ret
            refine ⟨_, xs.map (·.l), rfl, HTo.out, ?_, hbF⟩
            have e1 : msgL n t (xs.map (·.l)) g = gb ++ xs.flatMap (fun x => hb ++ be2 x.l.length ++ x.l) := by
              unfold msgL
              rw [hgb2, HOWN.out, hhb, List.flatMap_map]
            rw [e1]
            exact HO3.out
    · have hcs3 : Cs w7 (some ⟨b7, o7 + k, none⟩) (sd.map strV) := by have := HCS2.out; rw [if_neg hck] at this; simpa [add_plain] using this
      have HC3 := Lib.hid hcs3
      clear hcs3
      go_wp2_with (first | (at_builtin; refine wpList_names HSt.out (by simp) (HC3.out.below ((Below.refl _ _).alloc (Nat.le_refl _) _)) rfl (.tmp 28) (.tmp 34) Tryz.underlying26 rfl rfl (s := sd) (c := _) (by rw [hdl2]; rfl) (by omega) ?_; intro v9 w9 hown9 hb9))
      obtain ⟨A9, c9, rfl, _, hcs9⟩ := Cs.of_own hown9
      have hb79 : Below w7.heap.size w7 w9 := ((Below.refl _ _).alloc (Nat.le_refl _) _).trans hb9
      have hz79 := hb79.size
      have HCO : Hid (Cs w9 A9 ((star :: sd).map strV)) := Lib.hid hcs9
      have H7o := Lib.hid (own_below H7.out hb79)
      have hb8o := hb8.trans (hb79.mono (by omega))
      have hszo : w.heap.size + 1 < w9.heap.size := by omega
      have hn2 := HSm.out
      have hll2 : (star :: sd).length = 1 + sd.length := by rw [List.length_cons, Nat.add_comm]
      have v0' := (bcl (o := 0) hb79 (show w.heap.size < _ by omega)).trans u0
      have v1' := (bcl (o := 1) hb79 (show w.heap.size < _ by omega)).trans u1
      have v2' := (bcl (o := 2) hb79 (show w.heap.size < _ by omega)).trans u2
      have v3' := (bcl (o := 3) hb79 (show w.heap.size < _ by omega)).trans u3
      have w2' := (bcl (o := 2) hb79 (show w.heap.size + 1 < _ by omega)).trans x2
      have w3' := (bcl (o := 3) hb79 (show w.heap.size + 1 < _ by omega)).trans x3
      clear u0 u1 u2 u3 x2 x3 hown9 hcs9 hb9 hb8 H7 hb4 hb5 hb7
      have u0 := v0'
      have u1 := v1'
      have u2 := v2'
      have u3 := v3'
      have x2 := w2'
      have x3 := w3'
      clear v0' v1' v2' v3' w2' w3'
      have hlt := hz7
      have hwl : (wire (star :: sd)).length ≤ 10000 := HWO.out
      have hhl : (headO (star :: sd) t g.ttl).length ≤ 10008 := by
        simp [headO, be2, be4]; omega
      have HWi : Hid (∀ W, Below w9.heap.size w9 W → Calls Tryz.prog 44 #[.slice A9 (1 + sd.length) c9] W fun e w' => ∃ v, e = .returned v ∧ w'.ownsRow W.heap.size 5 1 v (wire (star :: sd)).length ((wire (star :: sd)).map byteV) ∧ Below W.heap.size W w') := Lib.hid fun W hW => by
        have := Wire A9 (star :: sd) c9 W (HCO.out.below hW) hn2
        rw [hll2] at this
        exact this
      have hNB : w.heap.size + 1 < w9.heap.size := hszo
      generalize hwn : wire (star :: sd) = wn at *
      refine wp_region_gen mixed0 (by kernel_rfl) w9.heap.size (Nat.le_refl _) [.is (.slice A9 (1 + sd.length) c9), .own w9.heap.size 5 1 wn.length (wn.map byteV),
        .is (.pointer (some ⟨w.heap.size, 1, none⟩)), .is (.int .u16 t), .is (.int .u16 ((t : Int) / 256)), .is (.int .u8 ((t : Int) / 256)),
        .is (.pointer (some ⟨w.heap.size, 1, none⟩)), .is (.int .u16 t), .is (.int .u8 ((t : Int) % 256)),
        .is (.pointer (some ⟨w.heap.size + 1, 3, none⟩)), .is (.int .u32 g.ttl), .is (.int .u32 ((g.ttl : Int) / 16777216)), .is (.int .u8 ((g.ttl : Int) / 16777216)),
        .is (.pointer (some ⟨w.heap.size + 1, 3, none⟩)), .is (.int .u32 g.ttl), .is (.int .u32 ((g.ttl : Int) / 65536)), .is (.int .u8 ((g.ttl : Int) / 65536 % 256)),
        .is (.pointer (some ⟨w.heap.size + 1, 3, none⟩)), .is (.int .u32 g.ttl), .is (.int .u32 ((g.ttl : Int) / 256)), .is (.int .u8 ((g.ttl : Int) / 256 % 256)),
        .is (.pointer (some ⟨w.heap.size + 1, 3, none⟩)), .is (.int .u32 g.ttl), .is (.int .u8 ((g.ttl : Int) % 256)),
        .own w9.heap.size 5 1 8 (tailV t g.ttl), .own w9.heap.size 5 1 (wn.length + 8) (wn.map byteV ++ tailV t g.ttl), .own w9.heap.size 5 1 (wn.length + 8) (wn.map byteV ++ tailV t g.ttl)]
        (fun i => if i = 25 then 2 else 0) (fun j => if j = 1 ∨ j = 24 ∨ j = 25 ∨ j = 26 then 1 else 0) (by kernel_rfl) ?_ ?_ ?_
      · intro j
        rcases j with _ | _ | _ | _ | _ | _ | _ | _ | _ | _ | _ | _ | _ | _ | _ | _ | _ | _ | _ | _ | _ | _ | _ | _ | _ | _ | _ | j
        all_goals first
          | exact kind_is _ _
          | exact kind_own _ _ _ _ _ _ (Nat.le_refl _)
          | (have hx : ¬ (j + 27 = 1 ∨ j + 27 = 24 ∨ j + 27 = 25 ∨ j + 27 = 26) := by omega
             rw [if_neg hx]
             exact kind_any _)
      · intro i o hio vals W hE haf
        have e1 := (bcl (o := 1) hE (show w.heap.size < _ by omega)).trans u1
        have e3 := (bcl (o := 3) hE (show w.heap.size + 1 < _ by omega)).trans x3
        have q1 : IntKind.u8.wrap ((t : Int) / 256) = (t : Int) / 256 := by simp [IntKind.wrap, IntKind.bits, IntKind.signed]; omega
        have q2 : IntKind.u8.wrap (t : Int) = (t : Int) % 256 := by simp [IntKind.wrap, IntKind.bits, IntKind.signed]
        have q3 : IntKind.u8.wrap ((g.ttl : Int) / 16777216) = (g.ttl : Int) / 16777216 := by simp [IntKind.wrap, IntKind.bits, IntKind.signed]; omega
        have q4 : IntKind.u8.wrap ((g.ttl : Int) / 65536) = (g.ttl : Int) / 65536 % 256 := by simp [IntKind.wrap, IntKind.bits, IntKind.signed]
        have q5 : IntKind.u8.wrap ((g.ttl : Int) / 256) = (g.ttl : Int) / 256 % 256 := by simp [IntKind.wrap, IntKind.bits, IntKind.signed]
        have q6 : IntKind.u8.wrap (g.ttl : Int) = (g.ttl : Int) % 256 := by simp [IntKind.wrap, IntKind.bits, IntKind.signed]
        rcases i with _ | _ | _ | _ | _ | _ | _ | _ | _ | _ | _ | _ | _ | _ | _ | _ | _ | _ | _ | _ | _ | _ | _ | _ | _ | _ | _ | i
        all_goals first
          | (exfalso; simp at hio; done)
          | (simp at hio; subst hio; simp [bindD, rdB, Region.binds, factAt] at haf; simp [opYield_def, yieldUpon, relAct, dstAt, Act.put, Region.wanted, go_sem, haf, e1, e3, Ext.refl, factAt, kindT, q1, q2, q3, q4, q5, q6]; done)
          | skip
        all_goals
          simp at hio
          subst hio
          simp [bindD, rdB, Region.binds, factAt] at haf
        · simp [opYield_def, yieldUpon, relAct, dstAt, Act.put, Region.wanted, go_sem, haf, factAt, kindT]
          refine (HWi.out W hE).mono fun e W' h5 => ?_
          obtain ⟨v, he, ho, hb⟩ := h5
          exact ⟨v, he, hb, own_base ho hE.size⟩
        · simp [opYield_def, yieldUpon, relAct, dstAt, Act.put, Region.wanted, go_sem, haf, factAt, kindT]
          exact ⟨(Below.refl _ _).alloc (Nat.le_refl _) _, own_rowC W w9.heap.size 5 (tailV t g.ttl) hE.size (by simp [tailV])⟩
        · obtain ⟨h1, h24⟩ := haf
          obtain ⟨A8, c8, e8, _, hcs8⟩ := Cs.of_own h24
          refine yield_bytes rfl (.tmp 37) (.tmp 60) Tryz.underlying28 rfl (v := vals 1) (by simp [relAct, dstAt, Act.put, Act.eval]) h1 hE.size (us := tailV t g.ttl) (A := A8) (c := c8) (by simp [relAct, dstAt, Act.put, Act.eval, e8, tailV]) hcs8 (by simp [tailV, Value.oneCell']) (by simp [tailV]; omega) ?_
          intro v' W' h4 h5
          exact ⟨h5, h4⟩
      · intro vals W hE hF
        have h26 := hF 26 (by show 26 < 27; omega) (by kernel_rfl)
        simp [relAct, dstAt, Act.put]
        clear hF
        have hzW := hE.size
        have y0 := (bcl (o := 0) hE (show w.heap.size < _ by omega)).trans u0
        have y1 := (bcl (o := 1) hE (show w.heap.size < _ by omega)).trans u1
        have y2 := (bcl (o := 2) hE (show w.heap.size < _ by omega)).trans u2
        have y3 := (bcl (o := 3) hE (show w.heap.size < _ by omega)).trans u3
        have h27 : W.ownsRow w.heap.size 5 1 (vals 26) (headO (star :: sd) t g.ttl).length ((headO (star :: sd) t g.ttl).map byteV) := by
          have he : (headO (star :: sd) t g.ttl).map byteV = wn.map byteV ++ tailV t g.ttl := by
            unfold headO
            rw [hwn, List.map_append, map_tail ht2 hgtl]
          rw [he, show (headO (star :: sd) t g.ttl).length = wn.length + 8 by unfold headO; rw [hwn]; simp [be2, be4]]
          exact own_base h26 (by omega)
        have hbW := hb8o.trans (hE.mono (by omega))
        have HH := Lib.hid h27
        have H5 := Lib.hid (own_below (H7o.out) hE)
        clear h26 h27 u0 u1 u2 u3 x2 x3 hb8o H7o HWi hwn
        generalize vals 26 = vh at *
        have hgb := HGB.out
        clear hwl
        generalize hgb2 : g.low.bytes = gb at *
        generalize hhb : headO (star :: sd) t g.ttl = hb at *
        have HDG := Lib.hid (DataG t sttl hCC A D n.length cap dcap ds W (HD0.out.below hbW) (HB0.out.below hbW) (by omega) HCap.out)
        go_wp2_with fail
        refine HDG.out.mono ?_
        rintro e W1 ⟨A1, xs, cx, rfl, hA1, hxo, hto, hbW1⟩
        have hbWW1 := hbW.trans (hbW1.mono (by omega))
        have H5' := Lib.hid (own_below H5.out hbW1)
        have HH' := Lib.hid (own_below HH.out hbW1)
        obtain ⟨Ah, ch, rfl, _, hch⟩ := Cs.of_own HH'.out
        have HCh := Lib.hid hch
        have HA1 := Lib.hid hA1
        have HXo := Lib.hid hxo
        have HTo := Lib.hid hto
        have hxn : xs.length ≤ 20 := by have := told_len hto; simp at this; omega
        have HXl : Hid (∀ x ∈ xs, x.l.length ≤ 20000) := Lib.hid (fun x hx => by
          obtain ⟨d, hd, hdx⟩ := List.mem_map.1 (told_mem hto _ (List.mem_map.2 ⟨x, hx, rfl⟩))
          rw [← hdx]
          exact HCx.out d hd)
        clear hA1 hxo hto y0 y1 y2 y3 hch hE hbW HDG hbW1
        go_wp2_with fail
        go_loopw [65, 5] (MsgR w W1 gb hb xs) (fun i _ _ => xs.length - (intOf i).toNat)
        case atStart => exact ⟨0, by omega, rfl, by simpa using H5'.out, Below.refl _ _⟩
        case round =>
          obtain ⟨k, hk, rfl, hown, hbk⟩ := hrel
          obtain ⟨V, hVV⟩ : ∃ V, V = wr := ⟨_, rfl⟩
          rw [← hVV] at hown hbk ⊢
          clear hVV
          have hzk := hbk.size
          have hz1 := hbWW1.size
          by_cases hkx : k < xs.length
          · obtain ⟨x, hx0⟩ : ∃ b, xs[k]? = some b := ⟨_, List.getElem?_eq_getElem hkx⟩
            have hxm : x ∈ xs := List.mem_of_getElem? hx0
            obtain ⟨bk, off, rfl, hbk1, hcell⟩ := HA1.out k x.v (by rw [List.getElem?_map, hx0]; rfl)
            have hcell2 : V.cell? ⟨bk, off + k, none⟩ = some (.slice x.A x.l.length x.cap) := (bcl hbk hbk1).trans hcell
            have hxl := HXl.out x hxm
            have hxV : Cs V x.A (x.l.map byteV) := Cs.below (HXo.out x hxm) hbk
            obtain ⟨Ag, cg, hvo, _, hcg⟩ := Cs.of_own hown
            subst hvo
            have hLl : (gb ++ (xs.take k).flatMap (fun x => hb ++ be2 x.l.length ++ x.l)).length ≤ 10000 + k * 30010 := by
              have := pieces_len hb xs (fun x hx => HXl.out x hx) hhl k (by omega)
              rw [List.length_append]
              omega
            have HLt : Hid (gb ++ (xs.take (k + 1)).flatMap (fun x => hb ++ be2 x.l.length ++ x.l) = (gb ++ (xs.take k).flatMap (fun x => hb ++ be2 x.l.length ++ x.l)) ++ hb ++ be2 x.l.length ++ x.l) := Lib.hid (by
              rw [List.take_add_one, hx0, List.flatMap_append]
              simp)
            generalize hLe : gb ++ (xs.take k).flatMap (fun x => hb ++ be2 x.l.length ++ x.l) = L at *
            have HC4 := Lib.hid (concat4 V Ag Ah x.A L hb x.l cg ch x.cap hcg (HCh.out.below hbk) hxV (by omega) (by omega) (by omega))
            have hki : (k : Int) < (xs.length : Int) := by omega
            clear hown hcg hxV hx0 hcell hLe
            go_wp2_with fail
            refine HC4.out.mono ?_
            rintro e W3 ⟨v, rfl, ho3, hb3⟩
            have hbF := hbk.trans (hb3.mono hzk)
            have HO3 := Lib.hid (own_base ho3 (show w.heap.size ≤ V.heap.size by omega))
            clear ho3
            go_wp2_with fail
            refine ⟨⟨k + 1, by omega, by go_num, ?_, hbF⟩, by simp [intOf]; omega⟩
            rw [HLt.out]
            exact HO3.out
          · have hkx2 : k = xs.length := by omega
            subst hkx2
            rw [List.take_length] at hown
            have HO3 := Lib.hid hown
            have hbF := hbWW1.trans (hbk.mono hz1)
            clear hown
            go_wp2_with fail
            go_ret
            refine ⟨_, xs.map (·.l), rfl, HTo.out, ?_, hbF⟩
            have e1 : msgL n t (xs.map (·.l)) g = gb ++ xs.flatMap (fun x => hb ++ be2 x.l.length ++ x.l) := by
              unfold msgL
              rw [hgb2, HOWN.out, hhb, List.flatMap_map]
            rw [e1]
            exact HO3.out
end Nm
end Go.Proofs.YthogembgndkmpaaGreatDoor

/- Rows of rows of bytes: l[:k:k], l[k:], appends that grow, in a region that draws. -/
namespace Go.Proofs.YthogembgndkmpaaGreatDoor
open Go.RowKit
namespace Nm
theorem slice3N (A : Option Addr) (n c k : Nat) (I : Int) (hI : I = (k : Int)) (h1 : k ≤ n) (h2 : n ≤ c) (W : World) : (Instr.sliceAt 32 (.slice A n c) none (some (.int .i64 I)) (some (.int .i64 I))).run Tryz.prog W = .ok (.slice A k k) W := by
  subst hI
  have h3 : (k : Int) ≤ (n : Int) := by omega
  have h4 : (k : Int) ≤ (c : Int) := by omega
  have h5 : k ≤ c := by omega
  cases A with
  | none => simp [go_sem, h3, h4, h5]
  | some a => simp [go_sem, h3, h4, h5]
theorem sliceDropB (A : Option Addr) (n c k : Nat) (I : Int) (hI : I = (k : Int)) (h1 : k ≤ n) (h2 : n ≤ c) (W : World) : (Instr.sliceAt 32 (.slice A n c) (some (.int .i64 I)) none none).run Tryz.prog W = .ok (.slice (piece A c k) (n - k) (c - k)) W := by
  subst hI
  unfold piece
  by_cases hc : c = k
  · have hn : n = k := by omega
    subst hc
    subst hn
    simp [go_sem]
  · have h3 : (k : Int) ≤ (n : Int) := by omega
    have h4 : (n : Int) ≤ (c : Int) := by omega
    simp [go_sem, hc, h1, h2, h3, h4]
theorem yield_slice3 {ops : Array Oper} {o : Oper} {a : Act} {W : World} {R : Value → World → Prop} (hgd : o.guard = none) (x hi mx : Operand) (ho : o.op = .slice 32 x none (some hi) (some mx)) {A : Option Addr} {n c k : Nat} {I : Int}
    (hx : a.eval x = .slice A n c) (hhi : a.eval hi = .int .i64 I) (hmx : a.eval mx = .int .i64 I) (hI : I = (k : Int)) (h1 : k ≤ n) (h2 : n ≤ c) (h : R (.slice A k k) W) : opYield Tryz.prog ops o a W R := by
  have hw : Region.wanted o (yielded ops a.tmps) = true := by simp [Region.wanted, hgd]
  have hr := slice3N A n c k I hI h1 h2 W
  rw [opYield_def, if_pos hw]
  unfold execOp
  simp only [ho, Option.map_some, Option.map_none, hx, hhi, hmx, hr, Sem.run_bind, Sem.run_pure, Result.andThen_ok]
  exact h
theorem yield_dropB {ops : Array Oper} {o : Oper} {a : Act} {W : World} {R : Value → World → Prop} (hgd : o.guard = none) (x lo : Operand) (ho : o.op = .slice 32 x (some lo) none none) {A : Option Addr} {n c k : Nat} {I : Int}
    (hx : a.eval x = .slice A n c) (hlo : a.eval lo = .int .i64 I) (hI : I = (k : Int)) (h1 : k ≤ n) (h2 : n ≤ c) (h : R (.slice (piece A c k) (n - k) (c - k)) W) : opYield Tryz.prog ops o a W R := by
  have hw : Region.wanted o (yielded ops a.tmps) = true := by simp [Region.wanted, hgd]
  have hr := sliceDropB A n c k I hI h1 h2 W
  rw [opYield_def, if_pos hw]
  unfold execOp
  simp only [ho, Option.map_some, Option.map_none, hx, hlo, hr, Sem.run_bind, Sem.run_pure, Result.andThen_ok]
  exact h
/-- append of rows that lie somewhere to a row of the call's own -/
theorem yield_rowsB {ops : Array Oper} {o : Oper} {a : Act} {W : World} {R : Value → World → Prop} (hgd : o.guard = none) (sl x : Operand) {t : TypeId} (ht : Tryz.prog.underlying t = some (.slice 28))
    (ho : o.op = .call { callee := .builtin .append, args := #[sl, x], argTypes := #[t, t] }) {B : Nat} {v : Value} {n : Nat} {xs us : List Value} (hs : a.eval sl = v) (hown : W.ownsRow B 28 1 v n xs) (hB : B ≤ W.heap.size)
    {A : Option Addr} {c : Nat} (hx : a.eval x = .slice A us.length c) (hcs : Cs W A us) (h1 : ∀ u ∈ us, u.oneCell' = true) (hn : n + us.length ≤ 1000000)
    (h : ∀ v' W', W'.ownsRow B 28 1 v' (n + us.length) (xs ++ us) → Below B W W' → R v' W') : opYield Tryz.prog ops o a W R := by
  obtain ⟨i0, hi, hz0, hz1, hz2⟩ := info_parts info_bytesD
  have hw : Region.wanted o (yielded ops a.tmps) = true := by simp [Region.wanted, hgd]
  rw [opYield_def, if_pos hw]
  cases A with
  | none =>
    have hsn : us = [] := hcs.none_nil
    subst hsn
    have hr := run_nothing (P := Tryz.prog) (ty := o.type) ht hi hown c
    unfold execOp
    simp only [ho, resolve, invoke, builtin, Sem.run_bind, Sem.run_pure, Result.andThen_ok, List.map_toArray, List.map_cons, List.map_nil, hs, hx, List.length_nil, hr]
    exact h v W (by simpa using hown) (Below.refl _ _)
  | some b =>
    obtain ⟨v', W', hr, h2, h3, _⟩ := run_append_own (P := Tryz.prog) W B t o.type 28 i0 _ 1 24 ht hi hz0 hz1 hz2 rfl (by decide) v n xs hown b us.length c us (by simp) hcs.cells h1 (by unfold maxLen; omega) (by omega) hB
    unfold execOp
    simp only [ho, resolve, invoke, builtin, Sem.run_bind, Sem.run_pure, Result.andThen_ok, List.map_toArray, List.map_cons, List.map_nil, hs, hx, hr]
    exact h v' W' h2 ((Below.refl _ _).grown h3 hB (fun k hk => (hown.lt k hk).1))
/-- append behind l[:n:n]: always a row of its own, nothing old is written -/
theorem yield_growB {ops : Array Oper} {o : Oper} {a : Act} {W : World} {R : Value → World → Prop} (hgd : o.guard = none) (sl x : Operand) {t : TypeId} (ht : Tryz.prog.underlying t = some (.slice 28))
    (ho : o.op = .call { callee := .builtin .append, args := #[sl, x], argTypes := #[t, t] }) {ao : Option Addr} {n : Nat} {olds : List Value} (hs : a.eval sl = .slice ao n n) (hnone : ao = none → n = 0) (hlo : olds.length = n) (holds : Cs W ao olds)
    {ad : Addr} {m c : Nat} {news : List Value} (hx : a.eval x = .slice (some ad) m c) (hnl : news.length = m) (hc : Cs W (some ad) news) (h1c : ∀ u ∈ news, u.oneCell' = true) (hm : 0 < m) (b1 : n + m ≤ 1000000)
    (h : ∀ v' W', W'.ownsRow W.heap.size 28 1 v' (n + m) (olds ++ news) → Ext W W' → R v' W') : opYield Tryz.prog ops o a W R := by
  obtain ⟨i0, hi, hz0, hz1, hz2⟩ := info_parts info_bytesD
  have hw : Region.wanted o (yielded ops a.tmps) = true := by simp [Region.wanted, hgd]
  rw [opYield_def, if_pos hw]
  cases ao with
  | some b =>
    obtain ⟨v', W', hr, h2, h3⟩ := run_append_arg_grows (P := Tryz.prog) W t o.type 28 i0 _ 1 24 ht hi hz0 hz1 hz2 rfl (by decide) b n n olds (by omega) holds.cells ad m c news (by omega) hc.cells (by omega) (by unfold maxLen; omega) (by omega)
    unfold execOp
    simp only [ho, resolve, invoke, builtin, Sem.run_bind, Sem.run_pure, Result.andThen_ok, List.map_toArray, List.map_cons, List.map_nil, hs, hx, hr]
    exact h v' W' h2 ((Below.refl _ _).grown h3 (Nat.le_refl _) (fun k hk => by cases hk))
  | none =>
    obtain rfl := hnone rfl
    obtain rfl : olds = [] := List.eq_nil_of_length_eq_zero hlo
    subst hnl
    obtain ⟨v', W', hr, h2, h3, _⟩ := run_append_own (P := Tryz.prog) W W.heap.size t o.type 28 i0 _ 1 24 ht hi hz0 hz1 hz2 rfl (by decide) (.slice none 0 0) 0 [] (World.ownsRow_nil W _ _ _) ad news.length c news (by simp) hc.cells h1c (by unfold maxLen; omega) (by omega) (Nat.le_refl _)
    unfold execOp
    simp only [ho, resolve, invoke, builtin, Sem.run_bind, Sem.run_pure, Result.andThen_ok, List.map_toArray, List.map_cons, List.map_nil, hs, hx, hr]
    exact h v' W' h2 ((Below.refl _ _).grown h3 (Nat.le_refl _) (fun k hk => by cases hk))
end Nm
end Go.Proofs.YthogembgndkmpaaGreatDoor
