/-
  Contracts of package canon: Message, of sets of one datum under a name that is no longer than the signature says.
-/
import Derived.Test.YtkeimgamjnpcbaaGreatMsg
namespace Go.Proofs.YtkeimgamjnpcbaaGreat
open Go.RowKit
set_option linter.unusedVariables false
namespace Nm
def SigM.low (g : SigM) : SigM := { g with n := lower g.n, s := [] }
def headB (n : List Lab) (t ttl : Nat) : Lab := wire (Nm.lower n) ++ (be2 t ++ [0, 1] ++ be4 ttl)
def msg1 (n : List Lab) (t : Nat) (b : Lab) (g : SigM) : Lab := g.low.bytes ++ headB n t g.ttl ++ be2 b.length ++ b
def tailV (t ttl : Nat) : List Value := [.int .u8 ((t : Int) / 256), .int .u8 ((t : Int) % 256), .int .u8 0, .int .u8 1, .int .u8 ((ttl : Int) / 16777216), .int .u8 ((ttl : Int) / 65536 % 256), .int .u8 ((ttl : Int) / 256 % 256), .int .u8 ((ttl : Int) % 256)]
theorem map_tail {t ttl : Nat} (ht : t < 65536) (hl : ttl < 4294967296) : (be2 t ++ [0, 1] ++ be4 ttl).map byteV = tailV t ttl := by
  have a1 : byteV (UInt8.ofNat (t / 256)) = .int .u8 ((t : Int) / 256) := by rw [byteV_mod]; congr 1; omega
  have a2 : byteV (UInt8.ofNat t) = .int .u8 ((t : Int) % 256) := by rw [byteV_mod]
  have b1 : byteV (UInt8.ofNat (ttl / 16777216)) = .int .u8 ((ttl : Int) / 16777216) := by rw [byteV_mod]; congr 1; omega
  have b2 : byteV (UInt8.ofNat (ttl / 65536)) = .int .u8 ((ttl : Int) / 65536 % 256) := by rw [byteV_mod]; congr 1
  have b3 : byteV (UInt8.ofNat (ttl / 256)) = .int .u8 ((ttl : Int) / 256 % 256) := by rw [byteV_mod]; congr 1
  have b4 : byteV (UInt8.ofNat ttl) = .int .u8 ((ttl : Int) % 256) := by rw [byteV_mod]
  show [byteV (UInt8.ofNat (t / 256)), byteV (UInt8.ofNat t), byteV 0, byteV 1, byteV (UInt8.ofNat (ttl / 16777216)), byteV (UInt8.ofNat (ttl / 65536)), byteV (UInt8.ofNat (ttl / 256)), byteV (UInt8.ofNat ttl)] = _
  rw [a1, a2, b1, b2, b3, b4]
  rfl
theorem SigM.low_fits {g : SigM} (h : g.fits) : g.low.fits := ⟨h.t, h.al, h.lb, h.ttl, h.ex, h.bg, h.tg, h.n.lower, by simp [SigM.low]⟩
theorem setc_near {w : World} {b o k : Nat} {v : Value} (h : o ≠ k) : (w.setCell ⟨b, o, none⟩ v).cell? ⟨b, k, none⟩ = w.cell? ⟨b, k, none⟩ := World.cell?_setCell_other (w := w) (a := ⟨b, o, none⟩) (b := ⟨b, k, none⟩) (v := v) (by intro e; cases e; exact h rfl)
theorem kept_set2 (w : World) (b o k : Nat) (u v : Value) : Kept (fun i => i = b) w ((w.setCell ⟨b, o, none⟩ u).setCell ⟨b, k, none⟩ v) := ((Kept.refl (fun i => i = b) w).setCell (p := ⟨b, o, none⟩) (fun _ => rfl) u).setCell (p := ⟨b, k, none⟩) (fun _ => rfl) v
theorem concat4 (W : World) (A B C : Option Addr) (la bs cs : Lab) (ca cb cc : Nat) (hA : Cs W A (la.map byteV)) (hB : Cs W B (bs.map byteV)) (hC : Cs W C (cs.map byteV)) (h1 : la.length ≤ 10000000) (h2 : bs.length ≤ 10000000) (h3 : cs.length < 65536) :
    Calls Tryz.prog 63 #[.slice (some ⟨W.heap.size + 1, 0, none⟩) 4 4] ((W.alloc (.cells #[.int .u8 ((cs.length : Int) / 256), .int .u8 ((cs.length : Int) % 256)] 5)).alloc (.cells #[.slice A la.length ca, .slice B bs.length cb, .slice (some ⟨W.heap.size, 0, none⟩) 2 2, .slice C cs.length cc] 31)) fun e w' =>
      ∃ v, e = .returned v ∧ w'.ownsRow W.heap.size 5 1 v (la ++ bs ++ be2 cs.length ++ cs).length ((la ++ bs ++ be2 cs.length ++ cs).map byteV) ∧ Below W.heap.size W w' := by
  have e2 : (be2 cs.length).map byteV = [.int .u8 ((cs.length : Int) / 256), .int .u8 ((cs.length : Int) % 256)] := by
    have a1 : byteV (UInt8.ofNat (cs.length / 256)) = .int .u8 ((cs.length : Int) / 256) := by rw [byteV_mod]; congr 1; omega
    have a2 : byteV (UInt8.ofNat cs.length) = .int .u8 ((cs.length : Int) % 256) := by rw [byteV_mod]
    show [byteV (UInt8.ofNat (cs.length / 256)), byteV (UInt8.ofNat cs.length)] = _
    rw [a1, a2]
  have b1 : Below W.heap.size W (W.alloc (.cells #[.int .u8 ((cs.length : Int) / 256), .int .u8 ((cs.length : Int) % 256)] 5)) := (Below.refl _ _).alloc (Nat.le_refl _) _
  have hq : Cs (W.alloc (.cells #[.int .u8 ((cs.length : Int) / 256), .int .u8 ((cs.length : Int) % 256)] 5)) (some ⟨W.heap.size, 0, none⟩) ((be2 cs.length).map byteV) := by
    rw [e2]
    exact cs_new W 5 [.int .u8 ((cs.length : Int) / 256), .int .u8 ((cs.length : Int) % 256)] (0, 0)
  have hs1 : (W.alloc (.cells #[.int .u8 ((cs.length : Int) / 256), .int .u8 ((cs.length : Int) % 256)] 5)).heap.size = W.heap.size + 1 := by simp
  generalize W.alloc (.cells #[.int .u8 ((cs.length : Int) / 256), .int .u8 ((cs.length : Int) % 256)] 5) = W1 at *
  have b2 : Below W1.heap.size W1 (W1.alloc (.cells #[.slice A la.length ca, .slice B bs.length cb, .slice (some ⟨W.heap.size, 0, none⟩) 2 2, .slice C cs.length cc] 31)) := (Below.refl _ _).alloc (Nat.le_refl _) _
  have hr := cs_new W1 31 [.slice A la.length ca, .slice B bs.length cb, .slice (some ⟨W.heap.size, 0, none⟩) 2 2, .slice C cs.length cc] (0, 0)
  rw [hs1] at hr
  have b3 := b1.trans (b2.mono (by omega))
  have hcc := Concat (some ⟨W.heap.size + 1, 0, none⟩) [⟨A, la, ca⟩, ⟨B, bs, cb⟩, ⟨some ⟨W.heap.size, 0, none⟩, be2 cs.length, 2⟩, ⟨C, cs, cc⟩] 4 _ hr (by
    intro b hb
    rcases List.mem_cons.1 hb with rfl | hb
    · exact Cs.below (w := W) hA b3
    · rcases List.mem_cons.1 hb with rfl | hb
      · exact Cs.below (w := W) hB b3
      · rcases List.mem_cons.1 hb with rfl | hb
        · exact Cs.below (w := W1) hq b2
        · rcases List.mem_cons.1 hb with rfl | hb
          · exact Cs.below (w := W) hC b3
          · cases hb) (by simp) (by simp [join, be2]; omega)
  have hj : join [⟨A, la, ca⟩, ⟨B, bs, cb⟩, ⟨some ⟨W.heap.size, 0, none⟩, be2 cs.length, 2⟩, ⟨C, cs, cc⟩] = la ++ bs ++ be2 cs.length ++ cs := by simp [join]
  refine hcc.mono fun e w' h => ?_
  obtain ⟨v, he, ho, hb⟩ := h
  rw [hj] at ho
  exact ⟨v, he, own_base ho (by have := b3.size; simpa using this), b3.trans (hb.mono (by have := b3.size; simpa using this))⟩
set_option maxRecDepth 100000 in
set_option maxHeartbeats 20000000 in
theorem Message1 (A D : Option Addr) (n : List Lab) (cap dcap t sttl : Nat) (b : Blob) (g : SigM) (SA SS : Option Addr) (sc ssc : Nat) (w : World) (ht : plainT t) (ht2 : t < 65536) (hok : chk t b.l = true) (hA : Cs w A (n.map strV)) (hn : Small n) (hD : Cs w D [b.v]) (hb : b.ok w) (hcap : b.l.length ≤ b.cap) (hcap2 : b.cap ≤ maxLen)
    (hg : g.fits) (hSA : Cs w SA (g.n.map strV)) (hle : n.length ≤ g.lb) :
    Calls Tryz.prog 20 #[.agg #[.slice A n.length cap, .int .u16 t, .int .u32 sttl, .slice D 1 dcap], g.v SA sc SS ssc] w fun e w' =>
      ∃ v, e = .returned v ∧ w'.ownsRow w.heap.size 5 1 v (msg1 n t b.l g).length ((msg1 n t b.l g).map byteV) ∧ Below w.heap.size w w' := by
  obtain ⟨i0, hi, hz0, hz1, hz2⟩ := info_parts info_u8
  unfold SigM.v
  generalize hw2 : (w.alloc (.cells #[.slice A n.length cap, .int .u16 t, .int .u32 sttl, .slice D 1 dcap] 28)).alloc (.cells #[.int .u16 g.t, .int .u8 g.al, .int .u8 g.lb, .int .u32 g.ttl, .int .u32 g.ex, .int .u32 g.bg, .int .u16 g.tg, .slice SA g.n.length sc, .slice SS g.s.length ssc] 33) = w2
  have hb2 : Below w.heap.size w w2 := by rw [← hw2]; exact ((Below.refl _ _).alloc (Nat.le_refl _) _).alloc (by simp) _
  have hsz2 : w2.heap.size = w.heap.size + 2 := by rw [← hw2]; simp
  have hs : w2.heap[w.heap.size]? = some (.cells #[.slice A n.length cap, .int .u16 t, .int .u32 sttl, .slice D 1 dcap] 28 (0, 0)) := by
    rw [← hw2]
    have := heap_alloc_new w (.cells #[.slice A n.length cap, .int .u16 t, .int .u32 sttl, .slice D 1 dcap] 28)
    rw [Below.heap_alloc _ _ _ (by simp)]
    exact this
  have hgq : w2.heap[w.heap.size + 1]? = some (.cells #[.int .u16 g.t, .int .u8 g.al, .int .u8 g.lb, .int .u32 g.ttl, .int .u32 g.ex, .int .u32 g.bg, .int .u16 g.tg, .slice SA g.n.length sc, .slice SS g.s.length ssc] 33 (0, 0)) := by
    have := heap_alloc_new (w.alloc (.cells #[.slice A n.length cap, .int .u16 t, .int .u32 sttl, .slice D 1 dcap] 28)) (.cells #[.int .u16 g.t, .int .u8 g.al, .int .u8 g.lb, .int .u32 g.ttl, .int .u32 g.ex, .int .u32 g.bg, .int .u16 g.tg, .slice SA g.n.length sc, .slice SS g.s.length ssc] 33)
    rw [World.size_alloc] at this
    rw [← hw2]; exact this
  have s0 : w2.cell? ⟨w.heap.size, 0, none⟩ = some (.slice A n.length cap) := by rw [cell_of_row _ _ 0 _ _ _ hs]; rfl
  have s1 : w2.cell? ⟨w.heap.size, 1, none⟩ = some (.int .u16 t) := by rw [cell_of_row _ _ 1 _ _ _ hs]; rfl
  have s2 : w2.cell? ⟨w.heap.size, 2, none⟩ = some (.int .u32 sttl) := by rw [cell_of_row _ _ 2 _ _ _ hs]; rfl
  have s3 : w2.cell? ⟨w.heap.size, 3, none⟩ = some (.slice D 1 dcap) := by rw [cell_of_row _ _ 3 _ _ _ hs]; rfl
  obtain ⟨k0, k1, k2, k3, k4, k5, k6, k7, k8, kf⟩ := cells9 hgq
  have HA := Lib.hid (hA.below hb2)
  have HA0 := Lib.hid hA
  have HD0 := Lib.hid hD
  have HB0 := Lib.hid hb
  have HD := Lib.hid (hD.below hb2)
  have HB : Hid (b.ok w2) := Lib.hid (Cs.below hb hb2)
  have HSA := Lib.hid (hSA.below hb2)
  go_enter Tryz.func20, Tryz.ntmps20
  go_wp2_with fail
  clear hw2 hA hD hb hSA hs hgq HA HD HB
  refine (Lower SA g.n sc w2 HSA.out hg.n.few).mono ?_
  rintro e w3 ⟨v3, rfl, hown3, hb3⟩
  obtain ⟨A3, c3, rfl, _, hcs3⟩ := Cs.of_own hown3
  have hz3 := hb3.size
  have t0 := (bcl (o := 0) hb3 (show w.heap.size < _ by omega)).trans s0
  have t1 := (bcl (o := 1) hb3 (show w.heap.size < _ by omega)).trans s1
  have t2 := (bcl (o := 2) hb3 (show w.heap.size < _ by omega)).trans s2
  have t3 := (bcl (o := 3) hb3 (show w.heap.size < _ by omega)).trans s3
  have r0 := (bcl (o := 0) hb3 (show w.heap.size + 1 < _ by omega)).trans k0
  have r1 := (bcl (o := 1) hb3 (show w.heap.size + 1 < _ by omega)).trans k1
  have r2 := (bcl (o := 2) hb3 (show w.heap.size + 1 < _ by omega)).trans k2
  have r3 := (bcl (o := 3) hb3 (show w.heap.size + 1 < _ by omega)).trans k3
  have r4 := (bcl (o := 4) hb3 (show w.heap.size + 1 < _ by omega)).trans k4
  have r5 := (bcl (o := 5) hb3 (show w.heap.size + 1 < _ by omega)).trans k5
  have r6 := (bcl (o := 6) hb3 (show w.heap.size + 1 < _ by omega)).trans k6
  have r7 := (bcl (o := 7) hb3 (show w.heap.size + 1 < _ by omega)).trans k7
  have r8 := (bcl (o := 8) hb3 (show w.heap.size + 1 < _ by omega)).trans k8
  have f7 := (bfr (o := 7) hb3 (show w.heap.size + 1 < _ by omega)).trans (kf 7)
  have f8 := (bfr (o := 8) hb3 (show w.heap.size + 1 < _ by omega)).trans (kf 8)
  have hb23 := hb2.trans (hb3.mono (by omega))
  have HG := Lib.hid hg
  have HC3 := Lib.hid hcs3
  have hw3 : ∀ a, A3 = some a → (lower g.n).map strV ≠ [] → w2.heap.size ≤ a.block := fun a ha hx => (hown3.lt a.block (by rw [ha]; rfl)).1
  have HW3 := Lib.hid hw3
  clear k0 k1 k2 k3 k4 k5 k6 k7 k8 kf s0 s1 s2 s3 hb2 hown3 hcs3 hg hw3
  go_wp2_with fail
  generalize hw4 : (w3.setCell ⟨w.heap.size + 1, 8, none⟩ (.slice none 0 0)).setCell ⟨w.heap.size + 1, 7, none⟩ (.slice A3 g.n.length c3) = w4
  have hk4 : Kept (fun k => k = w.heap.size + 1) w3 w4 := by rw [← hw4]; exact kept_set2 _ _ _ _ _ _
  have hz4 := hk4.size
  have u0 := (hk4.cell (o := 0) (show w.heap.size < _ by omega) (by omega)).trans t0
  have u1 := (hk4.cell (o := 1) (show w.heap.size < _ by omega) (by omega)).trans t1
  have u2 := (hk4.cell (o := 2) (show w.heap.size < _ by omega) (by omega)).trans t2
  have u3 := (hk4.cell (o := 3) (show w.heap.size < _ by omega) (by omega)).trans t3
  have x2 : w4.cell? ⟨w.heap.size + 1, 2, none⟩ = some (.int .u8 g.lb) := by
    rw [← hw4, setc_near (by decide), setc_near (by decide)]
    exact r2
  have x3 : w4.cell? ⟨w.heap.size + 1, 3, none⟩ = some (.int .u32 g.ttl) := by
    rw [← hw4, setc_near (by decide), setc_near (by decide)]
    exact r3
  have hb4 : Below w.heap.size w w4 := hb23.trans (hk4.below (by omega) (fun k hk => by omega))
  have hcs4 : Cs w4 A3 ((lower g.n).map strV) := Kept.cs HC3.out hk4 (fun a ha hx => by have := HW3.out a ha hx; omega)
  have hsb := SigBytes g.low (SigM.low_fits HG.out) A3 none c3 0 w4 hcs4 (Cs.nil _ _)
  have hll := lower_len g.n
  unfold SigM.v SigM.low at hsb
  simp only [hll, List.length_nil] at hsb
  have HS := Lib.hid hsb
  clear hsb hcs4 r0 r1 r2 r3 r4 r5 r6 r7 r8 f7 f8 t0 t1 t2 t3 hw4
  refine HS.out.mono ?_
  rintro e w5 ⟨v5, rfl, hown5, hb5⟩
  have hz5 := hb5.size
  have y0 := (bcl (o := 0) hb5 (show w.heap.size < _ by omega)).trans u0
  have y1 := (bcl (o := 1) hb5 (show w.heap.size < _ by omega)).trans u1
  have y2 := (bcl (o := 2) hb5 (show w.heap.size < _ by omega)).trans u2
  have y3 := (bcl (o := 3) hb5 (show w.heap.size < _ by omega)).trans u3
  have z2 := (bcl (o := 2) hb5 (show w.heap.size + 1 < _ by omega)).trans x2
  have z3 := (bcl (o := 3) hb5 (show w.heap.size + 1 < _ by omega)).trans x3
  have H5 : Hid (w5.ownsRow w.heap.size 5 1 v5 g.low.bytes.length (g.low.bytes.map byteV)) := Lib.hid (own_base hown5 hb4.size)
  have hb5' := hb4.trans (hb5.mono hb4.size)
  clear hown5 u0 u1 u2 u3 x2 x3 HS HC3 HW3 hb3 hk4 hb23
  go_wp2_with fail
  have hA5 : Cs w5 A (n.map strV) := HA0.out.below hb5'
  refine (Lower A n cap w5 hA5 hn.few).mono ?_
  rintro e w7 ⟨v7, rfl, hown7, hb7⟩
  have hz7 := hb7.size
  have u0 := (bcl (o := 0) hb7 (show w.heap.size < _ by omega)).trans y0
  have u1 := (bcl (o := 1) hb7 (show w.heap.size < _ by omega)).trans y1
  have u2 := (bcl (o := 2) hb7 (show w.heap.size < _ by omega)).trans y2
  have u3 := (bcl (o := 3) hb7 (show w.heap.size < _ by omega)).trans y3
  have x2 := (bcl (o := 2) hb7 (show w.heap.size + 1 < _ by omega)).trans z2
  have x3 := (bcl (o := 3) hb7 (show w.heap.size + 1 < _ by omega)).trans z3
  have H7 := Lib.hid (own_below H5.out hb7)
  have hb8 := hb5'.trans (hb7.mono (by omega))
  obtain ⟨A7, c7, rfl, _, hcs7⟩ := Cs.of_own hown7
  have HC7 := Lib.hid hcs7
  have hglb := HG.out.lb
  have hgtl := HG.out.ttl
  have hsz7 : w.heap.size + 1 < w7.heap.size := by omega
  have hfew := hn.few
  have hnl : n.length ≤ 1000 := by have := hn.1; omega
  clear hown7 y0 y1 y2 y3 z2 z3 H5 hb5' hA5 hcs7 hz3 hz4 hz5 hsz2
  go_wp2_with fail
  have hlt := hz7
  have hn2 := hn.lower
  have hwl := wire_len_few hn2
  have hll2 := lower_len n
  have HWi : Hid (∀ W, Below w7.heap.size w7 W → Calls Tryz.prog 61 #[.slice A7 n.length c7] W fun e w' => ∃ v, e = .returned v ∧ w'.ownsRow W.heap.size 5 1 v (wire (lower n)).length ((wire (lower n)).map byteV) ∧ Below W.heap.size W w') := Lib.hid fun W hW => by
    have := Wire A7 (lower n) c7 W (HC7.out.below hW) hn2
    rw [hll2] at this
    exact this
  have hNB : w.heap.size + 1 < w7.heap.size := hsz7
  generalize hwn : wire (lower n) = wn at *
  refine wp_region_gen mixed0 (by kernel_rfl) w7.heap.size (Nat.le_refl _) [.is (.slice A7 n.length c7), .own w7.heap.size 5 1 wn.length (wn.map byteV),
    .is (.pointer (some ⟨w.heap.size, 1, none⟩)), .is (.int .u16 t), .is (.int .u16 ((t : Int) / 256)), .is (.int .u8 ((t : Int) / 256)),
    .is (.pointer (some ⟨w.heap.size, 1, none⟩)), .is (.int .u16 t), .is (.int .u8 ((t : Int) % 256)),
    .is (.pointer (some ⟨w.heap.size + 1, 3, none⟩)), .is (.int .u32 g.ttl), .is (.int .u32 ((g.ttl : Int) / 16777216)), .is (.int .u8 ((g.ttl : Int) / 16777216)),
    .is (.pointer (some ⟨w.heap.size + 1, 3, none⟩)), .is (.int .u32 g.ttl), .is (.int .u32 ((g.ttl : Int) / 65536)), .is (.int .u8 ((g.ttl : Int) / 65536 % 256)),
    .is (.pointer (some ⟨w.heap.size + 1, 3, none⟩)), .is (.int .u32 g.ttl), .is (.int .u32 ((g.ttl : Int) / 256)), .is (.int .u8 ((g.ttl : Int) / 256 % 256)),
    .is (.pointer (some ⟨w.heap.size + 1, 3, none⟩)), .is (.int .u32 g.ttl), .is (.int .u8 ((g.ttl : Int) % 256)),
    .own w7.heap.size 5 1 8 (tailV t g.ttl), .own w7.heap.size 5 1 (wn.length + 8) (wn.map byteV ++ tailV t g.ttl), .own w7.heap.size 5 1 (wn.length + 8) (wn.map byteV ++ tailV t g.ttl)]
    (fun i => if i = 25 then 2 else 0) (fun j => if j = 1 ∨ j = 24 ∨ j = 25 ∨ j = 26 then 1 else 0) (by kernel_rfl) ?_ ?_ ?_
  · intro j
    rcases j with _ | _ | _ | _ | _ | _ | _ | _ | _ | _ | _ | _ | _ | _ | _ | _ | _ | _ | _ | _ | _ | _ | _ | _ | _ | _ | _ | j
    all_goals first
      | exact kind_is _ _
      | exact kind_own _ _ _ _ _ _ (Nat.le_refl _)
      | (have hx : ¬ (j + 27 = 1 ∨ j + 27 = 24 ∨ j + 27 = 25 ∨ j + 27 = 26) := by omega
         rw [if_neg hx]
         exact kind_any _)
  · intro i o hio vals W hE haf
    have e1 := (bcl (o := 1) hE (show w.heap.size < _ by omega)).trans u1
    have e3 := (bcl (o := 3) hE (show w.heap.size + 1 < _ by omega)).trans x3
    have q1 : IntKind.u8.wrap ((t : Int) / 256) = (t : Int) / 256 := by simp [IntKind.wrap, IntKind.bits, IntKind.signed]; omega
    have q2 : IntKind.u8.wrap (t : Int) = (t : Int) % 256 := by simp [IntKind.wrap, IntKind.bits, IntKind.signed]
    have q3 : IntKind.u8.wrap ((g.ttl : Int) / 16777216) = (g.ttl : Int) / 16777216 := by simp [IntKind.wrap, IntKind.bits, IntKind.signed]; omega
    have q4 : IntKind.u8.wrap ((g.ttl : Int) / 65536) = (g.ttl : Int) / 65536 % 256 := by simp [IntKind.wrap, IntKind.bits, IntKind.signed]
    have q5 : IntKind.u8.wrap ((g.ttl : Int) / 256) = (g.ttl : Int) / 256 % 256 := by simp [IntKind.wrap, IntKind.bits, IntKind.signed]
    have q6 : IntKind.u8.wrap (g.ttl : Int) = (g.ttl : Int) % 256 := by simp [IntKind.wrap, IntKind.bits, IntKind.signed]
    rcases i with _ | _ | _ | _ | _ | _ | _ | _ | _ | _ | _ | _ | _ | _ | _ | _ | _ | _ | _ | _ | _ | _ | _ | _ | _ | _ | _ | i
    all_goals first
      | (exfalso; simp at hio; done)
      | (simp at hio; subst hio; simp [bindD, rdB, Region.binds, factAt] at haf; simp [opYield_def, yieldUpon, relAct, dstAt, Act.put, Region.wanted, go_sem, haf, e1, e3, Ext.refl, factAt, kindT, q1, q2, q3, q4, q5, q6]; done)
      | skip
    all_goals
      simp at hio
      subst hio
      simp [bindD, rdB, Region.binds, factAt] at haf
    · simp [opYield_def, yieldUpon, relAct, dstAt, Act.put, Region.wanted, go_sem, haf, factAt, kindT]
      refine (HWi.out W hE).mono fun e W' h5 => ?_
      obtain ⟨v, he, ho, hb⟩ := h5
      exact ⟨v, he, hb, own_base ho hE.size⟩
    · simp [opYield_def, yieldUpon, relAct, dstAt, Act.put, Region.wanted, go_sem, haf, factAt, kindT]
      exact ⟨(Below.refl _ _).alloc (Nat.le_refl _) _, own_rowC W w7.heap.size 5 (tailV t g.ttl) hE.size (by simp [tailV])⟩
    · obtain ⟨h1, h24⟩ := haf
      obtain ⟨A8, c8, e8, _, hcs8⟩ := Cs.of_own h24
      refine yield_bytes rfl (.tmp 37) (.tmp 60) Tryz.underlying31 rfl (v := vals 1) (by simp [relAct, dstAt, Act.put, Act.eval]) h1 hE.size (us := tailV t g.ttl) (A := A8) (c := c8) (by simp [relAct, dstAt, Act.put, Act.eval, e8, tailV]) hcs8 (by simp [tailV, Value.oneCell']) (by simp [tailV]; omega) ?_
      intro v' W' h4 h5
      exact ⟨h5, h4⟩
  · intro vals W hE hF
    have h26 := hF 26 (by show 26 < 27; omega) (by kernel_rfl)
    simp [relAct, dstAt, Act.put]
    clear hF
    have hzW := hE.size
    have y0 := (bcl (o := 0) hE (show w.heap.size < _ by omega)).trans u0
    have y1 := (bcl (o := 1) hE (show w.heap.size < _ by omega)).trans u1
    have y2 := (bcl (o := 2) hE (show w.heap.size < _ by omega)).trans u2
    have y3 := (bcl (o := 3) hE (show w.heap.size < _ by omega)).trans u3
    have h27 : W.ownsRow w.heap.size 5 1 (vals 26) (headB n t g.ttl).length ((headB n t g.ttl).map byteV) := by
      have he : (headB n t g.ttl).map byteV = wn.map byteV ++ tailV t g.ttl := by
        unfold headB
        rw [hwn, List.map_append, map_tail ht2 hgtl]
      rw [he, show (headB n t g.ttl).length = wn.length + 8 by unfold headB; rw [hwn]; simp [be2, be4]]
      exact own_base h26 (by omega)
    have hbW := hb8.trans (hE.mono (by omega))
    have HH := Lib.hid h27
    have H5 := Lib.hid (own_below (H7.out) hE)
    clear h26 h27 u0 u1 u2 u3 x2 x3 hb4 hb5 hb7 hb8 H7 HWi hwn
    generalize vals 26 = vh at *
    have hDW : Cs W D [b.v] := HD0.out.below hbW
    have hBW : b.ok W := Cs.below HB0.out hbW
    have hl8 : b.l.length ≤ 8192 := (shp_of_chk ht.2.2.2.1 ht.2.2.2.2.1 ht.2.2.2.2.2.1 hok).2
    have hgl : g.low.bytes.length ≤ 1001100 := by
      have := wire_len_few (HG.out.n).lower
      simp [SigM.bytes, SigM.low, be2, be4]; omega
    have hhl : (headB n t g.ttl).length ≤ 1001100 := by
      have := wire_len_few hn2
      simp [headB, be2, be4]; omega
    clear hwl
    generalize hgb : g.low.bytes = gb at *
    generalize hhb : headB n t g.ttl = hb at *
    go_wp2_with fail
    refine (data1 A D n cap dcap t sttl b W ht hok hDW hBW hcap hcap2).mono ?_
    rintro e W1 ⟨A1, x, cx, rfl, hA1, hxl, hxo, hbW1⟩
    have hzW1 := hbW1.size
    obtain ⟨bk, off, rfl, hbk, hcell⟩ := hA1 0 _ rfl
    rw [Nat.add_zero] at hcell
    have hxv : x.v = .slice x.A b.l.length x.cap := by unfold Blob.v; rw [hxl]
    rw [hxv] at hcell
    have HX := Lib.hid hxo
    have hbWW1 := hbW.trans (hbW1.mono (by omega))
    have H5' := Lib.hid (own_below H5.out hbW1)
    have HH' := Lib.hid (own_below HH.out hbW1)
    obtain ⟨Ag, cg, rfl, _, hcg⟩ := Cs.of_own H5'.out
    obtain ⟨Ah, ch, rfl, _, hch⟩ := Cs.of_own HH'.out
    have HCg := Lib.hid hcg
    have HCh := Lib.hid hch
    clear hA1 hxo y0 y1 y2 y3 hcg hch hDW hBW hE hbW
    go_wp2_with fail
    refine wp_loop_rounds 2 ?_
    rw [rounds_succ]
    go_wp2_with fail
    have hc4 := concat4 W1 Ag Ah x.A gb hb b.l cg ch x.cap HCg.out HCh.out (by have := HX.out; unfold Blob.ok at this; rw [hxl] at this; exact this) (by omega) (by omega) (by omega)
    refine hc4.mono ?_
    rintro e W3 ⟨v, rfl, hown, hbl⟩
    have hbF := hbWW1.trans (hbl.mono (by omega))
    have HR := Lib.hid (own_base hown (show w.heap.size ≤ W1.heap.size by omega))
    clear hown hc4
    go_wp2_with fail
    rw [rounds_succ]
    go_wp2_with fail
    go_ret
    refine ⟨v, rfl, ?_, hbF⟩
    unfold msg1
    rw [hgb, hhb]
    exact HR.out
end Nm
end Go.Proofs.YtkeimgamjnpcbaaGreat
