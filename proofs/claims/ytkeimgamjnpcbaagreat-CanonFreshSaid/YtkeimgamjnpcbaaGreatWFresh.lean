/-
  The walk of CanonFresh.
-/
import Derived.Test.YtkeimgamjnpcbaaGreatKnown
import Derived.Test.YtkeimgamjnpcbaaGreatLight
namespace Go.Proofs.YtkeimgamjnpcbaaGreat
open Go.RowKit
set_option linter.unusedVariables false
namespace Nm
set_option maxRecDepth 100000 in
set_option maxHeartbeats 20000000 in
theorem WFresh (s : SetV) (ttl tag now valid : Int) (A : Option Addr) (sn : List Lab) (cap : Nat) (w : World) (hs : s.ok w) (hc : Cs w A (sn.map strV)) (hl1 : s.n.length ≤ maxLen) (hl2 : ∀ l ∈ s.n, l.length ≤ maxLen) (hl3 : sn.length ≤ maxLen) (hl4 : ∀ l ∈ sn, l.length ≤ maxLen) (hl5 : ∀ d ∈ s.ds, d.l.length ≤ maxLen) (hl6 : s.ds.length ≤ maxLen)
    (hscap : s.n.length ≤ s.cap) (hscap2 : s.cap ≤ maxLen) (h1 : 0 ≤ now) (h2 : now ≤ 4294967295) (h3 : 0 ≤ valid) (h4 : valid ≤ 4294967295) :
    Calls Tryz.prog 3 #[s.v, .int .u32 ttl, .int .u16 tag, .slice A sn.length cap, .int .u32 now, .int .u32 valid] w fun e w' =>
      e = .returned (.bool true) ∧ Below w.heap.size w w' := by
  unfold SetV.v
  generalize hw2 : w.alloc (.cells #[.slice s.A s.n.length s.cap, .int .u16 s.t, .int .u32 s.ttl, .slice s.D s.ds.length s.dcap] 28) = w2
  have hb2 : Below w.heap.size w w2 := by rw [← hw2]; exact (Below.refl _ _).alloc (Nat.le_refl _) _
  have hsz2 : w2.heap.size = w.heap.size + 1 := by rw [← hw2]; simp
  have hq : w2.heap[w.heap.size]? = some (.cells #[.slice s.A s.n.length s.cap, .int .u16 s.t, .int .u32 s.ttl, .slice s.D s.ds.length s.dcap] 28 (0, 0)) := by
    rw [← hw2]
    exact heap_alloc_new w (.cells #[.slice s.A s.n.length s.cap, .int .u16 s.t, .int .u32 s.ttl, .slice s.D s.ds.length s.dcap] 28)
  have HS := Lib.hid (SetV.ok.below hs hb2)
  have HC := Lib.hid (hc.below hb2)
  have HQ := Lib.hid hq
  have HLL : Hid (∀ W, Below w2.heap.size w2 W → Calls Tryz.prog 13 #[s.v, .agg #[.int .u16 0, .int .u8 0, .int .u8 0, .int .u32 0, .int .u32 0, .int .u32 0, .int .u16 0, .slice A sn.length cap, .slice none 0 0]] W fun e w' =>
      e = .returned (.bool (lightS s sn)) ∧ Below W.heap.size W w') := Lib.hid fun W hW => Light s A sn cap W (HS.out.below hW) (HC.out.below hW) hl1 hl2 hl3 hl4 hl5 hl6
  unfold SetV.v at HLL
  have HR : Hid (lightS s sn = true → s.n.length ≤ 1000 ∧ sn.length ≤ 1000) := Lib.hid fun h => by
    unfold lightS at h
    simp only [Bool.and_eq_true] at h
    have a := lightN_true h.1.1.2
    have b := lightN_true h.1.2
    omega
  clear hl1 hl2 hl3 hl4 hl5 hl6 hs hc hq
  go_enter Tryz.func3, Tryz.ntmps3
  go_wp2_with fail
  refine (Known w2).mono ?_
  rintro e w3 ⟨rfl, hb3⟩
  clear hw2
  have hq3 := (hb3.block _ (show w.heap.size < w2.heap.size by omega)).trans HQ.out
  have s0 : w3.cell? ⟨w.heap.size, 0, none⟩ = some (.slice s.A s.n.length s.cap) := by rw [cell_of_row _ _ 0 _ _ _ hq3]; rfl
  have s1 : w3.cell? ⟨w.heap.size, 1, none⟩ = some (.int .u16 s.t) := by rw [cell_of_row _ _ 1 _ _ _ hq3]; rfl
  have s2 : w3.cell? ⟨w.heap.size, 2, none⟩ = some (.int .u32 s.ttl) := by rw [cell_of_row _ _ 2 _ _ _ hq3]; rfl
  have s3 : w3.cell? ⟨w.heap.size, 3, none⟩ = some (.slice s.D s.ds.length s.dcap) := by rw [cell_of_row _ _ 3 _ _ _ hq3]; rfl
  clear hq3
  go_wp2_with fail
  refine (HLL.out w3 hb3).mono ?_
  rintro e w4 ⟨rfl, hb4⟩
  have hb34 := hb3.trans (hb4.mono hb3.size)
  have hz34 := hb34.size
  clear s0 s1 s2 s3
  cases hli : lightS s sn with
  | false =>
    clear HR HLL
    have hbF := hb2.trans (hb34.mono (by omega))
    go_wp2_with fail
    go_ret
    exact ⟨rfl, hbF⟩
  | true =>
    obtain ⟨hn1, hn2⟩ := HR.out hli
    clear HR HLL hli
    have hq4 := (hb34.block _ (show w.heap.size < w2.heap.size by omega)).trans HQ.out
    have s0 : w4.cell? ⟨w.heap.size, 0, none⟩ = some (.slice s.A s.n.length s.cap) := by rw [cell_of_row _ _ 0 _ _ _ hq4]; rfl
    have s1 : w4.cell? ⟨w.heap.size, 1, none⟩ = some (.int .u16 s.t) := by rw [cell_of_row _ _ 1 _ _ _ hq4]; rfl
    have s2 : w4.cell? ⟨w.heap.size, 2, none⟩ = some (.int .u32 s.ttl) := by rw [cell_of_row _ _ 2 _ _ _ hq4]; rfl
    have s3 : w4.cell? ⟨w.heap.size, 3, none⟩ = some (.slice s.D s.ds.length s.dcap) := by rw [cell_of_row _ _ 3 _ _ _ hq4]; rfl
    have HFr := Lib.hid (Fresh s ttl tag now valid A sn cap w4 (HS.out.below hb34) hn1 hscap hscap2 (HC.out.below hb34) hn2 h1 h2 h3 h4)
    unfold SetV.v at HFr
    clear hq4
    go_wp2_with fail
    refine HFr.out.mono ?_
    rintro e w5 ⟨v5, rfl, hown5, hb5⟩
    obtain ⟨A5, c5, rfl, _, hcs5⟩ := Cs.of_own hown5
    have hb35 := hb34.trans (hb5.mono (by omega))
    have hz35 := hb35.size
    clear s0 s1 s2 s3 HFr hown5
    go_wp2_with fail
    generalize hw6 : w5.alloc (.cells #[.int .u16 s.t, .int .u8 253, .int .u8 (labels s.n), .int .u32 ttl, .int .u32 (plus now valid), .int .u32 now, .int .u16 tag, .slice A5 sn.length c5, .slice none 0 0] 33) = w6
    have hb56 : Below w5.heap.size w5 w6 := by rw [← hw6]; exact (Below.refl _ _).alloc (Nat.le_refl _) _
    have hgq : w6.heap[w5.heap.size]? = some (.cells #[.int .u16 s.t, .int .u8 253, .int .u8 (labels s.n), .int .u32 ttl, .int .u32 (plus now valid), .int .u32 now, .int .u16 tag, .slice A5 sn.length c5, .slice none 0 0] 33 (0, 0)) := by
      rw [← hw6]
      exact heap_alloc_new w5 _
    have hz6 : w6.heap.size = w5.heap.size + 1 := by rw [← hw6]; simp
    have hb36 := hb35.trans (hb56.mono hz35)
    have HC5 := Lib.hid (hcs5.below hb56)
    have hbF := hb2.trans (hb36.mono (by omega))
    clear hw6 hcs5
    refine wp_region_mono (by kernel_rfl) (by kernel_rfl) [.is (.agg #[.int .u16 s.t, .int .u8 253, .int .u8 (labels s.n), .int .u32 ttl, .int .u32 (plus now valid), .int .u32 now, .int .u16 tag, .slice A5 sn.length c5, .slice none 0 0]),
      .is (.agg #[.slice s.A s.n.length s.cap, .int .u16 s.t, .int .u32 s.ttl, .slice s.D s.ds.length s.dcap]), .is (.int .u32 ttl), .is (.int .u16 tag), .is (.slice A sn.length cap), .is (.int .u32 now), .is (.int .u32 valid),
      .is (.agg #[.int .u16 s.t, .int .u8 253, .int .u8 (labels s.n), .int .u32 ttl, .int .u32 (plus now valid), .int .u32 now, .int .u16 tag, .slice A sn.length cap, .slice none 0 0]),
      .is (.bool true), .is (.bool true), .is (.pointer (some ⟨w5.heap.size, 8, none⟩)), .is (.slice none 0 0), .is (.int .i64 0), .is (.bool true), .is (.bool true), .is (.bool true)] rfl ?_ ?_
    · intro i o hio vals W hE haf
      have hb3W := hb36.trans (hE.mono (by omega))
      have hq7 := (hb3W.block _ (show w.heap.size < w2.heap.size by omega)).trans HQ.out
      have s0 : W.cell? ⟨w.heap.size, 0, none⟩ = some (.slice s.A s.n.length s.cap) := by rw [cell_of_row _ _ 0 _ _ _ hq7]; rfl
      have s1 : W.cell? ⟨w.heap.size, 1, none⟩ = some (.int .u16 s.t) := by rw [cell_of_row _ _ 1 _ _ _ hq7]; rfl
      have s2 : W.cell? ⟨w.heap.size, 2, none⟩ = some (.int .u32 s.ttl) := by rw [cell_of_row _ _ 2 _ _ _ hq7]; rfl
      have s3 : W.cell? ⟨w.heap.size, 3, none⟩ = some (.slice s.D s.ds.length s.dcap) := by rw [cell_of_row _ _ 3 _ _ _ hq7]; rfl
      have hg7 := (hE.block _ (show w5.heap.size < w6.heap.size by omega)).trans hgq
      obtain ⟨k0, k1, k2, k3, k4, k5, k6, k7, k8, kf⟩ := cells9 hg7
      rcases i with _ | _ | _ | _ | _ | _ | _ | _ | _ | _ | _ | _ | _ | _ | _ | _ | i
      all_goals first
        | (exfalso; simp at hio; done)
        | (simp at hio; subst hio; simp [bindD, rdB, Region.binds, factAt] at haf; simp [opYield_def, yieldUpon, yielded, relAct, dstAt, Act.put, Region.wanted, go_sem, haf, s0, s1, s2, s3, k0, k1, k2, k3, k4, k5, k6, k7, k8, Ext.refl, factAt]; done)
        | skip
      all_goals
        simp at hio
        subst hio
        simp [bindD, rdB, Region.binds, factAt] at haf
      · simp [opYield_def, yieldUpon, relAct, dstAt, Act.put, Region.wanted, go_sem, haf, factAt]
        have := RefFresh s ttl tag now valid A sn cap W (HS.out.below hb3W) hn1 hscap hscap2 (HC.out.below hb3W) hn2 h1 h2 h3 h4
        unfold SetV.v at this
        refine this.mono fun e W' h => ?_
        obtain ⟨he, hb⟩ := h
        exact ⟨he, hb⟩
      · simp [opYield_def, yieldUpon, relAct, dstAt, Act.put, Region.wanted, go_sem, haf, factAt]
        refine (HSig s.t 253 (labels s.n) ttl (plus now valid) now tag A5 A sn sn c5 cap (.slice none 0 0) (.slice none 0 0) rfl rfl W (HC5.out.below hE) (HC.out.below hb3W) (by omega) (by omega)).mono fun e W' h => ?_
        obtain ⟨hb, he⟩ := h
        exact ⟨by simpa using he, hb⟩
    · intro vals W hE hF
      have h15 := hF
      simp only [facts] at h15
      obtain ⟨_, _, _, _, _, _, _, _, _, _, _, _, _, _, _, h15, _⟩ := h15
      simp [relAct, dstAt, Act.put]
      have hbW := hbF.trans (hE.mono (by have := hbF.size; omega))
      clear hF
      have e15 : vals 15 = .bool true := h15
      rw [e15]
      go_wp2_with fail
      go_ret
      exact ⟨rfl, hbW⟩
end Nm
end Go.Proofs.YtkeimgamjnpcbaaGreat
