/-
  Contracts of the reference's Fresh; names and signatures held against one another.
-/
import Derived.Test.YtkeimgamjnpcbaaGreatFresh
namespace Go.Proofs.YtkeimgamjnpcbaaGreat
open Go.RowKit
set_option linter.unusedVariables false
namespace Nm
set_option maxRecDepth 100000 in
set_option maxHeartbeats 10000000 in
theorem RefFresh (s : SetV) (ttl tag now valid : Int) (A : Option Addr) (sn : List Lab) (cap : Nat) (w : World) (hs : s.ok w) (hsn : s.n.length ≤ 1000) (hscap : s.n.length ≤ s.cap) (hscap2 : s.cap ≤ maxLen)
    (hc : Cs w A (sn.map strV)) (hn : sn.length ≤ 1000) (h1 : 0 ≤ now) (h2 : now ≤ 4294967295) (h3 : 0 ≤ valid) (h4 : valid ≤ 4294967295) :
    Calls Tryz.prog 16 #[s.v, .int .u32 ttl, .int .u16 tag, .slice A sn.length cap, .int .u32 now, .int .u32 valid] w fun e w' =>
      e = .returned (.agg #[.int .u16 s.t, .int .u8 253, .int .u8 (labels s.n), .int .u32 ttl, .int .u32 (plus now valid), .int .u32 now, .int .u16 tag, .slice A sn.length cap, .slice none 0 0]) ∧ Below w.heap.size w w' := by
  unfold SetV.v
  obtain ⟨hs1, _, _⟩ := hs
  have HS := Lib.hid hs1
  have HC := Lib.hid hc
  clear hs1 hc
  go_enter Tryz.func16, Tryz.ntmps16
  go_wp2_with fail
  generalize hw1 : (w.alloc (.cells #[.slice s.A s.n.length s.cap, .int .u16 s.t, .int .u32 s.ttl, .slice s.D s.ds.length s.dcap] 28)).alloc _ = w1
  have hb1 : Below w.heap.size w w1 := by rw [← hw1]; exact ((Below.refl _ _).alloc (Nat.le_refl _) _).alloc (by simp) _
  have hsz1 : w1.heap.size = w.heap.size + 2 := by rw [← hw1]; simp
  have HS1 := Lib.hid (HS.out.below hb1)
  have HC1 := Lib.hid (HC.out.below hb1)
  have hr : w1.heap[w.heap.size + 1]? = some (.cells #[.int .u16 0, .int .u8 0, .int .u8 0, .int .u32 0, .int .u32 0, .int .u32 0, .int .u16 0, .slice none 0 0, .slice none 0 0] 33 (0, 0)) := by
    have := heap_alloc_new (w.alloc (.cells #[.slice s.A s.n.length s.cap, .int .u16 s.t, .int .u32 s.ttl, .slice s.D s.ds.length s.dcap] 28)) (.cells #[.int .u16 0, .int .u8 0, .int .u8 0, .int .u32 0, .int .u32 0, .int .u32 0, .int .u16 0, .slice none 0 0, .slice none 0 0] 33)
    rw [World.size_alloc] at this
    rw [← hw1]; exact this
  have hx0 : w1.cell? ⟨w.heap.size, 0, none⟩ = some (.slice s.A s.n.length s.cap) := by rw [← hw1]; simp [go_sem]
  have hx1 : w1.cell? ⟨w.heap.size, 1, none⟩ = some (.int .u16 s.t) := by rw [← hw1]; simp [go_sem]
  clear hw1
  refine wp_region_rel (by kernel_rfl) (by kernel_rfl) (fun _ _ => false) (by kernel_rfl)
    (fun i W W' => if i = 13 then W.grownBy W' (some (w.heap.size + 1)) ∧ (∃ cs, W'.heap[w.heap.size + 1]? = some (.cells cs 33 (0, 0)) ∧ cs.size = 9) else Below W.heap.size W W')
    (fun W => w1.grownBy W (some (w.heap.size + 1)) ∧ ∃ cs, W.heap[w.heap.size + 1]? = some (.cells cs 33 (0, 0)) ∧ cs.size = 9)
    (fun i v W => match i with
      | 0 => v = .pointer (some ⟨w.heap.size, 1, none⟩)
      | 1 => v = .int .u16 s.t
      | 2 => v = .pointer (some ⟨w.heap.size, 0, none⟩)
      | 3 => v = .slice s.A s.n.length s.cap
      | 4 => v = .int .u8 (labels s.n)
      | 5 => v = .int .u32 ttl
      | 6 => v = .int .u32 now
      | 7 => v = .int .u32 valid
      | 8 => v = .int .u32 (plus now valid)
      | 9 => v = .int .u32 now
      | 10 => v = .int .u16 tag
      | 11 => v = .slice A sn.length cap
      | 12 => v = .agg #[.int .u16 s.t, .int .u8 253, .int .u8 (labels s.n), .int .u32 ttl, .int .u32 (plus now valid), .int .u32 now, .int .u16 tag, .slice A sn.length cap, .slice none 0 0]
      | 13 => W.heap[w.heap.size + 1]? = some (.cells #[.int .u16 s.t, .int .u8 253, .int .u8 (labels s.n), .int .u32 ttl, .int .u32 (plus now valid), .int .u32 now, .int .u16 tag, .slice A sn.length cap, .slice none 0 0] 33 (0, 0))
      | _ => True)
    ?_ ?_ ?_ ?_ ?_
  · exact ⟨⟨rfl, rfl, rfl, Nat.le_refl _, fun _ _ _ => rfl⟩, _, hr, rfl⟩
  · intro i W W' ⟨hg, hcs⟩ hT
    by_cases hi : i = 13
    · simp only [hi, if_true] at hT
      exact ⟨hg.trans hT.1, hT.2⟩
    · simp only [hi, if_false] at hT
      obtain ⟨cs, h5, h6⟩ := hcs
      exact ⟨hg.trans ⟨hT.os, hT.tape, hT.output, hT.size, fun k hk _ => hT.block k hk⟩, cs, (hT.block _ (lt_block h5)).trans h5, h6⟩
  · intro i j v W W' hij _ _ hCW hRj hT
    by_cases hi : i = 13
    · simp only [hi, if_true] at hT
      rcases j with _ | _ | _ | _ | _ | _ | _ | _ | _ | _ | _ | _ | _ | _ | j
      all_goals first
        | exact hRj
        | (exfalso; omega)
        | trivial
    · simp only [hi, if_false] at hT
      rcases j with _ | _ | _ | _ | _ | _ | _ | _ | _ | _ | _ | _ | _ | _ | j
      all_goals first
        | exact hRj
        | exact (hT.block _ (lt_block hRj)).trans hRj
  · intro i o hio vals W hCW haf
    have e0 : W.cell? ⟨w.heap.size, 0, none⟩ = some (.slice s.A s.n.length s.cap) := hCW.1.cell hx0 (by simp)
    have e1 : W.cell? ⟨w.heap.size, 1, none⟩ = some (.int .u16 s.t) := hCW.1.cell hx1 (by simp)
    have hbw : Below w.heap.size w W := hb1.grown hCW.1 hb1.size (fun k hk => by cases hk; omega)
    have hcs : Cs W s.A (s.n.map strV) := HS.out.below hbw
    have hcn : Cs W A (sn.map strV) := HC.out.below hbw
    have hWs := hCW.1.size
    rcases i with _ | _ | _ | _ | _ | _ | _ | _ | _ | _ | _ | _ | _ | _ | i
    · simp at hio
      subst hio
      simp [bindD, rdB, Region.binds] at haf
      simp [opYield_def, yieldUpon, relAct, dstAt, Act.put, Region.wanted, go_sem, haf, e0, e1, Below.refl]
    · simp at hio
      subst hio
      simp [bindD, rdB, Region.binds] at haf
      simp [opYield_def, yieldUpon, relAct, dstAt, Act.put, Region.wanted, go_sem, haf, e0, e1, Below.refl]
    · simp at hio
      subst hio
      simp [bindD, rdB, Region.binds] at haf
      simp [opYield_def, yieldUpon, relAct, dstAt, Act.put, Region.wanted, go_sem, haf, e0, e1, Below.refl]
    · simp at hio
      subst hio
      simp [bindD, rdB, Region.binds] at haf
      simp [opYield_def, yieldUpon, relAct, dstAt, Act.put, Region.wanted, go_sem, haf, e0, e1, Below.refl]
    · simp at hio
      subst hio
      simp [bindD, rdB, Region.binds] at haf
      simp [opYield_def, yieldUpon, relAct, dstAt, Act.put, Region.wanted, go_sem, haf]
      exact (RefLabels s.A s.n s.cap W hcs (by omega)).mono fun e W' ⟨h1, h2⟩ => ⟨h1, h2 ▸ Below.refl _ _⟩
    · simp at hio
      subst hio
      simp [bindD, rdB, Region.binds] at haf
      simp [opYield_def, yieldUpon, relAct, dstAt, Act.put, Region.wanted, go_sem, haf, e0, e1, Below.refl]
    · simp at hio
      subst hio
      simp [bindD, rdB, Region.binds] at haf
      simp [opYield_def, yieldUpon, relAct, dstAt, Act.put, Region.wanted, go_sem, haf, e0, e1, Below.refl]
    · simp at hio
      subst hio
      simp [bindD, rdB, Region.binds] at haf
      simp [opYield_def, yieldUpon, relAct, dstAt, Act.put, Region.wanted, go_sem, haf, e0, e1, Below.refl]
    · simp at hio
      subst hio
      simp [bindD, rdB, Region.binds] at haf
      simp [opYield_def, yieldUpon, relAct, dstAt, Act.put, Region.wanted, go_sem, haf]
      exact (RefPlus now valid h1 h2 h3 h4 W).mono fun e W' ⟨h1, h2⟩ => ⟨h1, h2 ▸ Below.refl _ _⟩
    · simp at hio
      subst hio
      simp [bindD, rdB, Region.binds] at haf
      simp [opYield_def, yieldUpon, relAct, dstAt, Act.put, Region.wanted, go_sem, haf, e0, e1, Below.refl]
    · simp at hio
      subst hio
      simp [bindD, rdB, Region.binds] at haf
      simp [opYield_def, yieldUpon, relAct, dstAt, Act.put, Region.wanted, go_sem, haf, e0, e1, Below.refl]
    · simp at hio
      subst hio
      simp [bindD, rdB, Region.binds] at haf
      simp [opYield_def, yieldUpon, relAct, dstAt, Act.put, Region.wanted, go_sem, haf, e0, e1, Below.refl]
    · simp at hio
      subst hio
      simp [bindD, rdB, Region.binds] at haf
      simp [opYield_def, yieldUpon, relAct, dstAt, Act.put, Region.wanted, go_sem, haf, e0, e1, Below.refl]
    · simp at hio
      subst hio
      have q13 := haf ⟨12, .data⟩ (by simp) (by decide)
      simp at q13
      clear haf
      refine hCW.2.elim fun cs hz => ?_
      have hcs2 := hz.1
      have hsz := hz.2
      refine yield_store (g := w.heap.size + 1) (cells := #[.int .u16 s.t, .int .u8 253, .int .u8 (labels s.n), .int .u32 ttl, .int .u32 (plus now valid), .int .u32 now, .int .u16 tag, .slice A sn.length cap, .slice none 0 0]) rfl rfl (by simp [relAct, dstAt, Act.put, Act.eval]) (by simp [relAct, dstAt, Act.put, Act.eval, q13]) hcs2 (by kernel_rfl) hsz (by simp [Value.oneCell']) ?_
      have hblk := setRow_block W (w.heap.size + 1) #[.int .u16 s.t, .int .u8 253, .int .u8 (labels s.n), .int .u32 ttl, .int .u32 (plus now valid), .int .u32 now, .int .u16 tag, .slice A sn.length cap, .slice none 0 0] cs 33 (0, 0) hcs2
      have hgr := setRow_grown W (w.heap.size + 1) #[.int .u16 s.t, .int .u8 253, .int .u8 (labels s.n), .int .u32 ttl, .int .u32 (plus now valid), .int .u32 now, .int .u16 tag, .slice A sn.length cap, .slice none 0 0]
      refine ⟨?_, hblk⟩
      rw [if_pos rfl]
      exact ⟨hgr, _, hblk, rfl⟩
    · simp at hio
  · intro vals W hCW hR
    have hblk := hR 13 (by show 13 < 14; omega) (fun _ _ => rfl)
    simp [relAct, dstAt, Act.put]
    clear hR
    obtain ⟨k0, k1, k2, k3, k4, k5, k6, k7, k8, _⟩ := cells9 hblk
    have hbw : Below w.heap.size w W := hb1.grown hCW.1 hb1.size (fun k hk => by cases hk; omega)
    clear hblk hCW hr hx0 hx1
    go_wp2_with fail
    refine bodyPost_ret (v := .agg #[.int .u16 s.t, .int .u8 253, .int .u8 (labels s.n), .int .u32 ttl, .int .u32 (plus now valid), .int .u32 now, .int .u16 tag, .slice A sn.length cap, .slice none 0 0]) ?_ rfl ⟨rfl, hbw⟩
    simp [results, Tryz.results16, go_sem, k0, k1, k2, k3, k4, k5, k6, k7, k8]
end Nm
end Go.Proofs.YtkeimgamjnpcbaaGreat
