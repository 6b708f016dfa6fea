/-
  Contracts of canon.Fresh and the reference's.
-/
import Derived.Test.YtkeimgamjnpcbaaGreatCanon1
import Derived.Test.YtkeimgamjnpcbaaGreatRel2
import Derived.Laws.Tables
namespace Go.Proofs.YtkeimgamjnpcbaaGreat
open Go.RowKit
set_option linter.unusedVariables false
namespace Nm
theorem below_drew {B : Nat} {a w : World} (h : Below B a w) : Below B a w.drew := ⟨h.os, h.tape, h.output, h.size, h.block⟩

theorem cells9 {w : World} {g : Nat} {T : TypeId} {c0 c1 c2 c3 c4 c5 c6 c7 c8 : Value} (h : w.heap[g]? = some (.cells #[c0, c1, c2, c3, c4, c5, c6, c7, c8] T (0, 0))) :
    w.cell? ⟨g, 0, none⟩ = some c0 ∧ w.cell? ⟨g, 1, none⟩ = some c1 ∧ w.cell? ⟨g, 2, none⟩ = some c2 ∧ w.cell? ⟨g, 3, none⟩ = some c3 ∧ w.cell? ⟨g, 4, none⟩ = some c4 ∧ w.cell? ⟨g, 5, none⟩ = some c5 ∧ w.cell? ⟨g, 6, none⟩ = some c6 ∧ w.cell? ⟨g, 7, none⟩ = some c7 ∧ w.cell? ⟨g, 8, none⟩ = some c8 ∧ ∀ i, w.frozen? ⟨g, i, none⟩ = false := by
  refine ⟨?_, ?_, ?_, ?_, ?_, ?_, ?_, ?_, ?_, fun i => by simp [World.frozen?, h]⟩ <;> (rw [cell_of_row w g _ _ _ _ h]; rfl)
/-- a store of a whole struct, one step of a region that draws -/
theorem step_store_row {P : Program} {ops : Array Oper} {o : Oper} {a : Act} {w : World} {K : Act → World → Prop} {Q : Exit → Act → World → Prop} {E : Prop} (hgd : o.guard = none) (ty : TypeId) (x y : Operand) (ho : o.op = .store ty x y)
    (g : Nat) (cells : Array Value) (hx : a.eval x = .pointer (some ⟨g, 0, none⟩)) (hy : a.eval y = .agg cells)
    (t : TypeId) (old : Array Value) (hg : w.heap[g]? = some (.cells old t (0, 0))) (hi : (P.info? ty).map (·.size) = some cells.size)
    (hold : old.size = cells.size) (h1 : cells.all (·.oneCell') = true)
    (h : K (a.put o.dst undef) (w.setRow g cells)) : if Region.wanted o (yielded ops a.tmps) = true then Oper.wp P o a w K Q else E := by
  have hw : Region.wanted o (yielded ops a.tmps) = true := by simp [Region.wanted, hgd]
  rw [if_pos hw]
  exact wp_store_row ty x y ho g cells hx hy t old hg hi hold h1 h
/-- a set, a signature as they are handed in -/
structure SetV where
  A : Option Addr
  n : List Lab
  cap : Nat
  t : Int
  ttl : Int
  D : Option Addr
  ds : List Blob
  dcap : Nat
def SetV.v (s : SetV) : Value := .agg #[.slice s.A s.n.length s.cap, .int .u16 s.t, .int .u32 s.ttl, .slice s.D s.ds.length s.dcap]
def SetV.ok (w : World) (s : SetV) : Prop := Cs w s.A (s.n.map strV) ∧ Cs w s.D (s.ds.map Blob.v) ∧ Blobs w s.ds
theorem SetV.ok.below {w w' : World} {s : SetV} (h : s.ok w) (hb : Below w.heap.size w w') : s.ok w' := ⟨h.1.below hb, h.2.1.below hb, h.2.2.below hb⟩

set_option maxRecDepth 100000 in
set_option maxHeartbeats 10000000 in
theorem Fresh (s : SetV) (ttl tag now valid : Int) (A : Option Addr) (sn : List Lab) (cap : Nat) (w : World) (hs : s.ok w) (hsn : s.n.length ≤ 1000) (hscap : s.n.length ≤ s.cap) (hscap2 : s.cap ≤ maxLen)
    (hc : Cs w A (sn.map strV)) (hn : sn.length ≤ 1000) (h1 : 0 ≤ now) (h2 : now ≤ 4294967295) (h3 : 0 ≤ valid) (h4 : valid ≤ 4294967295) :
    Calls Tryz.prog 14 #[s.v, .int .u32 ttl, .int .u16 tag, .slice A sn.length cap, .int .u32 now, .int .u32 valid] w fun e w' =>
      ∃ v, e = .returned (.agg #[.int .u16 s.t, .int .u8 253, .int .u8 (labels s.n), .int .u32 ttl, .int .u32 (plus now valid), .int .u32 now, .int .u16 tag, v, .slice none 0 0]) ∧ w'.ownsRow w.heap.size 9 1 v sn.length (sn.map strV) ∧ Below w.heap.size w w' := by
  unfold SetV.v
  obtain ⟨hs1, _, _⟩ := hs
  have HS := Lib.hid hs1
  have HC := Lib.hid hc
  clear hs1 hc
  go_enter Tryz.func14, Tryz.ntmps14
  go_wp2_with fail
  generalize hw1 : (w.alloc (.cells #[.slice s.A s.n.length s.cap, .int .u16 s.t, .int .u32 s.ttl, .slice s.D s.ds.length s.dcap] 28)).alloc _ = w1
  have hb1 : Below w.heap.size w w1 := by rw [← hw1]; exact ((Below.refl _ _).alloc (Nat.le_refl _) _).alloc (by simp) _
  have hsz1 : w1.heap.size = w.heap.size + 2 := by rw [← hw1]; simp
  have HS1 := Lib.hid (HS.out.below hb1)
  have HC1 := Lib.hid (HC.out.below hb1)
  have hr : w1.heap[w.heap.size + 1]? = some (.cells #[.int .u16 0, .int .u8 0, .int .u8 0, .int .u32 0, .int .u32 0, .int .u32 0, .int .u16 0, .slice none 0 0, .slice none 0 0] 33 (0, 0)) := by
    have := heap_alloc_new (w.alloc (.cells #[.slice s.A s.n.length s.cap, .int .u16 s.t, .int .u32 s.ttl, .slice s.D s.ds.length s.dcap] 28)) (.cells #[.int .u16 0, .int .u8 0, .int .u8 0, .int .u32 0, .int .u32 0, .int .u32 0, .int .u16 0, .slice none 0 0, .slice none 0 0] 33)
    rw [World.size_alloc] at this
    rw [← hw1]; exact this
  have hx0 : w1.cell? ⟨w.heap.size, 0, none⟩ = some (.slice s.A s.n.length s.cap) := by rw [← hw1]; simp [go_sem]
  have hx1 : w1.cell? ⟨w.heap.size, 1, none⟩ = some (.int .u16 s.t) := by rw [← hw1]; simp [go_sem]
  clear hw1
  refine wp_region_rel (by kernel_rfl) (by kernel_rfl) (fun _ _ => false) (by kernel_rfl)
    (fun i W W' => if i = 14 then W.grownBy W' (some (w.heap.size + 1)) ∧ (∃ cs, W'.heap[w.heap.size + 1]? = some (.cells cs 33 (0, 0)) ∧ cs.size = 9) else Below W.heap.size W W')
    (fun W => w1.grownBy W (some (w.heap.size + 1)) ∧ ∃ cs, W.heap[w.heap.size + 1]? = some (.cells cs 33 (0, 0)) ∧ cs.size = 9)
    (fun i v W => match i with
      | 0 => v = .pointer (some ⟨w.heap.size, 1, none⟩)
      | 1 => v = .int .u16 s.t
      | 2 => v = .pointer (some ⟨w.heap.size, 0, none⟩)
      | 3 => v = .slice s.A s.n.length s.cap
      | 4 => v = .int .u8 (labels s.n)
      | 5 => v = .int .u32 ttl
      | 6 => v = .int .u32 now
      | 7 => v = .int .u32 valid
      | 8 => v = .int .u32 (plus now valid)
      | 9 => v = .int .u32 now
      | 10 => v = .int .u16 tag
      | 11 => v = .slice A sn.length cap
      | 12 => ∃ A5 c5, v = .slice A5 sn.length c5 ∧ W.ownsRow w1.heap.size 9 1 (.slice A5 sn.length c5) sn.length (sn.map strV)
      | 13 => ∃ A5 c5, v = .agg #[.int .u16 s.t, .int .u8 253, .int .u8 (labels s.n), .int .u32 ttl, .int .u32 (plus now valid), .int .u32 now, .int .u16 tag, .slice A5 sn.length c5, .slice none 0 0] ∧ W.ownsRow w1.heap.size 9 1 (.slice A5 sn.length c5) sn.length (sn.map strV)
      | 14 => ∃ A5 c5, W.heap[w.heap.size + 1]? = some (.cells #[.int .u16 s.t, .int .u8 253, .int .u8 (labels s.n), .int .u32 ttl, .int .u32 (plus now valid), .int .u32 now, .int .u16 tag, .slice A5 sn.length c5, .slice none 0 0] 33 (0, 0)) ∧ W.ownsRow w1.heap.size 9 1 (.slice A5 sn.length c5) sn.length (sn.map strV)
      | _ => True)
    ?_ ?_ ?_ ?_ ?_
  · exact ⟨⟨rfl, rfl, rfl, Nat.le_refl _, fun _ _ _ => rfl⟩, _, hr, rfl⟩
  · intro i W W' ⟨hg, hcs⟩ hT
    by_cases hi : i = 14
    · simp only [hi, if_true] at hT
      exact ⟨hg.trans hT.1, hT.2⟩
    · simp only [hi, if_false] at hT
      obtain ⟨cs, h5, h6⟩ := hcs
      exact ⟨hg.trans ⟨hT.os, hT.tape, hT.output, hT.size, fun k hk _ => hT.block k hk⟩, cs, (hT.block _ (lt_block h5)).trans h5, h6⟩
  · intro i j v W W' hij _ _ hCW hRj hT
    by_cases hi : i = 14
    · simp only [hi, if_true] at hT
      have hne : ∀ A5 c5, W.ownsRow w1.heap.size 9 1 (.slice A5 sn.length c5) sn.length (sn.map strV) → W'.ownsRow w1.heap.size 9 1 (.slice A5 sn.length c5) sn.length (sn.map strV) := fun A5 c5 h => h.kept hT.1 (.inr (by
        intro e
        have := (h.lt _ e).1
        omega))
      rcases j with _ | _ | _ | _ | _ | _ | _ | _ | _ | _ | _ | _ | _ | _ | _ | j
      all_goals first
        | exact hRj
        | (obtain ⟨A5, c5, h5, h6⟩ := hRj; exact ⟨A5, c5, h5, hne A5 c5 h6⟩)
        | (exfalso; omega)
        | trivial
    · simp only [hi, if_false] at hT
      rcases j with _ | _ | _ | _ | _ | _ | _ | _ | _ | _ | _ | _ | _ | _ | _ | j
      all_goals first
        | exact hRj
        | (obtain ⟨A5, c5, h5, h6⟩ := hRj; exact ⟨A5, c5, h5, own_below h6 hT⟩)
        | (obtain ⟨A5, c5, h5, h6⟩ := hRj; exact ⟨A5, c5, (hT.block _ (lt_block h5)).trans h5, own_below h6 hT⟩)
  · intro i o hio vals W hCW haf
    have e0 : W.cell? ⟨w.heap.size, 0, none⟩ = some (.slice s.A s.n.length s.cap) := hCW.1.cell hx0 (by simp)
    have e1 : W.cell? ⟨w.heap.size, 1, none⟩ = some (.int .u16 s.t) := hCW.1.cell hx1 (by simp)
    have hbw : Below w.heap.size w W := hb1.grown hCW.1 hb1.size (fun k hk => by cases hk; omega)
    have hcs : Cs W s.A (s.n.map strV) := HS.out.below hbw
    have hcn : Cs W A (sn.map strV) := HC.out.below hbw
    have hWs := hCW.1.size
    rcases i with _ | _ | _ | _ | _ | _ | _ | _ | _ | _ | _ | _ | _ | _ | _ | i
    · simp at hio
      subst hio
      simp [bindD, rdB, Region.binds] at haf
      simp [opYield_def, yieldUpon, relAct, dstAt, Act.put, Region.wanted, go_sem, haf, e0, e1, Below.refl]
    · simp at hio
      subst hio
      simp [bindD, rdB, Region.binds] at haf
      simp [opYield_def, yieldUpon, relAct, dstAt, Act.put, Region.wanted, go_sem, haf, e0, e1, Below.refl]
    · simp at hio
      subst hio
      simp [bindD, rdB, Region.binds] at haf
      simp [opYield_def, yieldUpon, relAct, dstAt, Act.put, Region.wanted, go_sem, haf, e0, e1, Below.refl]
    · simp at hio
      subst hio
      simp [bindD, rdB, Region.binds] at haf
      simp [opYield_def, yieldUpon, relAct, dstAt, Act.put, Region.wanted, go_sem, haf, e0, e1, Below.refl]
    · simp at hio
      subst hio
      simp [bindD, rdB, Region.binds] at haf
      simp [opYield_def, yieldUpon, relAct, dstAt, Act.put, Region.wanted, go_sem, haf]
      exact (Labels s.A s.n s.cap W hcs (by omega) hscap hscap2).mono fun e W' ⟨h1, h2⟩ => ⟨h1, h2 ▸ Below.refl _ _⟩
    · simp at hio
      subst hio
      simp [bindD, rdB, Region.binds] at haf
      simp [opYield_def, yieldUpon, relAct, dstAt, Act.put, Region.wanted, go_sem, haf, e0, e1, Below.refl]
    · simp at hio
      subst hio
      simp [bindD, rdB, Region.binds] at haf
      simp [opYield_def, yieldUpon, relAct, dstAt, Act.put, Region.wanted, go_sem, haf, e0, e1, Below.refl]
    · simp at hio
      subst hio
      simp [bindD, rdB, Region.binds] at haf
      simp [opYield_def, yieldUpon, relAct, dstAt, Act.put, Region.wanted, go_sem, haf, e0, e1, Below.refl]
    · simp at hio
      subst hio
      simp [bindD, rdB, Region.binds] at haf
      simp [opYield_def, yieldUpon, relAct, dstAt, Act.put, Region.wanted, go_sem, haf]
      exact (Plus now valid h1 h2 h3 h4 W).mono fun e W' ⟨h1, h2⟩ => ⟨h1, h2 ▸ Below.refl _ _⟩
    · simp at hio
      subst hio
      simp [bindD, rdB, Region.binds] at haf
      simp [opYield_def, yieldUpon, relAct, dstAt, Act.put, Region.wanted, go_sem, haf, e0, e1, Below.refl]
    · simp at hio
      subst hio
      simp [bindD, rdB, Region.binds] at haf
      simp [opYield_def, yieldUpon, relAct, dstAt, Act.put, Region.wanted, go_sem, haf, e0, e1, Below.refl]
    · simp at hio
      subst hio
      simp [bindD, rdB, Region.binds] at haf
      simp [opYield_def, yieldUpon, relAct, dstAt, Act.put, Region.wanted, go_sem, haf, e0, e1, Below.refl]
    · simp at hio
      subst hio
      simp [bindD, rdB, Region.binds] at haf
      simp [opYield_def, yieldUpon, relAct, dstAt, Act.put, Region.wanted, go_sem, haf]
      refine (CloneN A sn cap W hcn (by omega)).mono fun e W' ⟨v, h1, h2, h3⟩ => ?_
      obtain ⟨A5, c5, rfl, _, _⟩ := Cs.of_own h2
      exact ⟨_, h1, h3, A5, c5, rfl, own_base h2 hWs⟩
    · simp at hio
      subst hio
      simp [bindD, rdB, Region.binds] at haf
      obtain ⟨q1, q4, q5, q8, q9, q10, A5, c5, q12, own⟩ := haf
      simp [opYield_def, yieldUpon, relAct, dstAt, Act.put, Region.wanted, go_sem, q1, q4, q5, q8, q9, q10, q12]
      exact ⟨Below.refl _ _, A5, c5, ⟨rfl, rfl⟩, own⟩
    · simp at hio
      subst hio
      have haf13 := haf ⟨13, .data⟩ (by simp) (by decide)
      simp at haf13
      clear haf
      refine haf13.elim fun A5 hx => hx.elim fun c5 hy => ?_
      have q13 := hy.1
      have own := hy.2
      refine hCW.2.elim fun cs hz => ?_
      have hcs2 := hz.1
      have hsz := hz.2
      refine yield_store (g := w.heap.size + 1) (cells := #[.int .u16 s.t, .int .u8 253, .int .u8 (labels s.n), .int .u32 ttl, .int .u32 (plus now valid), .int .u32 now, .int .u16 tag, .slice A5 sn.length c5, .slice none 0 0]) rfl rfl (by simp [relAct, dstAt, Act.put, Act.eval]) (by simp [relAct, dstAt, Act.put, Act.eval, q13]) hcs2 (by kernel_rfl) hsz (by simp [Value.oneCell']) ?_
      have hblk := setRow_block W (w.heap.size + 1) #[.int .u16 s.t, .int .u8 253, .int .u8 (labels s.n), .int .u32 ttl, .int .u32 (plus now valid), .int .u32 now, .int .u16 tag, .slice A5 sn.length c5, .slice none 0 0] cs 33 (0, 0) hcs2
      have hgr := setRow_grown W (w.heap.size + 1) #[.int .u16 s.t, .int .u8 253, .int .u8 (labels s.n), .int .u32 ttl, .int .u32 (plus now valid), .int .u32 now, .int .u16 tag, .slice A5 sn.length c5, .slice none 0 0]
      refine ⟨?_, A5, c5, hblk, own.kept hgr (.inr (by intro e; have := (own.lt _ e).1; omega))⟩
      rw [if_pos rfl]
      exact ⟨hgr, _, hblk, rfl⟩
    · simp at hio
  · intro vals W hCW hR
    have r14 := hR 14 (by show 14 < 15; omega) (fun _ _ => rfl)
    obtain ⟨A5, c5, hblk, hown⟩ := r14
    simp [relAct, dstAt, Act.put]
    clear hR
    obtain ⟨k0, k1, k2, k3, k4, k5, k6, k7, k8, _⟩ := cells9 hblk
    have hbw : Below w.heap.size w W := hb1.grown hCW.1 hb1.size (fun k hk => by cases hk; omega)
    have hown2 := own_base hown (show w.heap.size ≤ w1.heap.size by omega)
    have HQ := Lib.hid hown2
    clear hown hown2 hblk hCW hr hx0 hx1
    go_wp2_with fail
    refine bodyPost_ret (v := .agg #[.int .u16 s.t, .int .u8 253, .int .u8 (labels s.n), .int .u32 ttl, .int .u32 (plus now valid), .int .u32 now, .int .u16 tag, .slice A5 sn.length c5, .slice none 0 0]) ?_ rfl ⟨_, rfl, HQ.out, hbw⟩
    simp [results, Tryz.results14, go_sem, k0, k1, k2, k3, k4, k5, k6, k7, k8]
end Nm
end Go.Proofs.YtkeimgamjnpcbaaGreat
