/-
  Texts merged by a program (ROpen, Chain1, WrC, RdG, Sig1, WrG, Can46).
-/
import Derived.Test.YtkeimgamjnpcbaaGreatCk3
import Derived.Test.YtkeimgamjnpcbaaGreatCk4
import Derived.Test.YtkeimgamjnpcbaaGreatCk5
import Derived.Test.YtkeimgamjnpcbaaGreatCk6
import Derived.Test.YtkeimgamjnpcbaaGreatCk13
set_option linter.unusedSimpArgs false
set_option linter.unusedVariables false
/- rtype.Open, whatever the bytes: some types, or an error. -/
namespace Go.Proofs.YtkeimgamjnpcbaaGreat
open Go.RowKit
set_option linter.unusedVariables false
set_option linter.unusedSimpArgs false
namespace Nm
theorem info_u16r : (Tryz.prog.info? 24).map (fun i => (i.zero, i.size, i.bytes)) = some (some (.int .u16 0), 1, 2) := by kernel_rfl
/-- some numbers, laid from block B on, k at most -/
def NumsV (B k : Nat) (v : Value) (W : World) : Prop := ∃ us : List Nat, us.length ≤ k ∧ (∀ u ∈ us, u < 65536) ∧ W.ownsRow B 24 1 v us.length (us.map fun u : Nat => Value.int .u16 (u : Int))
def OpnR (w : World) (b off L cap : Nat) (vl vo : Value) (W : World) : Prop := ∃ k, k ≤ L ∧ (vl = .slice (some ⟨b, off + k, none⟩) (L - k : Nat) (cap - k : Nat) ∨ L = k ∧ ∃ A c, vl = .slice A 0 c) ∧ NumsV w.heap.size (8 * k) vo W ∧ Below w.heap.size w W
def OpnI (w : World) (k lim : Nat) (vi vo : Value) (W : World) : Prop := ∃ i : Nat, vi = .int .i64 i ∧ i ≤ lim ∧ NumsV w.heap.size (8 * k + i) vo W ∧ Below w.heap.size w W
theorem NumsV.mono {B k k' : Nat} {v : Value} {W : World} (h : NumsV B k v W) (hk : k ≤ k') : NumsV B k' v W := by
  obtain ⟨us, h1, h2, h3⟩ := h
  exact ⟨us, Nat.le_trans h1 hk, h2, h3⟩
theorem NumsV.push {B k : Nat} {us : List Nat} {v : Value} {W : World} {x : Int} (hl : us.length ≤ k) (hu : ∀ u ∈ us, u < 65536) (h : W.ownsRow B 24 1 v (us.length + 1) ((us.map fun u : Nat => Value.int .u16 (u : Int)) ++ [.int .u16 x])) (h0 : 0 ≤ x) (h1 : x < 65536) : NumsV B (k + 1) v W := by
  obtain ⟨y, rfl⟩ := Int.eq_ofNat_of_zero_le h0
  refine ⟨us ++ [y], by simp; omega, ?_, ?_⟩
  · intro u hu2
    rcases List.mem_append.1 hu2 with hu2 | hu2
    · exact hu u hu2
    · simp at hu2; omega
  · rw [List.map_append, List.length_append]
    exact h
/-- such numbers, as Bitmap reads them -/
theorem NumsV.csu {B k : Nat} {v : Value} {W : World} (h : NumsV B k v W) : ∃ (A : Option Addr) (xs : List Int) (c : Nat), v = .slice A xs.length c ∧ CsU W A xs ∧ xs.length ≤ k ∧ ∀ x ∈ xs, ∃ y : Nat, x = y ∧ y < 65536 := by
  obtain ⟨us, h1, h2, h3⟩ := h
  obtain ⟨A, c, rfl, _, h4⟩ := Cs.of_own h3
  refine ⟨A, us.map fun u : Nat => (u : Int), c, by simp, ?_, by simpa using h1, ?_⟩
  · intro j x hx
    have hj : ∃ u, us[j]? = some u ∧ x = (u : Int) := by
      rw [List.getElem?_map] at hx
      cases hu : us[j]? with
      | none => rw [hu] at hx; cases hx
      | some u => rw [hu] at hx; simp at hx; exact ⟨u, rfl, hx.symm⟩
    obtain ⟨u, hu, rfl⟩ := hj
    exact h4 j _ (by rw [List.getElem?_map, hu]; rfl)
  · intro x hx
    obtain ⟨u, hu, rfl⟩ := List.mem_map.1 hx
    exact ⟨u, rfl, h2 u hu⟩
set_option maxRecDepth 100000 in
set_option maxHeartbeats 20000000 in
theorem ROpen (A : Option Addr) (l : Lab) (cap : Nat) (w : World) (hc : Cs w A (l.map byteV)) (hl : l.length ≤ 100000) (hcap : l.length ≤ cap) (hcap2 : cap ≤ maxLen) :
    Calls Tryz.prog 145 #[.slice A l.length cap] w fun e w' => Below w.heap.size w w' ∧ ∃ A' n c k, e = .returned (.tuple #[.slice A' n c, .int .i64 k]) := by
  obtain ⟨i0, hi, hz0, hz1, hz2⟩ := info_parts info_u16r
  have HC := Lib.hid hc
  clear hc
  go_enter Tryz.func145, Tryz.ntmps145
  have hfin : ∀ (W : World) (vo : Value), Below w.heap.size w W → NumsV w.heap.size 800000 vo W → ∃ (A' : Option Addr) (zs : List Int) (c : Nat), vo = .slice A' zs.length c ∧ Hid (Calls Tryz.prog 187 #[.slice A' zs.length c] W fun e w' => ∃ v, e = .returned v ∧ BytesV W.heap.size 340000000 v w' ∧ Below W.heap.size W w') := by
    intro W vo hb hn
    obtain ⟨A', zs, c, rfl, h1, h2, h3⟩ := hn.csu
    exact ⟨A', zs, c, rfl, Lib.hid (Bitmap A' zs c W h1 (by omega) h3)⟩
  have HFin := Lib.hid hfin
  clear hfin
  obtain ⟨b, off, hA⟩ : ∃ b off, l = [] ∨ A = some ⟨b, off, none⟩ ∧ b < w.heap.size := by
    by_cases h0 : l = []
    · exact ⟨0, 0, .inl h0⟩
    · have hpos : 0 < l.length := List.length_pos_iff.2 h0
      obtain ⟨b, off, h1, h2, _⟩ := HC.out 0 _ (List.getElem?_eq_getElem (by simpa using hpos))
      exact ⟨b, off, .inr ⟨h1, h2⟩⟩
  go_wp2_with fail
  go_loopw [5, 4] (OpnR w b off l.length cap) (fun r _ _ => match r with | .slice _ n _ => n | _ => 0)
  case atStart =>
    refine ⟨0, by omega, ?_, ⟨[], by simp, (fun u hu => by cases hu), World.ownsRow_nil _ _ _ _⟩, Below.refl _ _⟩
    rcases hA with h | ⟨rfl, _⟩
    · subst h
      exact .inr ⟨rfl, A, cap, rfl⟩
    · exact .inl (by simp)
  case round =>
    obtain ⟨k, hk, hv, hn, hb⟩ := hrel
    by_cases hlt : k < l.length
    · have hA2 : A = some ⟨b, off, none⟩ ∧ b < w.heap.size := by
        rcases hA with h | h
        · subst h; simp at hlt
        · exact h
      obtain ⟨rfl, hbw⟩ := hA2
      have hv1 : u5 = .slice (some ⟨b, off + k, none⟩) (l.length - k : Nat) (cap - k : Nat) := by
        rcases hv with h | ⟨h, _⟩
        · exact h
        · omega
      subst hv1
      have hcell : ∀ (j : Nat) (hj : j < l.length) (W : World), Below w.heap.size w W → W.cell? ⟨b, off + j, none⟩ = some (.int .u8 (l[j].toNat : Nat)) := by
        intro j hj W hW
        obtain ⟨b', off', e, _, h1⟩ := HC.out j _ (by rw [List.getElem?_map, List.getElem?_eq_getElem hj]; rfl)
        cases e
        exact (bcl hW hbw).trans h1
      have HCell := Lib.hid hcell
      have hn0 : (0 : Int) < ((l.length - k : Nat) : Int) := by omega
      clear hA hv hcell
      by_cases h2 : l.length - k < 2
      · have h2i : ((l.length - k : Nat) : Int) < 2 := by omega
        go_wp2_with fail
        go_ret2
        exact ⟨hb, _, _, _, _, rfl⟩
      · have h2i : ¬ ((l.length - k : Nat) : Int) < 2 := by omega
        have h2j : 1 < l.length - k := by omega
        have q1 := HCell.out (k + 1) (by omega) wr hb
        obtain ⟨z, hz⟩ : ∃ z : Nat, l[k + 1].toNat = z := ⟨_, rfl⟩
        rw [hz, show off + (k + 1) = off + k + 1 by omega] at q1
        have hz256 : z < 256 := by rw [← hz]; exact UInt8.toNat_lt _
        clear hz
        by_cases hbig : ((l.length - k : Nat) : Int) - 2 < (z : Int)
        · have r1 : IntKind.i64.wrap (((l.length - k : Nat) : Int) - 2) = ((l.length - k : Nat) : Int) - 2 := IntWalk.i64_in _ (by omega)
          go_wp2_with fail
          go_ret2
          exact ⟨hb, _, _, _, _, rfl⟩
        · have r1 : IntKind.i64.wrap (((l.length - k : Nat) : Int) - 2) = ((l.length - k : Nat) : Int) - 2 := IntWalk.i64_in _ (by omega)
          have hzl : z + 2 ≤ l.length - k := by omega
          have HN := Lib.hid hn
          have HBk := Lib.hid hb
          clear hn hb
          go_wp2_with fail
          obtain ⟨lim, hlim, hl32, hlz⟩ : ∃ lim : Nat, ((8 : Int) * min (z : Int) 32) = lim ∧ lim ≤ 256 ∧ lim ≤ 8 * z := ⟨8 * min z 32, by omega, by omega, by omega⟩
          try rw [hlim]
          go_loopw [32, 4] (OpnI w k lim) (fun i _ _ => lim - (intOf i).toNat)
          case atStart => exact ⟨0, rfl, by omega, HN.out.mono (by omega), HBk.out⟩
          case round =>
            obtain ⟨i, rfl, hil, hn, hb⟩ := hrel
            obtain ⟨V, hVV⟩ : ∃ V, V = wr := ⟨_, rfl⟩
            rw [← hVV] at hn hb ⊢
            clear hVV
            by_cases hi2 : i < lim
            · have q2 := HCell.out (k + (2 + i / 8)) (by omega) V hb
              have q0 := HCell.out k (by omega) V hb
              obtain ⟨y, hy⟩ : ∃ y : Nat, l[k + (2 + i / 8)].toNat = y := ⟨_, rfl⟩
              obtain ⟨y0, hy0⟩ : ∃ y : Nat, l[k].toNat = y := ⟨_, rfl⟩
              rw [hy, show off + (k + (2 + i / 8)) = off + k + (2 + i / 8) by omega] at q2
              rw [hy0] at q0
              have hy256 : y < 256 := by rw [← hy]; exact UInt8.toNat_lt _
              have hy0256 : y0 < 256 := by rw [← hy0]; exact UInt8.toNat_lt _
              have hii : (i : Int) < (lim : Int) := by omega
              have hix : (2 : Int) + (i : Int) / 8 < ((l.length - k : Nat) : Int) := by omega
              have hiy : 2 + i / 8 < l.length - k := by omega
              clear hy hy0 q1
              obtain ⟨tt, htt⟩ : ∃ tt : Int, bits .and .u8 (y : Int) (128 / 2 ^ (i % 8)) = tt := ⟨_, rfl⟩
              have HN2 := Lib.hid hn
              have HB2 := Lib.hid hb
              clear hn hb
              by_cases ht0 : tt = 0
              · subst ht0
                go_wp2_with fail
                refine ⟨⟨i + 1, by go_num, by omega, HN2.out.mono (by omega), HB2.out⟩, by simp [intOf]; omega⟩
              · obtain ⟨us, hus1, hus2, hown⟩ := HN2.out
                have hB := HB2.out.size
                have HO := Lib.hid hown
                have hul : us.length ≤ 1000000 := by omega
                clear hown
                go_wp2_with (first | (at_builtin; refine wpList_push3 HO.out hB [.int .u16 _] rfl (by simp [Value.oneCell']) hi hz0 hz1 hz2 rfl (by decide) rfl (.tmp 47) _ 81 Tryz.underlying81 rfl rfl rfl (by unfold maxLen; omega) (by omega) ?_; intro v4 w4 hown4 hmv4))
                refine ⟨⟨i + 1, by go_num, by omega, ?_, HB2.out.trans (hmv4.below HO.out hB)⟩, by simp [intOf]; omega⟩
                have := NumsV.push hus1 hus2 hown4 (by omega) (by omega)
                exact this.mono (by omega)
            · have hii : ¬ (i : Int) < (lim : Int) := by omega
              have hw2 : z + 2 ≤ l.length - k := hzl
              have r2 : (2 : Int) + (z : Int) ≤ ((l.length - k : Nat) : Int) := by omega
              have r3 : 2 + z ≤ l.length - k := by omega
              have HN2 := Lib.hid (hn.mono (show 8 * k + i ≤ 8 * (k + 2 + z) by omega))
              have HB2 := Lib.hid hb
              clear hn hb
              by_cases hcz : cap - k = 2 + z
              · have hll : l.length - k = 2 + z := by omega
                go_wp2_with fail
                refine ⟨⟨k + 2 + z, by omega, .inr ⟨by omega, _, _, by rw [Nat.sub_self]⟩, HN2.out, HB2.out⟩, ?_⟩
                show 2 + z - (2 + z) < l.length - k
                omega
              · go_wp2_with fail
                refine ⟨⟨k + 2 + z, by omega, .inl ?_, HN2.out, HB2.out⟩, ?_⟩
                · rw [show off + k + (2 + z) = off + (k + 2 + z) by omega, show l.length - k - (2 + z) = l.length - (k + 2 + z) by omega, show cap - k - (2 + z) = cap - (k + 2 + z) by omega]
                · show l.length - k - (2 + z) < l.length - k
                  omega
    · have hu : ∃ A2 c2, u5 = .slice A2 0 c2 := by
        rcases hv with h | ⟨_, A2, c2, h⟩
        · exact ⟨_, cap - k, by rw [h, show l.length - k = 0 by omega]⟩
        · exact ⟨A2, c2, h⟩
      obtain ⟨A2, c2, rfl⟩ := hu
      obtain ⟨A', zs, c, rfl, HBm⟩ := HFin.out wr u4 hb (hn.mono (by omega))
      clear hn hv hA
      go_wp2_with fail
      refine HBm.out.mono ?_
      rintro e w2 ⟨v, rfl, ⟨ys, hys, hown⟩, hb2⟩
      obtain ⟨A5, c5, rfl, _, hcs⟩ := Cs.of_own hown
      have hbF := hb.trans (hb2.mono hb.size)
      have HCs := Lib.hid hcs
      clear hown hcs
      go_wp2_with fail
      refine (BEqual A5 A ys l c5 cap w2 HCs.out (HC.out.below hbF)).mono ?_
      rintro e w3 ⟨rfl, rfl⟩
      by_cases hyl : ys = l
      · rw [decide_eq_true hyl]
        clear hyl
        go_wp2_with fail
        go_ret2
        exact ⟨hbF, _, _, _, _, rfl⟩
      · rw [decide_eq_false hyl]
        clear hyl
        go_wp2_with fail
        go_ret2
        exact ⟨hbF, _, _, _, _, rfl⟩
end Nm
end Go.Proofs.YtkeimgamjnpcbaaGreat

/- Contracts of package rdata: the reading of a NSEC3's data, whatever is read. -/
namespace Go.Proofs.YtkeimgamjnpcbaaGreat
open Go.RowKit
set_option linter.unusedVariables false
set_option linter.unusedSimpArgs false
namespace Nm
set_option maxRecDepth 100000 in
set_option maxHeartbeats 20000000 in
theorem Chain1 (A : Option Addr) (l : Lab) (cap : Nat) (w : World) (r : Nat) (h : Rdr w r A l cap 0) (hrw : r < w.heap.size) :
    Calls Tryz.prog 142 #[.pointer (some ⟨r, 0, none⟩)] w fun e w' => Kept (fun b => b = r) w w' ∧ ∃ ok : Bool, True ∧ ((∃ (j : Nat) (i0 i1 i2 : Int) (A3 : Option Addr) (n3 c3 : Nat) (A4 : Option Addr) (n4 c4 : Nat) (A5 : Option Addr) (n5 c5 : Nat), e = .returned (.agg #[.int .u8 i0, .int .u8 i1, .int .u16 i2, .slice A3 n3 c3, .slice A4 n4 c4, .slice A5 n5 c5]) ∧ Rdr w' r A l cap j ∧ ok = decide (j = l.length) ∧ True) ∨ (ok = false ∧ e = .panicked mustP)) := by
  have hlen := h.len
  have H := Lib.hid h
  clear h
  go_enter Tryz.func142, Tryz.ntmps142
  go_wp2_with fail
  generalize hw1 : w.alloc (.cells #[.int .u8 0, .int .u8 0, .int .u16 0, .slice none 0 0, .slice none 0 0, .slice none 0 0] 153) = w1
  have hb1 : Below w.heap.size w w1 := by rw [← hw1]; exact (Below.refl _ _).alloc (Nat.le_refl _) _
  have hq1 : w1.heap[w.heap.size]? = some (.cells #[.int .u8 0, .int .u8 0, .int .u16 0, .slice none 0 0, .slice none 0 0, .slice none 0 0] 153 (0, 0)) := by
    rw [← hw1]; exact heap_alloc_new w _
  have hR1 := H.out.ext hb1
  have hk01 := (Kept.of_ext hb1).mono (S' := fun b => b = r) (fun _ _ h => h.elim)
  have hwr : ¬ w.heap.size = r := by omega
  have hz1 : w1.heap.size = w.heap.size + 1 := by rw [← hw1]; simp
  clear hw1
  refine (num_any 1 hR1 (by omega)).mono ?_
  rintro e w2 ⟨hk2, ⟨x2, rfl, hx2, hr2⟩ | rfl⟩
  · have hq2 := (hk2.block _ (lt_block hq1) hwr).trans hq1
    have hk02 := hk01.trans hk2
    have hz2 := hk2.size
    clear hq1 hk2 hR1 hb1 hk01
    go_wp2_with fail
    refine (num_any 1 hr2 (by omega)).mono ?_
    rintro e w3 ⟨hk3, ⟨x3, rfl, hx3, hr3⟩ | rfl⟩
    · have hq3 := (hk3.block _ (lt_block hq2) hwr).trans hq2
      have hk03 := hk02.trans hk3
      have hz3 := hk3.size
      clear hq2 hk3 hr2 hk02
      go_wp2_with fail
      refine (num_any 2 hr3 (by omega)).mono ?_
      rintro e w4 ⟨hk4, ⟨x4, rfl, hx4, hr4⟩ | rfl⟩
      · have hq4 := (hk4.block _ (lt_block hq3) hwr).trans hq3
        have hk04 := hk03.trans hk4
        have hz4 := hk4.size
        clear hq3 hk4 hr3 hk03
        go_wp2_with fail
        refine (text_any hr4).mono ?_
        rintro e w5 ⟨hk5, ⟨k5, A5, n5, c5, rfl, hr5, hn5⟩ | rfl⟩
        · have hq5 := (hk5.block _ (lt_block hq4) hwr).trans hq4
          have hk05 := hk04.trans hk5
          have hz5 := hk5.size
          clear hq4 hk5 hr4 hk04
          go_wp2_with fail
          refine (text_any hr5).mono ?_
          rintro e w6 ⟨hk6, ⟨k6, A6, n6, c6, rfl, hr6, hn6⟩ | rfl⟩
          · have hq6 := (hk6.block _ (lt_block hq5) hwr).trans hq5
            have hk06 := hk05.trans hk6
            have hz6 := hk6.size
            clear hq5 hk6 hr5 hk05
            go_upto_region 2 with fail
            generalize IntKind.u16.wrap (x4 : Int) = v2 at *
            generalize (x2 : Int) % 256 = v0 at *
            generalize (x3 : Int) % 256 = v1 at *
            generalize hw7 : w6.alloc (.cells #[.int .u8 v0, .int .u8 v1, .int .u16 v2, .slice A5 n5 c5, .slice A6 n6 c6, .slice none 0 0] 153) = w7
            have hb7 : Below w6.heap.size w6 w7 := by rw [← hw7]; exact (Below.refl _ _).alloc (Nat.le_refl _) _
            have hg7 : w7.heap[w6.heap.size]? = some (.cells #[.int .u8 v0, .int .u8 v1, .int .u16 v2, .slice A5 n5 c5, .slice A6 n6 c6, .slice none 0 0] 153 (0, 0)) := by rw [← hw7]; exact heap_alloc_new w6 _
            have hq7 := (hb7.block _ (lt_block hq6)).trans hq6
            have hr7 := hr6.ext hb7
            have hk07 := hk06.trans ((Kept.of_ext hb7).mono (S' := fun b => b = r) (fun _ _ h => h.elim))
            have hgr : ¬ w6.heap.size = r := by omega
            have hwg : ¬ w.heap.size = w6.heap.size := by omega
            have HGA := Lib.hid (fun (a : Addr) (ha : A = some a) (hx : l.map byteV ≠ []) => (by have := H.out.cs.where ha hx; omega : ¬ a.block = w6.heap.size))
            have hgw : w.heap.size < w6.heap.size := by omega
            have hgs := lt_block hg7
            generalize hgn : w6.heap.size = g at *
            clear hw7 hq6 hr6 hk06 hb7
            obtain ⟨u0, u1, u2, u3, u4, u5, uf⟩ := cellsC hg7
            by_cases hn : 0 < n6
            · have hni : (0 : Int) < (n6 : Int) := by omega
              go_wp2_with fail
              refine (must_yes w7).mono ?_
              rintro e w8 ⟨rfl, rfl⟩
              clear u0 u1 u2 u3 u4 u5 uf
              go_wp2_with fail
              refine (rest r A l cap k6 w7 hr7).mono ?_
              rintro e w8 ⟨hk8, hr8, v8, rfl, ho8⟩
              obtain ⟨A8, c8, rfl, hc81, hc82⟩ := own_formR ho8
              obtain ⟨A8', c8', e8, _, hcs8⟩ := Cs.of_own ho8
              cases e8
              have hq8 := (hk8.block _ (lt_block hq7) hwr).trans hq7
              have hg8 := (hk8.block _ (lt_block hg7) hgr).trans hg7
              have hk08 := hk07.trans hk8
              have hro := ROpen A8 (l.drop k6) c8 w8 hcs8 (by rw [List.length_drop]; omega) (by rw [List.length_drop]; exact hc81) hc82
              rw [List.length_drop] at hro
              have HRO := Lib.hid hro
              have hz8 := hk8.size
              clear hro hcs8 ho8 hk8 hk07 hq7 hg7 hr7
              go_wp2_with fail
              refine HRO.out.mono ?_
              rintro e w9 ⟨hb9, A9, n9, c9, kk, rfl⟩
              have hq9 := (hb9.block _ (lt_block hq8)).trans hq8
              have hg9 := (hb9.block _ (lt_block hg8)).trans hg8
              have hk09 := hk08.trans ((Kept.of_ext hb9).mono (S' := fun b => b = r) (fun _ _ h => h.elim))
              have hr9 := hr8.ext hb9
              clear hq8 hg8 hk08 hr8 hb9
              by_cases hkk : kk = 0
              · subst hkk
                go_wp2_with fail
                refine (must_yes w9).mono ?_
                rintro e w10 ⟨rfl, rfl⟩
                obtain ⟨u0, u1, u2, u3, u4, u5, uf⟩ := cellsC hg9
                obtain ⟨q0, q1, q2, q3, q4, q5, qf⟩ := cellsC hq9
                have uf0 := uf 0
                have uf5 := uf 5
                have qf0 := qf 0
                have qf1 := qf 1
                have qf2 := qf 2
                have qf3 := qf 3
                have qf4 := qf 4
                have qf5 := qf 5
                go_wp2_with fail
                have hkg : Kept (fun b => b = g) w9 (w9.setCell ⟨g, 5, none⟩ (.slice A9 n9 c9)) := (Kept.refl (fun b => b = g) w9).setCell (p := ⟨g, 5, none⟩) (fun _ => rfl) _
                generalize w9.setCell ⟨g, 5, none⟩ (.slice A9 n9 c9) = wy at *
                have hqy := (hkg.block _ (lt_block hq9) hwg).trans hq9
                obtain ⟨hqz, hkw⟩ := setC hqy (.int .u8 v0) (.int .u8 v1) (.int .u16 v2) (.slice A5 n5 c5) (.slice A6 n6 c6) (.slice A9 n9 c9) rfl
                generalize (((((wy.setCell ⟨w.heap.size, 0, none⟩ (.int .u8 v0)).setCell ⟨w.heap.size, 1, none⟩ (.int .u8 v1)).setCell ⟨w.heap.size, 2, none⟩ (.int .u16 v2)).setCell ⟨w.heap.size, 3, none⟩ (.slice A5 n5 c5)).setCell ⟨w.heap.size, 4, none⟩ (.slice A6 n6 c6)).setCell ⟨w.heap.size, 5, none⟩ (.slice A9 n9 c9) = wz at *
                have hrF := (hr9.kept hkg (fun h => hgr h.symm) HGA.out).kept hkw (fun h => hwr h.symm) (fun a ha hx => by have := H.out.cs.where ha hx; omega)
                have hkF := (hk09.then hkg (fun b hb h => by omega)).then hkw (fun b hb h => by omega)
                obtain ⟨z0, z1, z2, z3, z4, z5, _⟩ := cellsC hqz
                refine bodyPost_ret (v := .agg #[.int .u8 v0, .int .u8 v1, .int .u16 v2, .slice A5 n5 c5, .slice A6 n6 c6, .slice A9 n9 c9]) ?_ rfl ⟨hkF, _, trivial, .inl ⟨_, _, _, _, A5, _, c5, A6, _, c6, A9, _, c9, rfl, hrF, rfl, trivial⟩⟩
                simp [results, Tryz.results142, go_sem, z0, z1, z2, z3, z4, z5]
              · have hkb : (kk == 0) = false := by simpa using hkk
                go_wp2_with fail
                refine (must_no w9).mono ?_
                rintro e w10 ⟨rfl, rfl⟩
                go_wp2_with fail
                exact ⟨rfl, hk09, false, trivial, .inr ⟨rfl, rfl⟩⟩
            · have hni : ¬ (0 : Int) < (n6 : Int) := by omega
              go_wp2_with fail
              refine (must_no w7).mono ?_
              rintro e w8 ⟨rfl, rfl⟩
              go_wp2_with fail
              exact ⟨rfl, hk07, false, trivial, .inr ⟨rfl, rfl⟩⟩
          · have hk06 := hk05.trans hk6
            go_wp2_with fail
            exact ⟨rfl, hk06, false, trivial, .inr ⟨rfl, rfl⟩⟩
        · have hk05 := hk04.trans hk5
          go_wp2_with fail
          exact ⟨rfl, hk05, false, trivial, .inr ⟨rfl, rfl⟩⟩
      · have hk04 := hk03.trans hk4
        go_wp2_with fail
        exact ⟨rfl, hk04, false, trivial, .inr ⟨rfl, rfl⟩⟩
    · have hk03 := hk02.trans hk3
      go_wp2_with fail
      exact ⟨rfl, hk03, false, trivial, .inr ⟨rfl, rfl⟩⟩
  · have hk02 := hk01.trans hk2
    go_wp2_with fail
    exact ⟨rfl, hk02, false, trivial, .inr ⟨rfl, rfl⟩⟩
end Nm
end Go.Proofs.YtkeimgamjnpcbaaGreat

/- Contracts of package rdata: Chain. (Printed by a program: wip/gen_wrap.py.) -/
namespace Go.Proofs.YtkeimgamjnpcbaaGreat
open Go.RowKit
set_option linter.unusedVariables false
set_option linter.unusedSimpArgs false
namespace Nm
def anyC : Value → Value → Value → Value → Value → Value → Nat → World → Prop := fun _ _ _ _ _ _ _ _ => True
theorem saysC : SaysC anyC := ⟨fun _ _ _ _ _ _ _ _ _ _ _ _ _ => trivial, fun _ _ _ _ _ _ _ _ _ _ _ => trivial⟩
set_option maxRecDepth 100000 in
set_option maxHeartbeats 8000000 in
theorem ChainW (A : Option Addr) (l : Lab) (cap : Nat) (w : World) (hc : Cs w A (l.map byteV)) (hl : l.length ≤ 100000) (hcap : l.length ≤ cap) (hcap2 : cap ≤ maxLen) :
    Calls Tryz.prog 106 #[.slice A l.length cap] w fun e w' => Below w.heap.size w w' ∧ ∃ ok, (fun _ => True) ok ∧ ((ok = true ∧ ∃ i0 i1 i2 A3 n3 c3 A4 n4 c4 A5 n5 c5, e = .returned (.tuple #[.agg #[.int .u8 i0, .int .u8 i1, .int .u16 i2, .slice A3 n3 c3, .slice A4 n4 c4, .slice A5 n5 c5], .int .i64 0]) ∧ (anyC) (.int .u8 i0) (.int .u8 i1) (.int .u16 i2) (.slice A3 n3 c3) (.slice A4 n4 c4) (.slice A5 n5 c5) w.heap.size w') ∨ (ok = false ∧ e = .returned (.tuple #[.agg #[.int .u8 0, .int .u8 0, .int .u16 0, .slice none 0 0, .slice none 0 0, .slice none 0 0], .int .i64 50]))) := by
  go_enter Tryz.func106, Tryz.ntmps106
  go_wp2_with fail
  generalize hw2 : w.alloc (.cells #[.int .u8 0, .int .u8 0, .int .u16 0, .slice none 0 0, .slice none 0 0, .slice none 0 0] 153) = w2
  have hb2 : Below w.heap.size w w2 := by rw [← hw2]; exact (Below.refl _ _).alloc (Nat.le_refl _) _
  have hz2 : w2.heap.size = w.heap.size + 1 := by rw [← hw2]; simp
  have q2 : w2.heap[w.heap.size]? = some (.cells #[.int .u8 0, .int .u8 0, .int .u16 0, .slice none 0 0, .slice none 0 0, .slice none 0 0] 153 (0, 0)) := by rw [← hw2]; exact heap_alloc_new w _
  clear hw2
  refine (readC (fun _ => True) (anyC) saysC A l cap w2 (hc.below hb2) hl hcap hcap2 (fun W r h1 h2 => Chain1 A l cap W r h1 h2)).mono ?_
  rintro e w3 ⟨hb3, hcase⟩
  have q3 := (hb3.block _ (show w.heap.size < w2.heap.size by omega)).trans q2
  have hz3 := hb3.size
  have hb13 := hb2.trans (hb3.mono (by omega))
  obtain ⟨u0, u1, u2, u3, u4, u5, uf⟩ := cellsC q3
  have uf0 := uf 0
  have uf1 := uf 1
  have uf2 := uf 2
  have uf3 := uf 3
  have uf4 := uf 4
  have uf5 := uf 5
  rcases hcase with ⟨ok, hG, ⟨rfl, i0, i1, i2, A3, n3, c3, A4, n4, c4, A5, n5, c5, rfl, hP⟩ | ⟨rfl, rfl⟩⟩
  · have HG := Lib.hid hG
    have HP := Lib.hid hP
    clear hG hP
    go_wp2_with fail
    obtain ⟨qA, hkA⟩ := setC q3 (.int .u8 i0) (.int .u8 i1) (.int .u16 i2) (.slice A3 n3 c3) (.slice A4 n4 c4) (.slice A5 n5 c5) rfl
    have hbF := hb13.trans (hkA.below (B := w.heap.size) (by omega) (fun k hk => by omega))
    have HPF := Lib.hid (saysC.base _ _ _ _ _ _ _ w.heap.size _ (by omega) (saysC.keep _ _ _ _ _ _ _ (fun k => k = w.heap.size) _ _ HP.out hkA (fun b hb => by omega)))
    generalize (((((w3.setCell ⟨w.heap.size, 0, none⟩ (.int .u8 i0)).setCell ⟨w.heap.size, 1, none⟩ (.int .u8 i1)).setCell ⟨w.heap.size, 2, none⟩ (.int .u16 i2)).setCell ⟨w.heap.size, 3, none⟩ (.slice A3 n3 c3)).setCell ⟨w.heap.size, 4, none⟩ (.slice A4 n4 c4)).setCell ⟨w.heap.size, 5, none⟩ (.slice A5 n5 c5) = wF at *
    obtain ⟨z0, z1, z2, z3, z4, z5, _⟩ := cellsC qA
    refine bodyPost_ret (v := .tuple #[.agg #[.int .u8 i0, .int .u8 i1, .int .u16 i2, .slice A3 n3 c3, .slice A4 n4 c4, .slice A5 n5 c5], .int .i64 0]) ?_ rfl ⟨hbF, true, HG.out, .inl ⟨rfl, i0, i1, i2, A3, n3, c3, A4, n4, c4, A5, n5, c5, rfl, HPF.out⟩⟩
    simp [results, Tryz.results106, go_sem, z0, z1, z2, z3, z4, z5]
  · have HG := Lib.hid hG
    clear hG
    go_wp2_with fail
    obtain ⟨qA, hkA⟩ := setC q3 (.int .u8 0) (.int .u8 0) (.int .u16 0) (.slice none 0 0) (.slice none 0 0) (.slice none 0 0) rfl
    have hbF := hb13.trans (hkA.below (B := w.heap.size) (by omega) (fun k hk => by omega))
    generalize (((((w3.setCell ⟨w.heap.size, 0, none⟩ (.int .u8 0)).setCell ⟨w.heap.size, 1, none⟩ (.int .u8 0)).setCell ⟨w.heap.size, 2, none⟩ (.int .u16 0)).setCell ⟨w.heap.size, 3, none⟩ (.slice none 0 0)).setCell ⟨w.heap.size, 4, none⟩ (.slice none 0 0)).setCell ⟨w.heap.size, 5, none⟩ (.slice none 0 0) = wF at *
    obtain ⟨z0, z1, z2, z3, z4, z5, _⟩ := cellsC qA
    refine bodyPost_ret (v := .tuple #[.agg #[.int .u8 0, .int .u8 0, .int .u16 0, .slice none 0 0, .slice none 0 0, .slice none 0 0], .int .i64 50]) ?_ rfl ⟨hbF, false, HG.out, .inr ⟨rfl, rfl⟩⟩
    simp [results, Tryz.results106, go_sem, z0, z1, z2, z3, z4, z5]
set_option maxRecDepth 100000 in
set_option maxHeartbeats 4000000 in
theorem Check50 (A : Option Addr) (l : Lab) (cap : Nat) (w : World) (hc : Cs w A (l.map byteV)) (hl : l.length ≤ 100000) (hcap : l.length ≤ cap) (hcap2 : cap ≤ maxLen) :
    Calls Tryz.prog 67 #[.int .u16 50, .slice A l.length cap] w fun e w' => Below w.heap.size w w' ∧ ∃ k, e = .returned (.int .i64 k) := by
  have hb1 : Below w.heap.size w (w.alloc (.cells #[.int .u16 50] 24)) := (Below.refl _ _).alloc (Nat.le_refl _) _
  have hs1 : (w.alloc (.cells #[.int .u16 50] 24)).heap.size = w.heap.size + 1 := by simp
  have HR := Lib.hid (ChainW A l cap (w.alloc (.cells #[.int .u16 50] 24)) (hc.below hb1) hl hcap hcap2)
  clear hc
  by_cases h8 : 8192 < l.length
  · go_enter Tryz.func67, Tryz.ntmps67
    go_wp2_with fail
    go_ret
    exact ⟨hb1, _, rfl⟩
  · go_enter Tryz.func67, Tryz.ntmps67
    go_wp2_with fail
    refine HR.out.mono ?_
    rintro e w2 ⟨hb2, ok, _, ⟨rfl, i0, i1, i2, A3, n3, c3, A4, n4, c4, A5, n5, c5, rfl, _⟩ | ⟨rfl, rfl⟩⟩
    · have hbF := hb1.trans (hb2.mono (by omega))
      go_wp2_with fail
      go_ret
      exact ⟨hbF, _, rfl⟩
    · have hbF := hb1.trans (hb2.mono (by omega))
      go_wp2_with fail
      go_ret
      exact ⟨hbF, _, rfl⟩
set_option maxRecDepth 100000 in
set_option maxHeartbeats 4000000 in
theorem Canon50 (A : Option Addr) (l : Lab) (cap : Nat) (w : World) (hc : Cs w A (l.map byteV)) (hl : l.length ≤ 100000) (hcap : l.length ≤ cap) (hcap2 : cap ≤ maxLen) :
    Calls Tryz.prog 97 #[.int .u16 50, .slice A l.length cap] w fun e w' =>
      Below w.heap.size w w' ∧ ∃ v k, e = .returned (.tuple #[v, .int .i64 k]) ∧ (k = 0 ∧ w'.ownsRow w.heap.size 5 1 v l.length (l.map byteV) ∨ k ≠ 0) := by
  have HK := Lib.hid (Check50 A l cap w hc hl hcap hcap2)
  have HCs := Lib.hid hc
  clear hc
  go_enter Tryz.func97, Tryz.ntmps97
  go_wp2_with fail
  refine HK.out.mono ?_
  rintro e w1 ⟨hb1, k, rfl⟩
  by_cases hk : k = 0
  · subst hk
    go_wp2_with fail
    refine (CloneB A l cap w1 (HCs.out.below hb1) (by omega)).mono ?_
    rintro e w3 ⟨v3, rfl, hown3, hb3⟩
    go_wp2_with fail
    go_ret2
    exact ⟨hb1.trans (hb3.mono hb1.size), _, _, rfl, .inl ⟨rfl, own_base hown3 hb1.size⟩⟩
  · go_wp2_with fail
    go_ret2
    exact ⟨hb1, _, _, rfl, .inr hk⟩
end Nm
end Go.Proofs.YtkeimgamjnpcbaaGreat

/- Contracts of package rdata: read[api.Sig], whatever is read. (Printed by a program.) -/
namespace Go.Proofs.YtkeimgamjnpcbaaGreat
open Go.RowKit
set_option linter.unusedVariables false
set_option linter.unusedSimpArgs false
namespace Nm
theorem cellsG {w : World} {g : Nat} {T : TypeId} {c0 c1 c2 c3 c4 c5 c6 c7 c8 : Value} (h : w.heap[g]? = some (.cells #[c0, c1, c2, c3, c4, c5, c6, c7, c8] T (0, 0))) :
    w.cell? ⟨g, 0, none⟩ = some c0 ∧ w.cell? ⟨g, 1, none⟩ = some c1 ∧ w.cell? ⟨g, 2, none⟩ = some c2 ∧ w.cell? ⟨g, 3, none⟩ = some c3 ∧ w.cell? ⟨g, 4, none⟩ = some c4 ∧ w.cell? ⟨g, 5, none⟩ = some c5 ∧ w.cell? ⟨g, 6, none⟩ = some c6 ∧ w.cell? ⟨g, 7, none⟩ = some c7 ∧ w.cell? ⟨g, 8, none⟩ = some c8 ∧ ∀ i, w.frozen? ⟨g, i, none⟩ = false := by
  refine ⟨?_, ?_, ?_, ?_, ?_, ?_, ?_, ?_, ?_, fun i => by simp [World.frozen?, h]⟩ <;> (rw [cell_of_row w g _ _ _ _ h]; rfl)
set_option maxHeartbeats 4000000 in
theorem setG {w : World} {a : Nat} {y0 y1 y2 y3 y4 y5 y6 y7 y8 : Value} {T : TypeId} (h : w.heap[a]? = some (.cells #[y0, y1, y2, y3, y4, y5, y6, y7, y8] T (0, 0))) (v0 v1 v2 v3 v4 v5 v6 v7 v8 : Value) {w' : World} (hw : w' = (((((((((w).setCell ⟨a, 0, none⟩ v0).setCell ⟨a, 1, none⟩ v1).setCell ⟨a, 2, none⟩ v2).setCell ⟨a, 3, none⟩ v3).setCell ⟨a, 4, none⟩ v4).setCell ⟨a, 5, none⟩ v5).setCell ⟨a, 6, none⟩ v6).setCell ⟨a, 7, none⟩ v7).setCell ⟨a, 8, none⟩ v8) :
    w'.heap[a]? = some (.cells #[v0, v1, v2, v3, v4, v5, v6, v7, v8] T (0, 0)) ∧ Kept (fun k => k = a) w w' := by
  subst hw
  have e0 : ((w).setCell ⟨a, 0, none⟩ v0).heap[a]? = some (.cells #[v0, y1, y2, y3, y4, y5, y6, y7, y8] T (0, 0)) := heap_set h
  have e1 : (((w).setCell ⟨a, 0, none⟩ v0).setCell ⟨a, 1, none⟩ v1).heap[a]? = some (.cells #[v0, v1, y2, y3, y4, y5, y6, y7, y8] T (0, 0)) := heap_set e0
  have e2 : ((((w).setCell ⟨a, 0, none⟩ v0).setCell ⟨a, 1, none⟩ v1).setCell ⟨a, 2, none⟩ v2).heap[a]? = some (.cells #[v0, v1, v2, y3, y4, y5, y6, y7, y8] T (0, 0)) := heap_set e1
  have e3 : (((((w).setCell ⟨a, 0, none⟩ v0).setCell ⟨a, 1, none⟩ v1).setCell ⟨a, 2, none⟩ v2).setCell ⟨a, 3, none⟩ v3).heap[a]? = some (.cells #[v0, v1, v2, v3, y4, y5, y6, y7, y8] T (0, 0)) := heap_set e2
  have e4 : ((((((w).setCell ⟨a, 0, none⟩ v0).setCell ⟨a, 1, none⟩ v1).setCell ⟨a, 2, none⟩ v2).setCell ⟨a, 3, none⟩ v3).setCell ⟨a, 4, none⟩ v4).heap[a]? = some (.cells #[v0, v1, v2, v3, v4, y5, y6, y7, y8] T (0, 0)) := heap_set e3
  have e5 : (((((((w).setCell ⟨a, 0, none⟩ v0).setCell ⟨a, 1, none⟩ v1).setCell ⟨a, 2, none⟩ v2).setCell ⟨a, 3, none⟩ v3).setCell ⟨a, 4, none⟩ v4).setCell ⟨a, 5, none⟩ v5).heap[a]? = some (.cells #[v0, v1, v2, v3, v4, v5, y6, y7, y8] T (0, 0)) := heap_set e4
  have e6 : ((((((((w).setCell ⟨a, 0, none⟩ v0).setCell ⟨a, 1, none⟩ v1).setCell ⟨a, 2, none⟩ v2).setCell ⟨a, 3, none⟩ v3).setCell ⟨a, 4, none⟩ v4).setCell ⟨a, 5, none⟩ v5).setCell ⟨a, 6, none⟩ v6).heap[a]? = some (.cells #[v0, v1, v2, v3, v4, v5, v6, y7, y8] T (0, 0)) := heap_set e5
  have e7 : (((((((((w).setCell ⟨a, 0, none⟩ v0).setCell ⟨a, 1, none⟩ v1).setCell ⟨a, 2, none⟩ v2).setCell ⟨a, 3, none⟩ v3).setCell ⟨a, 4, none⟩ v4).setCell ⟨a, 5, none⟩ v5).setCell ⟨a, 6, none⟩ v6).setCell ⟨a, 7, none⟩ v7).heap[a]? = some (.cells #[v0, v1, v2, v3, v4, v5, v6, v7, y8] T (0, 0)) := heap_set e6
  have e8 : ((((((((((w).setCell ⟨a, 0, none⟩ v0).setCell ⟨a, 1, none⟩ v1).setCell ⟨a, 2, none⟩ v2).setCell ⟨a, 3, none⟩ v3).setCell ⟨a, 4, none⟩ v4).setCell ⟨a, 5, none⟩ v5).setCell ⟨a, 6, none⟩ v6).setCell ⟨a, 7, none⟩ v7).setCell ⟨a, 8, none⟩ v8).heap[a]? = some (.cells #[v0, v1, v2, v3, v4, v5, v6, v7, v8] T (0, 0)) := heap_set e7
  exact ⟨e8, (((((((((Kept.refl (fun k => k = a) w).setCell (p := ⟨a, 0, none⟩) (fun _ => rfl) v0).setCell (p := ⟨a, 1, none⟩) (fun _ => rfl) v1).setCell (p := ⟨a, 2, none⟩) (fun _ => rfl) v2).setCell (p := ⟨a, 3, none⟩) (fun _ => rfl) v3).setCell (p := ⟨a, 4, none⟩) (fun _ => rfl) v4).setCell (p := ⟨a, 5, none⟩) (fun _ => rfl) v5).setCell (p := ⟨a, 6, none⟩) (fun _ => rfl) v6).setCell (p := ⟨a, 7, none⟩) (fun _ => rfl) v7).setCell (p := ⟨a, 8, none⟩) (fun _ => rfl) v8⟩
set_option maxRecDepth 100000 in
set_option maxHeartbeats 8000000 in
theorem readG_panic (a b : Nat) (y0 y1 y2 y3 y4 y5 y6 y7 y8 x1 : Value) (w : World) (h0 : w.heap[a]? = some (.cells #[y0, y1, y2, y3, y4, y5, y6, y7, y8] 33 (0, 0))) (h1 : w.cell? ⟨b, 0, none⟩ = some x1)
    (f1 : w.frozen? ⟨b, 0, none⟩ = false) (l0 : a < w.heap.size) (l1 : b < w.heap.size) (hab : a < b) :
    CallsD Tryz.prog 185 #[.pointer (some ⟨a, 0, none⟩), .pointer (some ⟨b, 0, none⟩)] (.panicking mustP) w fun e u' w' =>
      e = .returned (.tuple #[]) ∧ u' = mustR ∧ w'.heap[a]? = some (.cells #[.int .u16 0, .int .u8 0, .int .u8 0, .int .u32 0, .int .u32 0, .int .u32 0, .int .u16 0, .slice none 0 0, .slice none 0 0] 33 (0, 0)) ∧ w'.cell? ⟨b, 0, none⟩ = some (.int .i64 50) ∧ Below a w w' := by
  have hta := asserted_must
  obtain ⟨g0, g1, g2, g3, g4, g5, g6, g7, g8, gf⟩ := cellsG h0
  have gf0 := gf 0
  have gf1 := gf 1
  have gf2 := gf 2
  have gf3 := gf 3
  have gf4 := gf 4
  have gf5 := gf 5
  have gf6 := gf 6
  have gf7 := gf 7
  have gf8 := gf 8
  refine callsD_of_wpS Tryz.func185 rfl fun c₀ cs hu => ?_
  apply wpS_seq
  apply wpS_region
  simp [wpOpsS, go_sem, recoverD, mustP, hu, Tryz.ntmps185, Exit.thenS]
  refine wpS_of_wp ?_
  simp only [Array.replicate_succ, Array.replicate_zero, List.push_toArray, List.append_toArray, List.nil_append, List.cons_append, List.setIfInBounds_toArray, List.set_cons_succ, List.set_cons_zero]
  have n0 : ¬ a = w.heap.size := by omega
  have n1 : ¬ b = w.heap.size := by omega
  have m0 : ¬ w.heap.size = a := by omega
  have m1 : ¬ w.heap.size = b := by omega
  have n2 : ¬ a = w.heap.size + 1 := by omega
  have n3 : ¬ b = w.heap.size + 1 := by omega
  have m2 : ¬ w.heap.size + 1 = a := by omega
  have m3 : ¬ w.heap.size + 1 = b := by omega
  have d0 : ¬ a = b := by omega
  have d1 : ¬ b = a := by omega
  go_wp2_with fail
  obtain ⟨z0, hk⟩ := setG h0 (.int .u16 0) (.int .u8 0) (.int .u8 0) (.int .u32 0) (.int .u32 0) (.int .u32 0) (.int .u16 0) (.slice none 0 0) (.slice none 0 0) rfl
  have z1 := setc_same (v := .int .i64 50) ((hk.cell (o := 0) l1 (by omega)).trans h1)
  have hs := hk.size
  have z2 : (World.setCell ((((((((((w).setCell ⟨a, 0, none⟩ (.int .u16 0)).setCell ⟨a, 1, none⟩ (.int .u8 0)).setCell ⟨a, 2, none⟩ (.int .u8 0)).setCell ⟨a, 3, none⟩ (.int .u32 0)).setCell ⟨a, 4, none⟩ (.int .u32 0)).setCell ⟨a, 5, none⟩ (.int .u32 0)).setCell ⟨a, 6, none⟩ (.int .u16 0)).setCell ⟨a, 7, none⟩ (.slice none 0 0)).setCell ⟨a, 8, none⟩ (.slice none 0 0)) ⟨b, 0, none⟩ (.int .i64 50)).heap[a]? = some (.cells #[.int .u16 0, .int .u8 0, .int .u8 0, .int .u32 0, .int .u32 0, .int .u32 0, .int .u16 0, .slice none 0 0, .slice none 0 0] 33 (0, 0)) :=
    (Below.heap_setCell _ _ _ _ (show a ≠ b by omega)).trans z0
  have hB := ((hk.below (B := a) (by omega) (fun k hk => by omega)).setCell (p := ⟨b, 0, none⟩) (show a ≤ b by omega) (.int .i64 50))
  have hBs := hB.size
  clear z0 hk
  generalize World.setCell ((((((((((w).setCell ⟨a, 0, none⟩ (.int .u16 0)).setCell ⟨a, 1, none⟩ (.int .u8 0)).setCell ⟨a, 2, none⟩ (.int .u8 0)).setCell ⟨a, 3, none⟩ (.int .u32 0)).setCell ⟨a, 4, none⟩ (.int .u32 0)).setCell ⟨a, 5, none⟩ (.int .u32 0)).setCell ⟨a, 6, none⟩ (.int .u16 0)).setCell ⟨a, 7, none⟩ (.slice none 0 0)).setCell ⟨a, 8, none⟩ (.slice none 0 0)) ⟨b, 0, none⟩ (.int .i64 50) = W at *
  have la : a < W.heap.size := by omega
  exact ⟨rfl, _, rfl, _, results_none rfl _ _ _, rfl, rfl, (Below.heap_alloc _ _ _ (by simp; omega)).trans ((Below.heap_alloc _ _ _ la).trans z2), alloc_cell _ (alloc_cell _ z1), (hB.alloc (by omega) _).alloc (by simp; omega) _⟩
theorem readG_idle (a b : Addr) (w : World) : CallsD Tryz.prog 185 #[.pointer (some a), .pointer (some b)] .returning w fun e u' w' => e = .returned (.tuple #[]) ∧ u' = .returning ∧ w' = w := by
  refine callsD_of_wpS Tryz.func185 rfl fun c₀ cs hu => ?_
  apply wpS_seq
  apply wpS_region
  simp [wpOpsS, go_sem, recoverD, hu, Tryz.ntmps185, Exit.thenS]
  refine wpS_of_wp ?_
  simp only [Array.replicate_succ, Array.replicate_zero, List.push_toArray, List.append_toArray, List.nil_append, List.cons_append, List.setIfInBounds_toArray, List.set_cons_succ, List.set_cons_zero]
  go_wp2_with fail
  exact ⟨rfl, .returning, by cases c₀; simp_all, _, results_none rfl _ _ _, rfl, rfl, rfl⟩
/-- what is said of the cells that are read: rows of their own from block B on -/
structure SaysG (P : Value → Value → Value → Value → Value → Value → Value → Value → Value → Nat → World → Prop) : Prop where
  keep : ∀ v0 v1 v2 v3 v4 v5 v6 v7 v8 B (S : Nat → Prop) W W', P v0 v1 v2 v3 v4 v5 v6 v7 v8 B W → Kept S W W' → (∀ b, B ≤ b → ¬ S b) → P v0 v1 v2 v3 v4 v5 v6 v7 v8 B W'
  base : ∀ v0 v1 v2 v3 v4 v5 v6 v7 v8 B B' W, B' ≤ B → P v0 v1 v2 v3 v4 v5 v6 v7 v8 B W → P v0 v1 v2 v3 v4 v5 v6 v7 v8 B' W
set_option maxRecDepth 100000 in
set_option maxHeartbeats 8000000 in
theorem readG (G : Bool → Prop) (P : Value → Value → Value → Value → Value → Value → Value → Value → Value → Nat → World → Prop) (hP : SaysG P) (A : Option Addr) (l : Lab) (cap : Nat) (w : World) (hc : Cs w A (l.map byteV)) (hl : l.length ≤ 100000) (hcap : l.length ≤ cap) (hcap2 : cap ≤ maxLen)
    (HC : ∀ W r, Rdr W r A l cap 0 → r < W.heap.size → Calls Tryz.prog 139 #[.pointer (some ⟨r, 0, none⟩)] W fun e w' => Kept (fun b => b = r) W w' ∧ ∃ ok, G ok ∧ ((∃ j i0 i1 i2 i3 i4 i5 i6 A7 n7 c7 A8 n8 c8, e = .returned (.agg #[.int .u16 i0, .int .u8 i1, .int .u8 i2, .int .u32 i3, .int .u32 i4, .int .u32 i5, .int .u16 i6, .slice A7 n7 c7, .slice A8 n8 c8]) ∧ Rdr w' r A l cap j ∧ ok = decide (j = l.length) ∧ P (.int .u16 i0) (.int .u8 i1) (.int .u8 i2) (.int .u32 i3) (.int .u32 i4) (.int .u32 i5) (.int .u16 i6) (.slice A7 n7 c7) (.slice A8 n8 c8) W.heap.size w') ∨ (ok = false ∧ e = .panicked mustP))) :
    Calls Tryz.prog 138 #[.slice A l.length cap, .func (.func 139) #[] #[]] w fun e w' =>
      Below w.heap.size w w' ∧ ∃ ok, G ok ∧ ((ok = true ∧ ∃ i0 i1 i2 i3 i4 i5 i6 A7 n7 c7 A8 n8 c8, e = .returned (.tuple #[.agg #[.int .u16 i0, .int .u8 i1, .int .u8 i2, .int .u32 i3, .int .u32 i4, .int .u32 i5, .int .u16 i6, .slice A7 n7 c7, .slice A8 n8 c8], .int .i64 0]) ∧ P (.int .u16 i0) (.int .u8 i1) (.int .u8 i2) (.int .u32 i3) (.int .u32 i4) (.int .u32 i5) (.int .u16 i6) (.slice A7 n7 c7) (.slice A8 n8 c8) w.heap.size w') ∨ (ok = false ∧ e = .returned (.tuple #[.agg #[.int .u16 0, .int .u8 0, .int .u8 0, .int .u32 0, .int .u32 0, .int .u32 0, .int .u16 0, .slice none 0 0, .slice none 0 0], .int .i64 50]))) := by
  have hmf : ∀ (fn : Fn) (first cap : Array Value) (w : World), (Instr.makeFunc fn first cap).run Tryz.prog w = .ok (.func fn first cap) w := fun _ _ _ _ => rfl
  have HCl := Lib.hid HC
  clear HC
  go_enter_defers Tryz.func138, Tryz.ntmps138
  go_wp2_with fail
  generalize hw3 : ((w.alloc (.cells #[.int .u16 0, .int .u8 0, .int .u8 0, .int .u32 0, .int .u32 0, .int .u32 0, .int .u16 0, .slice none 0 0, .slice none 0 0] 33)).alloc (.cells #[.int .i64 0] 52)).alloc (.cells #[.slice A l.length cap, .int .i64 0] 201) = w3
  have hb3 : Below w.heap.size w w3 := by rw [← hw3]; exact (((Below.refl _ _).alloc (Nat.le_refl _) _).alloc (by simp) _).alloc (by simp; omega) _
  have hsz3 : w3.heap.size = w.heap.size + 3 := by rw [← hw3]; simp
  have q3 : w3.heap[w.heap.size]? = some (.cells #[.int .u16 0, .int .u8 0, .int .u8 0, .int .u32 0, .int .u32 0, .int .u32 0, .int .u16 0, .slice none 0 0, .slice none 0 0] 33 (0, 0)) := by
    rw [← hw3]
    rw [Below.heap_alloc _ _ _ (by simp; omega), Below.heap_alloc _ _ _ (by simp)]
    exact heap_alloc_new w _
  have c1 : w3.cell? ⟨w.heap.size + 1, 0, none⟩ = some (.int .i64 0) := by rw [← hw3]; simp [go_sem]
  have f1 : w3.frozen? ⟨w.heap.size + 1, 0, none⟩ = false := by rw [← hw3]; simp [go_sem]
  have hR : Rdr w3 (w.heap.size + 1 + 1) A l cap 0 := by
    refine ⟨by rw [← hw3]; simp [go_sem], by rw [← hw3]; simp [go_sem], by rw [← hw3]; simp [go_sem], by omega, hc.below hb3, ?_, hl, hcap, hcap2, Nat.zero_le _⟩
    intro a ha hx
    have := hc.where ha hx
    omega
  clear hw3
  refine (HCl.out w3 (w.heap.size + 1 + 1) hR (by omega)).mono ?_
  rintro e w4 ⟨hk4, ok, hG, hcase⟩
  have q4 := (hk4.block _ (show w.heap.size < w3.heap.size by omega) (by omega)).trans q3
  have d1 := (hk4.cell (b := w.heap.size + 1) (o := 0) (by omega) (by omega)).trans c1
  have g1 := (hk4.frozen (b := w.heap.size + 1) (o := 0) (by omega) (by omega)).trans f1
  have hsz4 := hk4.size
  have hb4 : Below w.heap.size w w4 := hb3.trans (hk4.below (by omega) (fun k hk => by omega))
  clear c1 f1 hR q3 hk4
  have door : ∀ (y0 y1 y2 y3 y4 y5 y6 y7 y8 : Value) (W : World), Below w.heap.size w W → W.heap[w.heap.size]? = some (.cells #[y0, y1, y2, y3, y4, y5, y6, y7, y8] 33 (0, 0)) → W.cell? ⟨w.heap.size + 1, 0, none⟩ = some (.int .i64 0) → W.frozen? ⟨w.heap.size + 1, 0, none⟩ = false → w.heap.size + 3 ≤ W.heap.size →
      CallsD Tryz.prog 185 #[.pointer (some ⟨w.heap.size, 0, none⟩), .pointer (some ⟨w.heap.size + 1, 0, none⟩)] (.panicking mustP) W fun e u' w' =>
      e = .returned (.tuple #[]) ∧ u' = mustR ∧ w'.heap[w.heap.size]? = some (.cells #[.int .u16 0, .int .u8 0, .int .u8 0, .int .u32 0, .int .u32 0, .int .u32 0, .int .u16 0, .slice none 0 0, .slice none 0 0] 33 (0, 0)) ∧ w'.cell? ⟨w.heap.size + 1, 0, none⟩ = some (.int .i64 50) ∧ Below w.heap.size w w' := fun y0 y1 y2 y3 y4 y5 y6 y7 y8 W hb k0 k1 j1 hs =>
    (readG_panic w.heap.size (w.heap.size + 1) _ _ _ _ _ _ _ _ _ _ W k0 k1 j1 (by omega) (by omega) (by omega)).mono fun e u' w' ⟨h1, h2, h3, h4, h5⟩ => ⟨h1, h2, h3, h4, hb.trans h5⟩
  have HD := Lib.hid door
  have HG := Lib.hid hG
  clear door hG
  have n0 : ¬ w.heap.size = w.heap.size + 1 := by omega
  have nn1 : ¬ w.heap.size = w.heap.size + 1 + 1 := by omega
  have nn2 : ¬ w.heap.size + 1 = w.heap.size := by omega
  have nn3 : ¬ w.heap.size + 1 + 1 = w.heap.size := by omega
  rcases hcase with ⟨j, i0, i1, i2, i3, i4, i5, i6, A7, n7, c7, A8, n8, c8, rfl, hr, hs, hPv⟩ | ⟨hs, rfl⟩
  · have HS := Lib.hid hs
    have HPv := Lib.hid hPv
    have e1 := hr.c1
    have hlj := hr.le
    obtain ⟨u0, u1, u2, u3, u4, u5, u6, u7, u8, uf⟩ := cellsG q4
    have uf0 := uf 0
    have uf1 := uf 1
    have uf2 := uf 2
    have uf3 := uf 3
    have uf4 := uf 4
    have uf5 := uf 5
    have uf6 := uf 6
    have uf7 := uf 7
    have uf8 := uf 8
    clear hs hr hPv
    by_cases hj : j = l.length
    · have hjb : ((j : Int) == (l.length : Int)) = true := by simp [hj]
      have HT : Hid (ok = true) := Lib.hid (by rw [HS.out]; simpa using hj)
      clear hj HS
      go_wp2_with fail
      obtain ⟨qA, hkA⟩ := setG q4 (.int .u16 i0) (.int .u8 i1) (.int .u8 i2) (.int .u32 i3) (.int .u32 i4) (.int .u32 i5) (.int .u16 i6) (.slice A7 n7 c7) (.slice A8 n8 c8) rfl
      generalize (((((((((w4).setCell ⟨w.heap.size, 0, none⟩ (.int .u16 i0)).setCell ⟨w.heap.size, 1, none⟩ (.int .u8 i1)).setCell ⟨w.heap.size, 2, none⟩ (.int .u8 i2)).setCell ⟨w.heap.size, 3, none⟩ (.int .u32 i3)).setCell ⟨w.heap.size, 4, none⟩ (.int .u32 i4)).setCell ⟨w.heap.size, 5, none⟩ (.int .u32 i5)).setCell ⟨w.heap.size, 6, none⟩ (.int .u16 i6)).setCell ⟨w.heap.size, 7, none⟩ (.slice A7 n7 c7)).setCell ⟨w.heap.size, 8, none⟩ (.slice A8 n8 c8) = w5 at *
      have hbA : Below w.heap.size w w5 := hb4.trans (hkA.below (B := w.heap.size) (by omega) (fun k hk => by omega))
      have hsA := hkA.size
      have dA := (hkA.cell (b := w.heap.size + 1) (o := 0) (by omega) (by omega)).trans d1
      have gA := (hkA.frozen (b := w.heap.size + 1) (o := 0) (by omega) (by omega)).trans g1
      obtain ⟨t0, t1, t2, t3, t4, t5, t6, t7, t8, tf⟩ := cellsG qA
      have tf0 := tf 0
      have tf1 := tf 1
      have tf2 := tf 2
      have tf3 := tf 3
      have tf4 := tf 4
      have tf5 := tf 5
      have tf6 := tf 6
      have tf7 := tf 7
      have tf8 := tf 8
      have HP1 := Lib.hid (hP.keep _ _ _ _ _ _ _ _ _ _ _ _ _ HPv.out hkA (fun b hb e => by omega))
      clear u0 u1 u2 u3 u4 u5 u6 u7 u8 uf uf0 uf1 uf2 uf3 uf4 uf5 uf6 uf7 uf8 q4 d1 g1 e1 hkA
      refine (must_yes _).mono ?_
      rintro e w' ⟨rfl, rfl⟩
      go_wp2_with fail
      obtain ⟨qB, hkB⟩ := setG qA (.int .u16 i0) (.int .u8 i1) (.int .u8 i2) (.int .u32 i3) (.int .u32 i4) (.int .u32 i5) (.int .u16 i6) (.slice A7 n7 c7) (.slice A8 n8 c8) rfl
      have hsB := hkB.size
      have dB := (hkB.cell (b := w.heap.size + 1) (o := 0) (by omega) (by omega)).trans dA
      have hbB := hbA.trans (hkB.below (B := w.heap.size) (by omega) (fun k hk => by omega))
      have HP2 := Lib.hid (hP.keep _ _ _ _ _ _ _ _ _ _ _ _ _ HP1.out hkB (fun b hb e => by omega))
      generalize (((((((((w5).setCell ⟨w.heap.size, 0, none⟩ (.int .u16 i0)).setCell ⟨w.heap.size, 1, none⟩ (.int .u8 i1)).setCell ⟨w.heap.size, 2, none⟩ (.int .u8 i2)).setCell ⟨w.heap.size, 3, none⟩ (.int .u32 i3)).setCell ⟨w.heap.size, 4, none⟩ (.int .u32 i4)).setCell ⟨w.heap.size, 5, none⟩ (.int .u32 i5)).setCell ⟨w.heap.size, 6, none⟩ (.int .u16 i6)).setCell ⟨w.heap.size, 7, none⟩ (.slice A7 n7 c7)).setCell ⟨w.heap.size, 8, none⟩ (.slice A8 n8 c8) = w6 at *
      have hkC : Kept (fun k => k = w.heap.size + 1) w6 (w6.setCell ⟨w.heap.size + 1, 0, none⟩ (.int .i64 0)) := (Kept.refl _ _).setCell (S := fun k => k = w.heap.size + 1) (p := ⟨w.heap.size + 1, 0, none⟩) (fun _ => rfl) _
      have qC := (hkC.block _ (show w.heap.size < w6.heap.size by omega) (by omega)).trans qB
      have dC := setc_same (v := .int .i64 0) dB
      have hbC := hbB.trans (hkC.below (B := w.heap.size) (by omega) (fun k hk => by omega))
      have HP3 := Lib.hid (hP.base _ _ _ _ _ _ _ _ _ _ w.heap.size _ (by omega) (hP.keep _ _ _ _ _ _ _ _ _ _ _ _ _ HP2.out hkC (fun b hb e => by omega)))
      generalize w6.setCell ⟨w.heap.size + 1, 0, none⟩ (.int .i64 0) = w7 at *
      refine leaves_cons (f := 185) (args := #[.pointer (some ⟨w.heap.size, 0, none⟩), .pointer (some ⟨w.heap.size + 1, 0, none⟩)]) (by simp) (by simp [go_sem]) ?_
      refine (readG_idle _ _ _).mono ?_
      rintro e u' w9 ⟨rfl, rfl, rfl⟩
      obtain ⟨y0, y1, y2, y3, y4, y5, y6, y7, y8, _⟩ := cellsG qC
      simp [Leaves, settle, results, Tryz.results138, go_sem, y0, y1, y2, y3, y4, y5, y6, y7, y8, dC]
      exact ⟨hbC, (by rw [← HT.out]; exact HG.out), i0, i1, i2, i3, i4, i5, i6, A7, n7, c7, A8, n8, c8, (by simp), HP3.out⟩
    · have hjb : ((j : Int) == (l.length : Int)) = false := by simp; omega
      have HT : Hid (ok = false) := Lib.hid (by rw [HS.out]; simpa using hj)
      clear hj HS
      go_wp2_with fail
      obtain ⟨qA, hkA⟩ := setG q4 (.int .u16 i0) (.int .u8 i1) (.int .u8 i2) (.int .u32 i3) (.int .u32 i4) (.int .u32 i5) (.int .u16 i6) (.slice A7 n7 c7) (.slice A8 n8 c8) rfl
      generalize (((((((((w4).setCell ⟨w.heap.size, 0, none⟩ (.int .u16 i0)).setCell ⟨w.heap.size, 1, none⟩ (.int .u8 i1)).setCell ⟨w.heap.size, 2, none⟩ (.int .u8 i2)).setCell ⟨w.heap.size, 3, none⟩ (.int .u32 i3)).setCell ⟨w.heap.size, 4, none⟩ (.int .u32 i4)).setCell ⟨w.heap.size, 5, none⟩ (.int .u32 i5)).setCell ⟨w.heap.size, 6, none⟩ (.int .u16 i6)).setCell ⟨w.heap.size, 7, none⟩ (.slice A7 n7 c7)).setCell ⟨w.heap.size, 8, none⟩ (.slice A8 n8 c8) = w5 at *
      have hbA : Below w.heap.size w w5 := hb4.trans (hkA.below (B := w.heap.size) (by omega) (fun k hk => by omega))
      have hsA := hkA.size
      have dA := (hkA.cell (b := w.heap.size + 1) (o := 0) (by omega) (by omega)).trans d1
      have gA := (hkA.frozen (b := w.heap.size + 1) (o := 0) (by omega) (by omega)).trans g1
      clear u0 u1 u2 u3 u4 u5 u6 u7 u8 uf uf0 uf1 uf2 uf3 uf4 uf5 uf6 uf7 uf8 q4 d1 g1 e1 hkA
      refine (must_no _).mono ?_
      rintro e w' ⟨rfl, rfl⟩
      go_wp2_with fail
      refine leaves_cons (f := 185) (args := #[.pointer (some ⟨w.heap.size, 0, none⟩), .pointer (some ⟨w.heap.size + 1, 0, none⟩)]) (by simp) (by simp [go_sem]) ?_
      refine (HD.out _ _ _ _ _ _ _ _ _ w5 hbA qA dA gA (by omega)).mono ?_
      rintro e u' w9 ⟨rfl, rfl, zq, z1, hb5⟩
      obtain ⟨y0, y1, y2, y3, y4, y5, y6, y7, y8, _⟩ := cellsG zq
      simp [Leaves, settle, mustR, results, Tryz.results138, go_sem, y0, y1, y2, y3, y4, y5, y6, y7, y8, z1]
      exact ⟨hb5, by rw [← HT.out]; exact HG.out⟩
  · have HS := Lib.hid hs
    clear hs
    go_wp2_with fail
    refine leaves_cons (f := 185) (args := #[.pointer (some ⟨w.heap.size, 0, none⟩), .pointer (some ⟨w.heap.size + 1, 0, none⟩)]) (by simp) (by simp [go_sem]) ?_
    refine (HD.out _ _ _ _ _ _ _ _ _ w4 hb4 q4 d1 g1 (by omega)).mono ?_
    rintro e u' w5 ⟨rfl, rfl, zq, z1, hb5⟩
    obtain ⟨y0, y1, y2, y3, y4, y5, y6, y7, y8, _⟩ := cellsG zq
    simp [Leaves, settle, mustR, results, Tryz.results138, go_sem, y0, y1, y2, y3, y4, y5, y6, y7, y8, z1]
    exact ⟨hb5, by rw [← HS.out]; exact HG.out⟩
end Nm
end Go.Proofs.YtkeimgamjnpcbaaGreat

/- Contracts of package rdata: the reading of a signature, to the byte. (Printed by a program: wip/gen_sig1.py.) -/
namespace Go.Proofs.YtkeimgamjnpcbaaGreat
open Go.RowKit
set_option linter.unusedVariables false
set_option linter.unusedSimpArgs false
namespace Nm
def sigB (l : Lab) : Bool := decide (18 ≤ l.length) && (openO (l.drop 18)).isSome
def sigM (l : Lab) : SigM := ⟨numOf ((l.drop 0).take 2) 0, numOf ((l.drop 2).take 1) 0, numOf ((l.drop 3).take 1) 0, numOf ((l.drop 4).take 4) 0, numOf ((l.drop 8).take 4) 0, numOf ((l.drop 12).take 4) 0, numOf ((l.drop 16).take 2) 0, openN (l.drop 18), l.drop (18 + openK (l.drop 18))⟩
theorem numOf_len : ∀ (p : Lab) (a : Nat), numOf p a < (a + 1) * 256 ^ p.length
  | [], a => by simp [numOf]
  | c :: p, a => by
    have h := numOf_len p ((a * 256 + c.toNat) % 4294967296)
    have hc := UInt8.toNat_lt c
    have h2 : (a * 256 + c.toNat) % 4294967296 ≤ a * 256 + c.toNat := Nat.mod_le _ _
    show numOf p _ < _
    rw [List.length_cons, Nat.pow_succ]
    refine Nat.lt_of_lt_of_le h ?_
    have h3 : (a * 256 + c.toNat) % 4294967296 + 1 ≤ (a + 1) * 256 := by omega
    calc _ ≤ ((a + 1) * 256) * 256 ^ p.length := Nat.mul_le_mul_right _ h3
      _ = (a + 1) * (256 ^ p.length * 256) := by rw [Nat.mul_assoc, Nat.mul_comm 256]
theorem numOf_two (p : Lab) (h : p.length ≤ 2) : numOf p 0 < 65536 := by
  have h1 := numOf_len p 0
  have h2 : 256 ^ p.length ≤ 256 ^ 2 := Nat.pow_le_pow_right (by omega) h
  omega
theorem numOf_one' (p : Lab) (h : p.length ≤ 1) : numOf p 0 < 256 := by
  have h1 := numOf_len p 0
  have h2 : 256 ^ p.length ≤ 256 ^ 1 := Nat.pow_le_pow_right (by omega) h
  omega
theorem sig_fits (l : Lab) (hl : l.length ≤ 100000) : (sigM l).fits :=
  ⟨numOf_two _ (by simp; omega), numOf_one' _ (by simp; omega), numOf_one' _ (by simp; omega), numOf_lt _ _ (by omega), numOf_lt _ _ (by omega), numOf_lt _ _ (by omega), numOf_two _ (by simp; omega), openN_small _, by simp [sigM]; omega⟩
/-- what is read of a signature -/
def SigP (l : Lab) (v0 v1 v2 v3 v4 v5 v6 v7 v8 : Value) (N : Nat) (w : World) : Prop := v0 = .int .u16 (sigM l).t ∧ v1 = .int .u8 (sigM l).al ∧ v2 = .int .u8 (sigM l).lb ∧ v3 = .int .u32 (sigM l).ttl ∧ v4 = .int .u32 (sigM l).ex ∧ v5 = .int .u32 (sigM l).bg ∧ v6 = .int .u16 (sigM l).tg ∧
  w.ownsRow N 9 1 v7 (sigM l).n.length ((sigM l).n.map strV) ∧ w.ownsRow N 5 1 v8 (sigM l).s.length ((sigM l).s.map byteV)
set_option maxRecDepth 100000 in
set_option maxHeartbeats 20000000 in
theorem Sig1 (A : Option Addr) (l : Lab) (cap : Nat) (w : World) (r : Nat) (h : Rdr w r A l cap 0) (hrw : r < w.heap.size) :
    Calls Tryz.prog 139 #[.pointer (some ⟨r, 0, none⟩)] w fun e w' => Kept (fun b => b = r) w w' ∧ ∃ ok : Bool, ok = sigB l ∧ ((∃ (j : Nat) (i0 i1 i2 i3 i4 i5 i6 : Int) (A7 : Option Addr) (n7 c7 : Nat) (A8 : Option Addr) (n8 c8 : Nat), e = .returned (.agg #[.int .u16 i0, .int .u8 i1, .int .u8 i2, .int .u32 i3, .int .u32 i4, .int .u32 i5, .int .u16 i6, .slice A7 n7 c7, .slice A8 n8 c8]) ∧ Rdr w' r A l cap j ∧ ok = decide (j = l.length) ∧ SigP l (.int .u16 i0) (.int .u8 i1) (.int .u8 i2) (.int .u32 i3) (.int .u32 i4) (.int .u32 i5) (.int .u16 i6) (.slice A7 n7 c7) (.slice A8 n8 c8) w.heap.size w') ∨ (ok = false ∧ e = .panicked mustP)) := by
  have hlen := h.len
  have H := Lib.hid h
  have HNo : Hid (∀ k, k ≤ 18 → ¬ k ≤ l.length → false = sigB l) := Lib.hid (by
    intro k h1 h2
    unfold sigB
    rw [decide_eq_false (by omega), Bool.false_and])
  clear h
  go_enter Tryz.func139, Tryz.ntmps139
  go_wp2_with fail
  generalize hw0 : w.alloc (.cells #[.int .u16 0, .int .u8 0, .int .u8 0, .int .u32 0, .int .u32 0, .int .u32 0, .int .u16 0, .slice none 0 0, .slice none 0 0] 33) = w0
  have hb0 : Below w.heap.size w w0 := by rw [← hw0]; exact (Below.refl _ _).alloc (Nat.le_refl _) _
  have hq0 : w0.heap[w.heap.size]? = some (.cells #[.int .u16 0, .int .u8 0, .int .u8 0, .int .u32 0, .int .u32 0, .int .u32 0, .int .u16 0, .slice none 0 0, .slice none 0 0] 33 (0, 0)) := by
    rw [← hw0]; exact heap_alloc_new w _
  have hr0 := H.out.ext hb0
  have hk0 := (Kept.of_ext hb0).mono (S' := fun b => b = r) (fun _ _ h => h.elim)
  have hwr : ¬ w.heap.size = r := by omega
  have hz0 : w0.heap.size = w.heap.size + 1 := by rw [← hw0]; simp
  clear hw0
  by_cases hc0 : 0 + 2 ≤ l.length
  · refine (num_yes r A l cap 0 2 w0 hr0 hc0).mono ?_
    rintro e w1 ⟨rfl, hr1, hkn1⟩
    have hq1 := (hkn1.block _ (lt_block hq0) hwr).trans hq0
    have hk1 := hk0.trans hkn1
    have HU0 := numOf_two ((l.drop 0).take 2) (by simp; omega)
    generalize hNE : numOf ((l.drop 0).take 2) 0 = n0 at *
    have HE0 : Hid (numOf ((l.drop 0).take 2) 0 = n0) := Lib.hid hNE
    have hz1 := hkn1.size
    have hwv0 : IntKind.u16.wrap (n0 : Int) = n0 := by simp [IntKind.wrap, IntKind.bits, IntKind.signed]; omega
    clear hNE hq0 hkn1 hr0 hk0
    go_wp2_with fail
    by_cases hc1 : 2 + 1 ≤ l.length
    · refine (num_yes r A l cap 2 1 w1 hr1 hc1).mono ?_
      rintro e w2 ⟨rfl, hr2, hkn2⟩
      have hq2 := (hkn2.block _ (lt_block hq1) hwr).trans hq1
      have hk2 := hk1.trans hkn2
      have HU1 := numOf_one' ((l.drop 2).take 1) (by simp; omega)
      generalize hNE : numOf ((l.drop 2).take 1) 0 = n1 at *
      have HE1 : Hid (numOf ((l.drop 2).take 1) 0 = n1) := Lib.hid hNE
      have hz2 := hkn2.size
      have hwv1 : ((n1 : Int) % 256) = n1 := by omega
      clear hNE hq1 hkn2 hr1 hk1
      go_wp2_with fail
      by_cases hc2 : 3 + 1 ≤ l.length
      · refine (num_yes r A l cap 3 1 w2 hr2 hc2).mono ?_
        rintro e w3 ⟨rfl, hr3, hkn3⟩
        have hq3 := (hkn3.block _ (lt_block hq2) hwr).trans hq2
        have hk3 := hk2.trans hkn3
        have HU2 := numOf_one' ((l.drop 3).take 1) (by simp; omega)
        generalize hNE : numOf ((l.drop 3).take 1) 0 = n2 at *
        have HE2 : Hid (numOf ((l.drop 3).take 1) 0 = n2) := Lib.hid hNE
        have hz3 := hkn3.size
        have hwv2 : ((n2 : Int) % 256) = n2 := by omega
        clear hNE hq2 hkn3 hr2 hk2
        go_wp2_with fail
        try rw [hwv0, hwv1, hwv2]
        generalize hwb : w3.alloc (.cells #[.int .u16 n0, .int .u8 n1, .int .u8 n2, .int .u32 0, .int .u32 0, .int .u32 0, .int .u16 0, .slice none 0 0, .slice none 0 0] 33) = wb
        have hbb : Below w3.heap.size w3 wb := by rw [← hwb]; exact (Below.refl _ _).alloc (Nat.le_refl _) _
        have hgb : wb.heap[w3.heap.size]? = some (.cells #[.int .u16 n0, .int .u8 n1, .int .u8 n2, .int .u32 0, .int .u32 0, .int .u32 0, .int .u16 0, .slice none 0 0, .slice none 0 0] 33 (0, 0)) := by rw [← hwb]; exact heap_alloc_new w3 _
        have hqb := (hbb.block _ (lt_block hq3)).trans hq3
        have hrb := hr3.ext hbb
        have hkb := hk3.trans ((Kept.of_ext hbb).mono (S' := fun b => b = r) (fun _ _ h => h.elim))
        have hzb := lt_block hgb
        have hgr : ¬ w3.heap.size = r := by omega
        have hwg : ¬ w.heap.size = w3.heap.size := by omega
        have hgA : ∀ a, A = some a → l.map byteV ≠ [] → ¬ a.block = w3.heap.size := fun a ha hx => by have := H.out.cs.where ha hx; omega
        have HGA := Lib.hid hgA
        have hgw : w.heap.size < w3.heap.size := by omega
        generalize hgn : w3.heap.size = g at *
        clear hwb hgA hq3 hr3 hk3 hbb hwv0 hwv1 hwv2
        obtain ⟨w4, hwe⟩ : ∃ W, W = wb := ⟨_, rfl⟩
        rw [← hwe] at hgb hqb hrb hkb hzb ⊢
        clear hwe
        have hg4 := hgb
        have hq4 := hqb
        have hr4 := hrb
        have hk4 := hkb
        have hz4 := hzb
        clear hgb hqb hrb hkb hzb
        by_cases hc3 : 4 + 4 ≤ l.length
        · refine (num_yes r A l cap 4 4 w4 hr4 hc3).mono ?_
          rintro e w5 ⟨rfl, hr5, hkn5⟩
          have hq5 := (hkn5.block _ (lt_block hq4) hwr).trans hq4
          have hg5 := (hkn5.block _ (lt_block hg4) hgr).trans hg4
          have hk5 := hk4.trans hkn5
          have HU3 := numOf_lt ((l.drop 4).take 4) 0 (by omega)
          generalize hNE : numOf ((l.drop 4).take 4) 0 = n3 at *
          have HE3 : Hid (numOf ((l.drop 4).take 4) 0 = n3) := Lib.hid hNE
          have hz5 := hkn5.size
          clear hNE hq4 hkn5 hr4 hk4 hg4
          go_wp2_with fail
          by_cases hc4 : 8 + 4 ≤ l.length
          · refine (num_yes r A l cap 8 4 w5 hr5 hc4).mono ?_
            rintro e w6 ⟨rfl, hr6, hkn6⟩
            have hq6 := (hkn6.block _ (lt_block hq5) hwr).trans hq5
            have hg6 := (hkn6.block _ (lt_block hg5) hgr).trans hg5
            have hk6 := hk5.trans hkn6
            have HU4 := numOf_lt ((l.drop 8).take 4) 0 (by omega)
            generalize hNE : numOf ((l.drop 8).take 4) 0 = n4 at *
            have HE4 : Hid (numOf ((l.drop 8).take 4) 0 = n4) := Lib.hid hNE
            have hz6 := hkn6.size
            clear hNE hq5 hkn6 hr5 hk5 hg5
            go_wp2_with fail
            by_cases hc5 : 12 + 4 ≤ l.length
            · refine (num_yes r A l cap 12 4 w6 hr6 hc5).mono ?_
              rintro e w7 ⟨rfl, hr7, hkn7⟩
              have hq7 := (hkn7.block _ (lt_block hq6) hwr).trans hq6
              have hg7 := (hkn7.block _ (lt_block hg6) hgr).trans hg6
              have hk7 := hk6.trans hkn7
              have HU5 := numOf_lt ((l.drop 12).take 4) 0 (by omega)
              generalize hNE : numOf ((l.drop 12).take 4) 0 = n5 at *
              have HE5 : Hid (numOf ((l.drop 12).take 4) 0 = n5) := Lib.hid hNE
              have hz7 := hkn7.size
              clear hNE hq6 hkn7 hr6 hk6 hg6
              obtain ⟨u0, u1, u2, u3, u4, u5, u6, u7, u8, uf⟩ := cellsG hg7
              have uf3 := uf 3
              have uf4 := uf 4
              have uf5 := uf 5
              go_wp2_with fail
              clear u0 u1 u2 u3 u4 u5 u6 u7 u8 uf uf3 uf4 uf5
              generalize hw8 : ((w7.setCell ⟨g, 3, none⟩ (.int .u32 n3)).setCell ⟨g, 4, none⟩ (.int .u32 n4)).setCell ⟨g, 5, none⟩ (.int .u32 n5) = w8
              have hks : Kept (fun b => b = g) w7 w8 := by rw [← hw8]; exact (((Kept.refl (fun b => b = g) _).setCell (p := ⟨g, 3, none⟩) (fun _ => rfl) _).setCell (p := ⟨g, 4, none⟩) (fun _ => rfl) _).setCell (p := ⟨g, 5, none⟩) (fun _ => rfl) _
              have hg8 : w8.heap[g]? = some (.cells #[.int .u16 n0, .int .u8 n1, .int .u8 n2, .int .u32 n3, .int .u32 n4, .int .u32 n5, .int .u16 0, .slice none 0 0, .slice none 0 0] 33 (0, 0)) := by rw [← hw8]; exact heap_set (heap_set (heap_set hg7))
              have hq8 := (hks.block _ (lt_block hq7) hwg).trans hq7
              have hr8 := hr7.kept hks (fun h => hgr h.symm) HGA.out
              have hk8 := hk7.then hks (fun b hb h => by omega)
              have hz8 := hks.size
              clear hw8 hks hg7 hq7 hr7 hk7
              by_cases hc6 : 16 + 2 ≤ l.length
              · refine (num_yes r A l cap 16 2 w8 hr8 hc6).mono ?_
                rintro e w9 ⟨rfl, hr9, hkn9⟩
                have hq9 := (hkn9.block _ (lt_block hq8) hwr).trans hq8
                have hg9 := (hkn9.block _ (lt_block hg8) hgr).trans hg8
                have hk9 := hk8.trans hkn9
                have HU6 := numOf_two ((l.drop 16).take 2) (by simp; omega)
                generalize hNE : numOf ((l.drop 16).take 2) 0 = n6 at *
                have HE6 : Hid (numOf ((l.drop 16).take 2) 0 = n6) := Lib.hid hNE
                have hz9 := hkn9.size
                have hwv6 : IntKind.u16.wrap (n6 : Int) = n6 := by simp [IntKind.wrap, IntKind.bits, IntKind.signed]; omega
                clear hNE hq8 hkn9 hr8 hk8 hg8
                go_wp2_with fail
                refine (name r A l cap 18 w9 hr9).mono ?_
                rintro e wn ⟨hkn, ⟨nm, j, v7, ho, rfl, hrn, hown⟩ | ⟨ho, rfl⟩⟩
                · have hqn := (hkn.block _ (lt_block hq9) hwr).trans hq9
                  have hgn2 := (hkn.block _ (lt_block hg9) hgr).trans hg9
                  have hkn2 := hk9.trans hkn
                  obtain ⟨A7, c7, rfl, _, _⟩ := Cs.of_own hown
                  have HO7 := Lib.hid hown
                  have hzn := hkn.size
                  have HNM := Lib.hid ho
                  clear ho hown hkn hq9 hg9 hr9 hk9
                  go_wp2_with fail
                  refine (rest r A l cap (18 + j) wn hrn).mono ?_
                  rintro e wx ⟨hkx, hrx, v8, rfl, hown⟩
                  have hqx := (hkx.block _ (lt_block hqn) hwr).trans hqn
                  have hgx := (hkx.block _ (lt_block hgn2) hgr).trans hgn2
                  have hkx2 := hkn2.trans hkx
                  have HO7x := Lib.hid (Kept.row HO7.out hkx (fun b hb hbr => by have := (HO7.out.lt b hb).1; omega))
                  rw [← List.length_drop] at hown
                  generalize hrs : l.drop (18 + j) = rs at *
                  obtain ⟨A8, c8, rfl, _, _⟩ := Cs.of_own hown
                  have HO8 := Lib.hid hown
                  have HRS := Lib.hid hrs
                  have hzx := hkx.size
                  clear hrs hown hkx hqn hgn2 hkn2 hrn
                  obtain ⟨u0, u1, u2, u3, u4, u5, u6, u7, u8, uf⟩ := cellsG hgx
                  have uf0 := uf 0
                  have uf1 := uf 1
                  have uf2 := uf 2
                  have uf3 := uf 3
                  have uf4 := uf 4
                  have uf5 := uf 5
                  have uf6 := uf 6
                  have uf7 := uf 7
                  have uf8 := uf 8
                  obtain ⟨q0, q1, q2, q3, q4, q5, q6, q7, q8, qf⟩ := cellsG hqx
                  have qf0 := qf 0
                  have qf1 := qf 1
                  have qf2 := qf 2
                  have qf3 := qf 3
                  have qf4 := qf 4
                  have qf5 := qf 5
                  have qf6 := qf 6
                  have qf7 := qf 7
                  have qf8 := qf 8
                  go_wp2_with fail
                  have hkg : Kept (fun b => b = g) wx (((wx.setCell ⟨g, 6, none⟩ (.int .u16 n6)).setCell ⟨g, 7, none⟩ (.slice A7 nm.length c7)).setCell ⟨g, 8, none⟩ (.slice A8 rs.length c8)) := (((Kept.refl (fun b => b = g) wx).setCell (p := ⟨g, 6, none⟩) (fun _ => rfl) _).setCell (p := ⟨g, 7, none⟩) (fun _ => rfl) _).setCell (p := ⟨g, 8, none⟩) (fun _ => rfl) _
                  generalize ((wx.setCell ⟨g, 6, none⟩ (.int .u16 n6)).setCell ⟨g, 7, none⟩ (.slice A7 nm.length c7)).setCell ⟨g, 8, none⟩ (.slice A8 rs.length c8) = wy at *
                  have hqy := (hkg.block _ (lt_block hqx) hwg).trans hqx
                  obtain ⟨hqz, hkw⟩ := setG hqy (.int .u16 n0) (.int .u8 n1) (.int .u8 n2) (.int .u32 n3) (.int .u32 n4) (.int .u32 n5) (.int .u16 n6) (.slice A7 nm.length c7) (.slice A8 rs.length c8) rfl
                  generalize (((((((((wy.setCell ⟨w.heap.size, 0, none⟩ (.int .u16 n0)).setCell ⟨w.heap.size, 1, none⟩ (.int .u8 n1)).setCell ⟨w.heap.size, 2, none⟩ (.int .u8 n2)).setCell ⟨w.heap.size, 3, none⟩ (.int .u32 n3)).setCell ⟨w.heap.size, 4, none⟩ (.int .u32 n4)).setCell ⟨w.heap.size, 5, none⟩ (.int .u32 n5)).setCell ⟨w.heap.size, 6, none⟩ (.int .u16 n6)).setCell ⟨w.heap.size, 7, none⟩ (.slice A7 nm.length c7)).setCell ⟨w.heap.size, 8, none⟩ (.slice A8 rs.length c8)) = wz at *
                  have hrF := (hrx.kept hkg (fun h => hgr h.symm) HGA.out).kept hkw (fun h => hwr h.symm) (fun a ha hx => by have := H.out.cs.where ha hx; omega)
                  have hkF := (hkx2.then hkg (fun b hb h => by omega)).then hkw (fun b hb h => by omega)
                  have h7F := own_base (Kept.row (Kept.row HO7x.out hkg (fun b hb hbr => by have := (HO7.out.lt b hb).1; omega)) hkw (fun b hb hbr => by have := (HO7.out.lt b hb).1; omega)) (show w.heap.size ≤ w9.heap.size by omega)
                  have h8F := own_base (Kept.row (Kept.row HO8.out hkg (fun b hb hbr => by have := (HO8.out.lt b hb).1; omega)) hkw (fun b hb hbr => by have := (HO8.out.lt b hb).1; omega)) (show w.heap.size ≤ wn.heap.size by omega)
                  obtain ⟨z0, z1, z2, z3, z4, z5, z6, z7, z8, _⟩ := cellsG hqz
                  obtain ⟨_, _, _, o1, o2⟩ := openO_some HNM.out
                  have hM : sigM l = ⟨n0, n1, n2, n3, n4, n5, n6, nm, rs⟩ := by
                    unfold sigM
                    rw [HE0.out, HE1.out, HE2.out, HE3.out, HE4.out, HE5.out, HE6.out, o1, o2, HRS.out]
                  refine bodyPost_ret (v := .agg #[.int .u16 n0, .int .u8 n1, .int .u8 n2, .int .u32 n3, .int .u32 n4, .int .u32 n5, .int .u16 n6, .slice A7 nm.length c7, .slice A8 rs.length c8]) ?_ rfl ⟨hkF, true, ?_, .inl ⟨l.length, _, _, _, _, _, _, _, A7, _, c7, A8, _, c8, rfl, hrF, ?_, ?_⟩⟩
                  · simp [results, Tryz.results139, go_sem, z0, z1, z2, z3, z4, z5, z6, z7, z8]
                  · unfold sigB
                    rw [HNM.out, decide_eq_true (by omega)]
                    rfl
                  · rw [decide_eq_true rfl]
                  · unfold SigP
                    rw [hM]
                    exact ⟨rfl, rfl, rfl, rfl, rfl, rfl, rfl, h7F, h8F⟩
                · have hkn2 := hk9.trans hkn
                  have HN2 := Lib.hid ho
                  clear ho
                  go_wp2_with fail
                  exact ⟨rfl, hkn2, false, (by unfold sigB; rw [HN2.out]; simp), .inr ⟨rfl, rfl⟩⟩
              · refine (num_no r A l cap 16 2 w8 hr8 hc6 (by omega)).mono ?_
                rintro e wy ⟨rfl, hky⟩
                have hkF := hk8.trans hky
                have HF := Lib.hid (HNo.out 18 (by omega) (by omega))
                go_wp2_with fail
                exact ⟨rfl, hkF, false, HF.out, .inr ⟨rfl, rfl⟩⟩
            · refine (num_no r A l cap 12 4 w6 hr6 hc5 (by omega)).mono ?_
              rintro e wy ⟨rfl, hky⟩
              have hkF := hk6.trans hky
              have HF := Lib.hid (HNo.out 16 (by omega) (by omega))
              go_wp2_with fail
              exact ⟨rfl, hkF, false, HF.out, .inr ⟨rfl, rfl⟩⟩
          · refine (num_no r A l cap 8 4 w5 hr5 hc4 (by omega)).mono ?_
            rintro e wy ⟨rfl, hky⟩
            have hkF := hk5.trans hky
            have HF := Lib.hid (HNo.out 12 (by omega) (by omega))
            go_wp2_with fail
            exact ⟨rfl, hkF, false, HF.out, .inr ⟨rfl, rfl⟩⟩
        · refine (num_no r A l cap 4 4 w4 hr4 hc3 (by omega)).mono ?_
          rintro e wy ⟨rfl, hky⟩
          have hkF := hk4.trans hky
          have HF := Lib.hid (HNo.out 8 (by omega) (by omega))
          go_wp2_with fail
          exact ⟨rfl, hkF, false, HF.out, .inr ⟨rfl, rfl⟩⟩
      · refine (num_no r A l cap 3 1 w2 hr2 hc2 (by omega)).mono ?_
        rintro e wy ⟨rfl, hky⟩
        have hkF := hk2.trans hky
        have HF := Lib.hid (HNo.out 4 (by omega) (by omega))
        go_wp2_with fail
        exact ⟨rfl, hkF, false, HF.out, .inr ⟨rfl, rfl⟩⟩
    · refine (num_no r A l cap 2 1 w1 hr1 hc1 (by omega)).mono ?_
      rintro e wy ⟨rfl, hky⟩
      have hkF := hk1.trans hky
      have HF := Lib.hid (HNo.out 3 (by omega) (by omega))
      go_wp2_with fail
      exact ⟨rfl, hkF, false, HF.out, .inr ⟨rfl, rfl⟩⟩
  · refine (num_no r A l cap 0 2 w0 hr0 hc0 (by omega)).mono ?_
    rintro e wy ⟨rfl, hky⟩
    have hkF := hk0.trans hky
    have HF := Lib.hid (HNo.out 2 (by omega) (by omega))
    go_wp2_with fail
    exact ⟨rfl, hkF, false, HF.out, .inr ⟨rfl, rfl⟩⟩
end Nm
end Go.Proofs.YtkeimgamjnpcbaaGreat

/- Contracts of package rdata: Sig. (Printed by a program: wip/gen_wrap.py.) -/
namespace Go.Proofs.YtkeimgamjnpcbaaGreat
open Go.RowKit
set_option linter.unusedVariables false
set_option linter.unusedSimpArgs false
namespace Nm
theorem saysG {l : Lab} : SaysG (SigP l) := ⟨fun v0 v1 v2 v3 v4 v5 v6 v7 v8 B S W W' h hk hs => by
    obtain ⟨h0, h1, h2, h3, h4, h5, h6, h7, h8⟩ := h
    exact ⟨h0, h1, h2, h3, h4, h5, h6, Kept.row h7 hk (fun b hb => hs b (h7.lt b hb).1), Kept.row h8 hk (fun b hb => hs b (h8.lt b hb).1)⟩, fun v0 v1 v2 v3 v4 v5 v6 v7 v8 B B' W hB h => by
    obtain ⟨h0, h1, h2, h3, h4, h5, h6, h7, h8⟩ := h
    exact ⟨h0, h1, h2, h3, h4, h5, h6, own_base h7 hB, own_base h8 hB⟩⟩
set_option maxRecDepth 100000 in
set_option maxHeartbeats 8000000 in
theorem SigW (A : Option Addr) (l : Lab) (cap : Nat) (w : World) (hc : Cs w A (l.map byteV)) (hl : l.length ≤ 100000) (hcap : l.length ≤ cap) (hcap2 : cap ≤ maxLen) :
    Calls Tryz.prog 105 #[.slice A l.length cap] w fun e w' => Below w.heap.size w w' ∧ ∃ ok, (fun ok => ok = sigB l) ok ∧ ((ok = true ∧ ∃ i0 i1 i2 i3 i4 i5 i6 A7 n7 c7 A8 n8 c8, e = .returned (.tuple #[.agg #[.int .u16 i0, .int .u8 i1, .int .u8 i2, .int .u32 i3, .int .u32 i4, .int .u32 i5, .int .u16 i6, .slice A7 n7 c7, .slice A8 n8 c8], .int .i64 0]) ∧ (SigP l) (.int .u16 i0) (.int .u8 i1) (.int .u8 i2) (.int .u32 i3) (.int .u32 i4) (.int .u32 i5) (.int .u16 i6) (.slice A7 n7 c7) (.slice A8 n8 c8) w.heap.size w') ∨ (ok = false ∧ e = .returned (.tuple #[.agg #[.int .u16 0, .int .u8 0, .int .u8 0, .int .u32 0, .int .u32 0, .int .u32 0, .int .u16 0, .slice none 0 0, .slice none 0 0], .int .i64 50]))) := by
  go_enter Tryz.func105, Tryz.ntmps105
  go_wp2_with fail
  generalize hw2 : w.alloc (.cells #[.int .u16 0, .int .u8 0, .int .u8 0, .int .u32 0, .int .u32 0, .int .u32 0, .int .u16 0, .slice none 0 0, .slice none 0 0] 33) = w2
  have hb2 : Below w.heap.size w w2 := by rw [← hw2]; exact (Below.refl _ _).alloc (Nat.le_refl _) _
  have hz2 : w2.heap.size = w.heap.size + 1 := by rw [← hw2]; simp
  have q2 : w2.heap[w.heap.size]? = some (.cells #[.int .u16 0, .int .u8 0, .int .u8 0, .int .u32 0, .int .u32 0, .int .u32 0, .int .u16 0, .slice none 0 0, .slice none 0 0] 33 (0, 0)) := by rw [← hw2]; exact heap_alloc_new w _
  clear hw2
  refine (readG (fun ok => ok = sigB l) (SigP l) saysG A l cap w2 (hc.below hb2) hl hcap hcap2 (fun W r h1 h2 => Sig1 A l cap W r h1 h2)).mono ?_
  rintro e w3 ⟨hb3, hcase⟩
  have q3 := (hb3.block _ (show w.heap.size < w2.heap.size by omega)).trans q2
  have hz3 := hb3.size
  have hb13 := hb2.trans (hb3.mono (by omega))
  obtain ⟨u0, u1, u2, u3, u4, u5, u6, u7, u8, uf⟩ := cellsG q3
  have uf0 := uf 0
  have uf1 := uf 1
  have uf2 := uf 2
  have uf3 := uf 3
  have uf4 := uf 4
  have uf5 := uf 5
  have uf6 := uf 6
  have uf7 := uf 7
  have uf8 := uf 8
  rcases hcase with ⟨ok, hG, ⟨rfl, i0, i1, i2, i3, i4, i5, i6, A7, n7, c7, A8, n8, c8, rfl, hP⟩ | ⟨rfl, rfl⟩⟩
  · have HG := Lib.hid hG
    have HP := Lib.hid hP
    clear hG hP
    go_wp2_with fail
    obtain ⟨qA, hkA⟩ := setG q3 (.int .u16 i0) (.int .u8 i1) (.int .u8 i2) (.int .u32 i3) (.int .u32 i4) (.int .u32 i5) (.int .u16 i6) (.slice A7 n7 c7) (.slice A8 n8 c8) rfl
    have hbF := hb13.trans (hkA.below (B := w.heap.size) (by omega) (fun k hk => by omega))
    have HPF := Lib.hid (saysG.base _ _ _ _ _ _ _ _ _ _ w.heap.size _ (by omega) (saysG.keep _ _ _ _ _ _ _ _ _ _ (fun k => k = w.heap.size) _ _ HP.out hkA (fun b hb => by omega)))
    generalize ((((((((w3.setCell ⟨w.heap.size, 0, none⟩ (.int .u16 i0)).setCell ⟨w.heap.size, 1, none⟩ (.int .u8 i1)).setCell ⟨w.heap.size, 2, none⟩ (.int .u8 i2)).setCell ⟨w.heap.size, 3, none⟩ (.int .u32 i3)).setCell ⟨w.heap.size, 4, none⟩ (.int .u32 i4)).setCell ⟨w.heap.size, 5, none⟩ (.int .u32 i5)).setCell ⟨w.heap.size, 6, none⟩ (.int .u16 i6)).setCell ⟨w.heap.size, 7, none⟩ (.slice A7 n7 c7)).setCell ⟨w.heap.size, 8, none⟩ (.slice A8 n8 c8) = wF at *
    obtain ⟨z0, z1, z2, z3, z4, z5, z6, z7, z8, _⟩ := cellsG qA
    refine bodyPost_ret (v := .tuple #[.agg #[.int .u16 i0, .int .u8 i1, .int .u8 i2, .int .u32 i3, .int .u32 i4, .int .u32 i5, .int .u16 i6, .slice A7 n7 c7, .slice A8 n8 c8], .int .i64 0]) ?_ rfl ⟨hbF, true, HG.out, .inl ⟨rfl, i0, i1, i2, i3, i4, i5, i6, A7, n7, c7, A8, n8, c8, rfl, HPF.out⟩⟩
    simp [results, Tryz.results105, go_sem, z0, z1, z2, z3, z4, z5, z6, z7, z8]
  · have HG := Lib.hid hG
    clear hG
    go_wp2_with fail
    obtain ⟨qA, hkA⟩ := setG q3 (.int .u16 0) (.int .u8 0) (.int .u8 0) (.int .u32 0) (.int .u32 0) (.int .u32 0) (.int .u16 0) (.slice none 0 0) (.slice none 0 0) rfl
    have hbF := hb13.trans (hkA.below (B := w.heap.size) (by omega) (fun k hk => by omega))
    generalize ((((((((w3.setCell ⟨w.heap.size, 0, none⟩ (.int .u16 0)).setCell ⟨w.heap.size, 1, none⟩ (.int .u8 0)).setCell ⟨w.heap.size, 2, none⟩ (.int .u8 0)).setCell ⟨w.heap.size, 3, none⟩ (.int .u32 0)).setCell ⟨w.heap.size, 4, none⟩ (.int .u32 0)).setCell ⟨w.heap.size, 5, none⟩ (.int .u32 0)).setCell ⟨w.heap.size, 6, none⟩ (.int .u16 0)).setCell ⟨w.heap.size, 7, none⟩ (.slice none 0 0)).setCell ⟨w.heap.size, 8, none⟩ (.slice none 0 0) = wF at *
    obtain ⟨z0, z1, z2, z3, z4, z5, z6, z7, z8, _⟩ := cellsG qA
    refine bodyPost_ret (v := .tuple #[.agg #[.int .u16 0, .int .u8 0, .int .u8 0, .int .u32 0, .int .u32 0, .int .u32 0, .int .u16 0, .slice none 0 0, .slice none 0 0], .int .i64 50]) ?_ rfl ⟨hbF, false, HG.out, .inr ⟨rfl, rfl⟩⟩
    simp [results, Tryz.results105, go_sem, z0, z1, z2, z3, z4, z5, z6, z7, z8]
end Nm
end Go.Proofs.YtkeimgamjnpcbaaGreat

/- Contracts of package rdata: Check and Canon of a signature. -/
namespace Go.Proofs.YtkeimgamjnpcbaaGreat
open Go.RowKit
set_option linter.unusedVariables false
set_option linter.unusedSimpArgs false
namespace Nm
theorem chk46 (l : Lab) : chk 46 l = (decide (l.length ≤ 8192) && sigB l) := rfl
theorem be2_num (p : Lab) (h : p.length = 2) : be2 (numOf p 0) = p := by
  match p, h with
  | [a, b], _ =>
    have ha := UInt8.toNat_lt a
    have hb := UInt8.toNat_lt b
    have hn : numOf [a, b] 0 = a.toNat * 256 + b.toNat := by
      simp only [numOf]
      omega
    have q : ∀ (x : UInt8) (n : Nat), n % 256 = x.toNat → UInt8.ofNat n = x := by
      intro x n hx
      apply UInt8.toNat_inj.1
      rw [UInt8.toNat_ofNat']
      exact hx
    unfold be2
    rw [hn, q a _ (by omega), q b _ (by omega)]
theorem be1_num (p : Lab) (h : p.length = 1) : [UInt8.ofNat (numOf p 0)] = p := by
  match p, h with
  | [a], _ =>
    have ha := UInt8.toNat_lt a
    have hn : numOf [a] 0 = a.toNat := by
      simp only [numOf]
      omega
    rw [hn]
    congr 1
    apply UInt8.toNat_inj.1
    rw [UInt8.toNat_ofNat']
    omega
theorem pieces18 (l : Lab) : l.take 18 = (l.drop 0).take 2 ++ ((l.drop 2).take 1 ++ (l.drop 3).take 1) ++ (l.drop 4).take 4 ++ (l.drop 8).take 4 ++ (l.drop 12).take 4 ++ (l.drop 16).take 2 := by
  have e1 : l.take 18 = l.take 16 ++ (l.drop 16).take 2 := List.take_add (l := l) (i := 16) (j := 2)
  have e2 : l.take 16 = l.take 12 ++ (l.drop 12).take 4 := List.take_add (l := l) (i := 12) (j := 4)
  have e3 : l.take 12 = l.take 8 ++ (l.drop 8).take 4 := List.take_add (l := l) (i := 8) (j := 4)
  have e4 : l.take 8 = l.take 4 ++ (l.drop 4).take 4 := List.take_add (l := l) (i := 4) (j := 4)
  have e5 : l.take 4 = l.take 3 ++ (l.drop 3).take 1 := List.take_add (l := l) (i := 3) (j := 1)
  have e6 : l.take 3 = l.take 2 ++ (l.drop 2).take 1 := List.take_add (l := l) (i := 2) (j := 1)
  rw [e1, e2, e3, e4, e5, e6, List.drop_zero, List.append_assoc (l.take 2)]
def SigM.lown (g : SigM) : SigM := { g with n := lower g.n }
theorem SigM.lown_fits {g : SigM} (h : g.fits) : g.lown.fits := ⟨h.t, h.al, h.lb, h.ttl, h.ex, h.bg, h.tg, h.n.lower, h.s⟩
theorem canonO_sig {l : Lab} (h : sigB l = true) : canonO 46 l = (sigM l).lown.bytes := by
  have hl : 18 ≤ l.length := by
    unfold sigB at h
    simp at h
    exact h.1
  have e : canonO 46 l = l.take 18 ++ wire (lower (openN (l.drop 18))) ++ l.drop (18 + openK (l.drop 18)) := rfl
  rw [e, pieces18 l]
  unfold SigM.bytes SigM.lown sigM
  simp only
  rw [be2_num _ (by simp; omega), be4_num _ (by simp; omega), be4_num _ (by simp; omega), be4_num _ (by simp; omega), be2_num ((l.drop 16).take 2) (by simp; omega)]
  have e2 : [UInt8.ofNat (numOf ((l.drop 2).take 1) 0), UInt8.ofNat (numOf ((l.drop 3).take 1) 0)] = (l.drop 2).take 1 ++ (l.drop 3).take 1 := by
    have h1 := be1_num ((l.drop 2).take 1) (by simp; omega)
    have h2 := be1_num ((l.drop 3).take 1) (by simp; omega)
    show [UInt8.ofNat (numOf ((l.drop 2).take 1) 0)] ++ [UInt8.ofNat (numOf ((l.drop 3).take 1) 0)] = _
    rw [h1, h2]
  rw [e2]
set_option maxRecDepth 100000 in
set_option maxHeartbeats 4000000 in
theorem Check46 (A : Option Addr) (l : Lab) (cap : Nat) (w : World) (hc : Cs w A (l.map byteV)) (hl : l.length ≤ 100000) (hcap : l.length ≤ cap) (hcap2 : cap ≤ maxLen) :
    Calls Tryz.prog 67 #[.int .u16 46, .slice A l.length cap] w fun e w' => Below w.heap.size w w' ∧ e = .returned (.int .i64 (code50 (chk 46 l))) := by
  have HC := Lib.hid (chk46 l)
  have hb1 : Below w.heap.size w (w.alloc (.cells #[.int .u16 46] 24)) := (Below.refl _ _).alloc (Nat.le_refl _) _
  have hs1 : (w.alloc (.cells #[.int .u16 46] 24)).heap.size = w.heap.size + 1 := by simp
  by_cases h8 : 8192 < l.length
  · have HE : Hid (chk 46 l = false) := Lib.hid (by rw [HC.out]; simp; omega)
    go_enter Tryz.func67, Tryz.ntmps67
    go_wp2_with fail
    go_ret
    exact ⟨hb1, by rw [HE.out]; rfl⟩
  · have HE : Hid (chk 46 l = sigB l) := Lib.hid (by rw [HC.out]; simp; omega)
    have HR := Lib.hid (SigW A l cap (w.alloc (.cells #[.int .u16 46] 24)) (hc.below hb1) hl hcap hcap2)
    clear hc
    go_enter Tryz.func67, Tryz.ntmps67
    go_wp2_with fail
    refine HR.out.mono ?_
    rintro e w2 ⟨hb2, ok, hok, ⟨rfl, i0, i1, i2, i3, i4, i5, i6, A7, n7, c7, A8, n8, c8, rfl, _⟩ | ⟨rfl, rfl⟩⟩
    · have hbF := hb1.trans (hb2.mono (by omega))
      have HS := Lib.hid hok
      clear hok
      go_wp2_with fail
      go_ret
      exact ⟨hbF, by rw [HE.out, ← HS.out]; rfl⟩
    · have hbF := hb1.trans (hb2.mono (by omega))
      have HS := Lib.hid hok
      clear hok
      go_wp2_with fail
      go_ret
      exact ⟨hbF, by rw [HE.out, ← HS.out]; rfl⟩
set_option maxRecDepth 100000 in
set_option maxHeartbeats 20000000 in
theorem Canon46 (A : Option Addr) (l : Lab) (cap : Nat) (w : World) (hc : Cs w A (l.map byteV)) (hl : l.length ≤ 100000) (hcap : l.length ≤ cap) (hcap2 : cap ≤ maxLen) :
    Calls Tryz.prog 97 #[.int .u16 46, .slice A l.length cap] w fun e w' =>
      Below w.heap.size w w' ∧ ∃ v, e = .returned (.tuple #[v, .int .i64 (code50 (chk 46 l))]) ∧ w'.ownsRow w.heap.size 5 1 v (canonR 46 l).length ((canonR 46 l).map byteV) := by
  have HC := Lib.hid (Check46 A l cap w hc hl hcap hcap2)
  cases hk : chk 46 l with
  | false =>
    have HE := Lib.hid (canonR_no hk)
    have HK := Lib.hid hk
    clear hk hc
    rw [HK.out] at HC
    go_enter Tryz.func97, Tryz.ntmps97
    go_wp2_with fail
    refine HC.out.mono ?_
    rintro e w1 ⟨hb1, rfl⟩
    unfold code50
    go_wp2_with fail
    go_ret2
    exact ⟨hb1, _, rfl, by rw [HE.out]; exact World.ownsRow_nil _ _ _ _⟩
  | true =>
    have hsb : sigB l = true := by rw [chk46] at hk; simp at hk; exact hk.2
    have HE := Lib.hid ((canonR_yes hk).trans (canonO_sig hsb))
    have HK := Lib.hid hk
    have HSB := Lib.hid hsb
    have HF := Lib.hid (sig_fits l hl)
    have HSo := Lib.hid (fun W hW => SigW A l cap W (Cs.below (w := w) hc hW) hl hcap hcap2)
    rw [HK.out] at HC
    clear hk hsb hc
    unfold code50 at *
    go_enter Tryz.func97, Tryz.ntmps97
    go_wp2_with fail
    refine HC.out.mono ?_
    rintro e w1 ⟨hb1, rfl⟩
    go_wp2_with fail
    refine (HSo.out w1 hb1).mono ?_
    rintro e w2 ⟨hb2, ok, hok, ⟨rfl, i0, i1, i2, i3, i4, i5, i6, A7, n7, c7, A8, n8, c8, rfl, hP⟩ | ⟨rfl, rfl⟩⟩
    · obtain ⟨e0, e1, e2, e3, e4, e5, e6, ho7, ho8⟩ := hP
      cases e0
      cases e1
      cases e2
      cases e3
      cases e4
      cases e5
      cases e6
      have hln := ho7.1
      have hls := ho8.1
      generalize hgm : sigM l = gm at *
      obtain ⟨A7', c7', e7, _, hc7⟩ := Cs.of_own ho7
      cases e7
      obtain ⟨A8', c8', e8, _, hc8⟩ := Cs.of_own ho8
      cases e8
      have hb12 := hb1.trans (hb2.mono hb1.size)
      have hz12 := hb12.size
      have HL8 := Lib.hid (fun k hk => ho8.lt k hk)
      clear ho7 ho8 hln hls hok
      go_upto_region 16 with fail
      generalize hw3 : w2.alloc (.cells #[.int .u16 gm.t, .int .u8 gm.al, .int .u8 gm.lb, .int .u32 gm.ttl, .int .u32 gm.ex, .int .u32 gm.bg, .int .u16 gm.tg, .slice A7 gm.n.length c7, .slice A8 gm.s.length c8] 33) = w3
      have hb3 : Below w2.heap.size w2 w3 := by rw [← hw3]; exact (Below.refl _ _).alloc (Nat.le_refl _) _
      have hg3 : w3.heap[w2.heap.size]? = some (.cells #[.int .u16 gm.t, .int .u8 gm.al, .int .u8 gm.lb, .int .u32 gm.ttl, .int .u32 gm.ex, .int .u32 gm.bg, .int .u16 gm.tg, .slice A7 gm.n.length c7, .slice A8 gm.s.length c8] 33 (0, 0)) := by rw [← hw3]; exact heap_alloc_new w2 _
      have hz3 := lt_block hg3
      have hb13 := hb12.trans (hb3.mono hz12)
      have hfewn := HF.out.n
      have HC7 := Lib.hid (hc7.below hb3)
      have HC8 := Lib.hid (hc8.below hb3)
      generalize hgn : w2.heap.size = g at *
      obtain ⟨k0, k1, k2, k3, k4, k5, k6, k7, k8, kf⟩ := cellsG hg3
      clear hw3 hc7 hc8 hb3
      go_wp2_with fail
      refine (Lower A7 gm.n c7 w3 HC7.out hfewn.few).mono ?_
      rintro e w4 ⟨v4, rfl, hown4, hb4⟩
      obtain ⟨A4, c4, rfl, _, hcs4⟩ := Cs.of_own hown4
      have hg4 := (hb4.block _ hz3).trans hg3
      have hb14 := hb13.trans (hb4.mono (by have := hb13.size; omega))
      have HC4 := Lib.hid hcs4
      have HC84 := Lib.hid (HC8.out.below hb4)
      have HN4 := Lib.hid (fun (a : Addr) (ha : A4 = some a) (hx : (lower gm.n).map strV ≠ []) => (by have := (hown4.lt a.block (by rw [ha]; rfl)).1; omega : ¬ a.block = g))
      have HN8 := Lib.hid (fun (a : Addr) (ha : A8 = some a) (hx : gm.s.map byteV ≠ []) => (by have := (HL8.out a.block (by rw [ha]; rfl)).2; omega : ¬ a.block = g))
      clear k0 k1 k2 k3 k4 k5 k6 k7 k8 kf hg3 hown4 hcs4 hb4
      obtain ⟨k0, k1, k2, k3, k4, k5, k6, k7, k8, kf⟩ := cellsG hg4
      have kf7 := kf 7
      go_upto_region 17 with fail
      have hk5 : Kept (fun b => b = g) w4 (w4.setCell ⟨g, 7, none⟩ (.slice A4 gm.n.length c4)) := (Kept.refl (fun b => b = g) w4).setCell (p := ⟨g, 7, none⟩) (fun _ => rfl) _
      have hg5 := heap_set (i := 7) (v := .slice A4 gm.n.length c4) hg4
      generalize w4.setCell ⟨g, 7, none⟩ (.slice A4 gm.n.length c4) = w5 at *
      have hg5' : w5.heap[g]? = some (.cells #[.int .u16 gm.t, .int .u8 gm.al, .int .u8 gm.lb, .int .u32 gm.ttl, .int .u32 gm.ex, .int .u32 gm.bg, .int .u16 gm.tg, .slice A4 gm.n.length c4, .slice A8 gm.s.length c8] 33 (0, 0)) := hg5
      have hsb := SigBytes gm.lown (SigM.lown_fits HF.out) A4 A8 c4 c8 w5 (Kept.cs HC4.out hk5 (fun a h1 h2 => HN4.out a h1 h2)) (Kept.cs HC84.out hk5 (fun a h1 h2 => HN8.out a h1 h2))
      unfold SigM.v at hsb
      have hll : gm.lown.n.length = gm.n.length := lower_len gm.n
      rw [hll] at hsb
      have HSb : Hid (Calls Tryz.prog 60 #[.agg #[.int .u16 gm.t, .int .u8 gm.al, .int .u8 gm.lb, .int .u32 gm.ttl, .int .u32 gm.ex, .int .u32 gm.bg, .int .u16 gm.tg, .slice A4 gm.n.length c4, .slice A8 gm.s.length c8]] w5 fun e w' => ∃ v, e = .returned v ∧ w'.ownsRow w5.heap.size 5 1 v gm.lown.bytes.length (gm.lown.bytes.map byteV) ∧ Below w5.heap.size w5 w') := Lib.hid hsb
      have hb15 := hb14.trans (hk5.below (B := w.heap.size) (by have := hb14.size; omega) (fun k hk he => by omega))
      have hz5 := hb15.size
      clear k0 k1 k2 k3 k4 k5 k6 k7 k8 kf kf7 hg4 hg5 hsb hll
      obtain ⟨k0, k1, k2, k3, k4, k5, k6, k7, k8, kf⟩ := cellsG hg5'
      go_wp2_with fail
      refine HSb.out.mono ?_
      rintro e w6 ⟨v6, rfl, hown6, hb6⟩
      have hbF := hb15.trans (hb6.mono hz5)
      have HO6 := Lib.hid (own_base hown6 hz5)
      clear hown6 k0 k1 k2 k3 k4 k5 k6 k7 k8 kf
      go_wp2_with fail
      go_ret2
      refine ⟨hbF, _, rfl, ?_⟩
      rw [HE.out]
      exact HO6.out
    · have := HSB.out
      rw [← hok] at this
      cases this
end Nm
end Go.Proofs.YtkeimgamjnpcbaaGreat
