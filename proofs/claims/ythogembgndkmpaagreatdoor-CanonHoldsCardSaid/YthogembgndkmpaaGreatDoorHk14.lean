/-
  Texts merged by a program (OpnR, RVer, RegA, CVerI).
-/
import Derived.Test.YthogembgndkmpaaGreatDoorHk5
import Derived.Test.YthogembgndkmpaaGreatDoorHk8
import Derived.Test.YthogembgndkmpaaGreatDoorHk10
import Derived.Test.YthogembgndkmpaaGreatDoorHk12
import Derived.Test.YthogembgndkmpaaGreatDoorHk13
set_option linter.unusedSimpArgs false
set_option linter.unusedVariables false
/- signetref7.Open. -/
namespace Go.Proofs.YthogembgndkmpaaGreatDoor
open Go.RowKit
namespace W
set_option maxRecDepth 100000 in
theorem slice_mid (p : Addr) (n c a b : Nat) (A B : Int) (hA : A = (a : Int)) (hB : B = (b : Int)) (h1 : a ≤ b) (h2 : b ≤ c) (h3 : a < c) (W : World) : (Instr.sliceAt 28 (.slice (some p) n c) (some (.int .i64 A)) (some (.int .i64 B)) none).run Tryz.prog W = .ok (.slice (some (p.add a)) (b - a) (c - a)) W := by
  subst hA hB
  have h4 : ¬ c = a := by omega
  simp [go_sem, h4, h1, h2, h3]
set_option maxRecDepth 100000 in
theorem yield_sliceM {ops : Array Oper} {o : Oper} {a : Act} {W : World} {R : Value → World → Prop} (hgd : o.guard = none) (x lo hi : Operand) (ho : o.op = .slice 28 x (some lo) (some hi) none) {p : Addr} {n c i j : Nat}
    (hx : a.eval x = .slice (some p) n c) {I J : Int} (hlo : a.eval lo = .int .i64 I) (hhi : a.eval hi = .int .i64 J) (hI : I = (i : Int)) (hJ : J = (j : Int)) (h1 : i ≤ j) (h2 : j ≤ c) (h3 : i < c) (h : R (.slice (some (p.add i)) (j - i) (c - i)) W) : opYield Tryz.prog ops o a W R := by
  have hw : Region.wanted o (yielded ops a.tmps) = true := by simp [Region.wanted, hgd]
  have hr := slice_mid p n c i j I J hI hJ h1 h2 h3 W
  rw [opYield_def, if_pos hw]
  unfold execOp
  simp only [ho, Option.map_some, Option.map_none, hx, hlo, hhi, hr, Sem.run_bind, Sem.run_pure, Result.andThen_ok]
  exact h
theorem bit_eq2 (d : UInt32) (i : Nat) (hi : i < 32) : bits .and .u32 ((d.toNat : Int) / 2 ^ (31 - i)) 1 = ((bitN d i : Nat) : Int) := by
  have h1 := w_and (d >>> UInt32.ofNat (31 - i)) 1
  rw [show (((1 : UInt32).toNat : Nat) : Int) = 1 from rfl] at h1
  rw [w_shr d (31 - i) (by omega), h1, UInt32.toNat_and, show (1 : UInt32).toNat = 1 from rfl, Nat.and_one_is_mod]
  have h2 : (d >>> UInt32.ofNat (31 - i)).toNat = d.toNat / 2 ^ (31 - i) := by
    have := w_shr d (31 - i) (by omega)
    have e2 : ((d.toNat : Int) / 2 ^ (31 - i)) = ((d.toNat / 2 ^ (31 - i) : Nat) : Int) := by push_cast; rfl
    rw [e2] at this
    exact_mod_cast this.symm
  rw [h2]
  unfold bitN
  omega
def OpnRR (ks : List UInt32) (d : UInt32) (sig : List UInt8) (B : Nat) (V : World) (v i : Value) (wr : World) : Prop := ∃ k : Nat, k ≤ 32 ∧ i = .int .i64 (k : Int) ∧ wr.ownsRow B 5 1 v (16 * k) ((locks ks d sig k).map byteV) ∧ Below B V wr
set_option maxRecDepth 100000 in
set_option maxHeartbeats 20000000 in
theorem OpenR (A S : Option Addr) (cap sc : Nat) (msg sig : List UInt8) (w : World) (hb : Cs w A (msg.map byteV)) (hbl : msg.length ≤ 1000000) (hS : Cs w S (sig.map byteV)) (hsl : sig.length = 512) (hsc : 512 ≤ sc) :
    Calls Tryz.prog 61 #[.slice A msg.length cap, .slice S sig.length sc] w fun e w' => e = .returned (.tuple #[.agg ((opn ks0 msg sig).map byteV).toArray, .bool true]) ∧ Below w.heap.size w w' := by
  have hb0 : Below w.heap.size w (w.alloc (.cells z8 23)) := (Below.refl _ _).alloc (Nat.le_refl _) _
  have hsa := heap_alloc_new w (.cells z8 23)
  have hs1 : (w.alloc (.cells z8 23)).heap.size = w.heap.size + 1 := by simp
  have hD := DigestR A cap msg (w.alloc (.cells z8 23)) (hb.below hb0) hbl
  have HD := Lib.hid (And.intro hD (And.intro hb0 (And.intro hsa hs1)))
  have HB := Lib.hid hS
  clear hD hb0 hsa hs1 hb hS
  rw [hsl]
  go_enter Tryz.func61, Tryz.ntmps61
  go_wp2_with fail
  refine HD.out.1.mono ?_
  rintro e V ⟨rfl, hb2⟩
  have hbV := HD.out.2.1.trans (hb2.mono HD.out.2.1.size)
  have hsV := (hb2.block _ (lt_block HD.out.2.2.1)).trans HD.out.2.2.1
  have hV : w.heap.size + 1 ≤ V.heap.size := by have := hb2.size; rw [HD.out.2.2.2] at this; exact this
  have HV := Lib.hid (And.intro hbV hsV)
  have HO : Hid (opn ks0 msg sig = short ks0 3 [locks ks0 (dig ks0 msg) sig 32]) := Lib.hid rfl
  clear hb2 hbV hsV HD
  generalize hdd : dig ks0 msg = d at *
  have HDD := Lib.hid hdd
  clear hdd
  go_wp2_with fail
  go_loopw [7, 8, 9, 10] (fun v i _ _ wr => OpnRR ks0 d sig (w.heap.size + 1) V v i wr) (fun _ i _ _ _ => 32 - (intOf i).toNat)
  case atStart => exact ⟨0, Nat.zero_le _, rfl, World.ownsRow_nil _ _ _ _, Below.refl _ _⟩
  case round =>
    obtain ⟨k, hk, rfl, hown, hbel⟩ := hrel
    by_cases hlt : k < 32
    · have hB0 : w.heap.size + 1 ≤ wr.heap.size := Nat.le_trans hV hbel.size
      have hbit := bit_eq2 d k hlt
      have hk31 : IntKind.i64.wrap (31 - (k : Int)) = 31 - (k : Int) := by rw [IntKind.wrap_i64]; omega
      have m0 : (0 : Int) ≤ 31 - (k : Int) := by omega
      have hv2 : bitN d k = 0 ∨ bitN d k = 1 := by unfold bitN; omega
      have hbw : Below w.heap.size w wr := HV.out.1.trans (hbel.mono (Nat.le_succ _))
      have hSr : Cs wr S (sig.map byteV) := Cs.below HB.out hbw
      obtain ⟨gS, oS, rfl, hgS, _⟩ := hSr.byte (l := sig) (i := 0) (by omega)
      have c8 : Cs wr (some ⟨gS, oS + 16 * k, none⟩) (((sig.drop (16 * k)).take 8).map byteV) := by
        have h := hSr.drop' (16 * k) sc (by rw [List.length_map]; omega)
        rw [if_neg (by omega), Option.map_some, add_plain] at h
        have h2 := h.take' 8
        rw [← List.map_drop, ← List.map_take] at h2
        exact h2
      have c9 : Cs wr (some ⟨gS, oS + (16 * k + 8), none⟩) (((sig.drop (16 * k + 8)).take 8).map byteV) := by
        have h := hSr.drop' (16 * k + 8) sc (by rw [List.length_map]; omega)
        rw [if_neg (by omega), Option.map_some, add_plain] at h
        have h2 := h.take' 8
        rw [← List.map_drop, ← List.map_take] at h2
        exact h2
      have hgs : gS < w.heap.size := by
        obtain ⟨_, _, e, h, _⟩ := HB.out.byte (l := sig) (i := 0) (by omega)
        cases e
        exact h
      have hLS := locks_succ ks0 d sig k
      have HX := Lib.hid (And.intro hown (And.intro hbel (And.intro c8 (And.intro c9 hLS))))
      clear hown hbel c8 c9 hLS hSr hbw
      have R1 : Row8 ((short ks0 2 [(sig.drop (16 * k)).take 8]).map byteV).toArray (short ks0 2 [(sig.drop (16 * k)).take 8]) := ⟨rfl, short_len _ _ _⟩
      have hl8 : ((sig.drop (16 * k)).take 8).length = 8 := by simp; omega
      have hl9 : ((sig.drop (16 * k + 8)).take 8).length = 8 := by simp; omega
      have HL : Hid (∀ W, Cs W (some ⟨gS, oS + 16 * k, none⟩) (((sig.drop (16 * k)).take 8).map byteV) → Calls Tryz.prog 27 #[.slice (some ⟨gS, oS + 16 * k, none⟩) 8 (sc - 16 * k)] W fun e w' => e = .returned (.agg ((short ks0 2 [(sig.drop (16 * k)).take 8]).map byteV).toArray) ∧ Below W.heap.size W w') := Lib.hid (fun W h => by
        have h2 := LockR (some ⟨gS, oS + 16 * k, none⟩) (sc - 16 * k) ((sig.drop (16 * k)).take 8) W h (by omega)
        rw [hl8] at h2
        exact h2)
      have HLS : Hid (cell16 ks0 d sig k = if bitN d k = 0 then short ks0 2 [(sig.drop (16 * k)).take 8] ++ (sig.drop (16 * k + 8)).take 8 else (sig.drop (16 * k + 8)).take 8 ++ short ks0 2 [(sig.drop (16 * k)).take 8]) := Lib.hid rfl
      generalize short ks0 2 [(sig.drop (16 * k)).take 8] = s1 at *
      generalize (sig.drop (16 * k)).take 8 = x8 at *
      generalize (sig.drop (16 * k + 8)).take 8 = x9 at *
      generalize hc1 : (s1.map byteV).toArray = c1 at *
      have m1 : IntKind.i64.wrap (16 * (k : Int)) = 16 * (k : Int) := by rw [IntKind.wrap_i64]; omega
      have m2 : IntKind.i64.wrap (16 * (k : Int) + 8) = 16 * (k : Int) + 8 := by rw [IntKind.wrap_i64]; omega
      have m3 : IntKind.i64.wrap (16 * (k : Int) + 16) = 16 * (k : Int) + 16 := by rw [IntKind.wrap_i64]; omega
      have HM := Lib.hid (And.intro m1 (And.intro m2 m3))
      have HR1 := Lib.hid R1
      have HH8 := Lib.hid (And.intro hl8 hl9)
      clear hc1 m1 m2 m3 R1 hl8 hl9
      go_wp2_with fail
      refine wp_region_dep (by kernel_rfl) (by kernel_rfl) (fun i j => i == 17 && j == 16) (by kernel_rfl)
        (fun i W W' => if i = 17 then ∃ g, wr.heap.size ≤ g ∧ Kept (fun k => k = g) W W' ∧ (∃ cs, W.heap[g]? = some (.cells cs 23 (0, 0))) else Ext W W')
        (fun W => Below wr.heap.size wr W)
        (fun i vals W => match i with
          | 0 => vals 0 = .slice (some ⟨gS, oS, none⟩) 512 sc
          | 1 => vals 1 = .int .i64 (k : Int)
          | 2 => vals 2 = .int .i64 ((16 * k : Nat) : Int)
          | 3 => vals 3 = .int .i64 (k : Int)
          | 4 => vals 4 = .int .i64 ((16 * k : Nat) : Int)
          | 5 => vals 5 = .int .i64 ((16 * k + 8 : Nat) : Int)
          | 6 => vals 6 = .slice (some ⟨gS, oS + 16 * k, none⟩) 8 (sc - 16 * k)
          | 7 => vals 7 = .agg c1
          | 8 => vals 8 = .slice (some ⟨gS, oS, none⟩) 512 sc
          | 9 => vals 9 = .int .i64 (k : Int)
          | 10 => vals 10 = .int .i64 ((16 * k : Nat) : Int)
          | 11 => vals 11 = .int .i64 ((16 * k + 8 : Nat) : Int)
          | 12 => vals 12 = .int .i64 (k : Int)
          | 13 => vals 13 = .int .i64 ((16 * k : Nat) : Int)
          | 14 => vals 14 = .int .i64 ((16 * k + 16 : Nat) : Int)
          | 15 => vals 15 = .slice (some ⟨gS, oS + (16 * k + 8), none⟩) 8 (sc - (16 * k + 8))
          | 16 => ∃ g, vals 16 = .pointer (some ⟨g, 0, none⟩) ∧ wr.heap.size ≤ g ∧ W.heap[g]? = some (.cells z8 23 (0, 0))
          | 17 => ∃ g, vals 16 = .pointer (some ⟨g, 0, none⟩) ∧ wr.heap.size ≤ g ∧ W.heap[g]? = some (.cells c1 23 (0, 0))
          | 18 => vals 18 = .slice (some ⟨gS, oS + (16 * k + 8), none⟩) 8 (sc - (16 * k + 8))
          | _ => True) ?_ (fun _ => True) (fun _ => false) trivial (fun _ _ _ _ _ _ _ => trivial) ?_ ?_ ?_ ?_ ?_
      · intro j vals i v W hij hw hR
        rcases j with _ | _ | _ | _ | _ | _ | _ | _ | _ | _ | _ | _ | _ | _ | _ | _ | _ | _ | _ | j
        all_goals first
          | trivial
          | (simpa [hij, Ne.symm hij] using hR; done)
          | skip
        all_goals
          have h3 : ¬ 16 = i := fun h => by
            subst h
            exact absurd (hw.symm.trans (by kernel_rfl) : false = true) (by decide)
          simpa [h3] using hR
      · exact ⟨rfl, rfl, rfl, Nat.le_refl _, fun _ _ => rfl⟩
      · intro i W W' hC hT
        by_cases h4 : i = 17
        · simp only [h4, if_true] at hT
          obtain ⟨g, h2, h3, _⟩ := hT
          exact hC.trans (h3.below hC.size (fun k hk h => by omega))
        · simp only [h4, if_false] at hT
          exact hC.trans (hT.mono hC.size)
      · intro i j vals W W' hij hk hw hC hR hT
        by_cases h4 : i = 17
        · subst h4
          rcases j with _ | _ | _ | _ | _ | _ | _ | _ | _ | _ | _ | _ | _ | _ | _ | _ | _ | _ | _ | j
          all_goals first
            | exact hR
            | (exact absurd rfl hij)
            | (cases hk)
        · simp only [h4, if_false] at hT
          rcases j with _ | _ | _ | _ | _ | _ | _ | _ | _ | _ | _ | _ | _ | _ | _ | _ | _ | _ | _ | j
          all_goals first
            | exact hR
            | (obtain ⟨g, h5, h6, h7⟩ := hR; exact ⟨g, h5, h6, (hT.block _ (lt_block h7)).trans h7⟩)
      · intro i o hio vals W hC haf _
        have q8 := Cs.below HX.out.2.2.1 hC
        rcases i with _ | _ | _ | _ | _ | _ | _ | _ | _ | _ | _ | _ | _ | _ | _ | _ | _ | _ | _ | i
        all_goals first
          | (exfalso; simp at hio; done)
          | skip
        all_goals
          simp at hio
          subst hio
          simp [bindD, rdB, Region.binds] at haf
        all_goals first
          | (simp [opYield_def, yieldUpon, relAct, dstAt, Act.put, Region.wanted, go_sem, haf, Ext.refl, HM.out.1, HM.out.2.1, HM.out.2.2]; done)
          | skip
        · refine yield_sliceM rfl (.tmp 21) (.tmp 23) (.tmp 26) rfl (p := ⟨gS, oS, none⟩) (n := 512) (c := sc) (i := 16 * k) (j := 16 * k + 8) (I := 16 * (k : Int)) (J := 16 * (k : Int) + 8) ?_ ?_ ?_ (by omega) (by omega) (by omega) (by omega) (by omega) ?_
          · simp [relAct, dstAt, Act.put, Act.eval, haf]
          · simp [relAct, dstAt, Act.put, Act.eval, haf]
          · simp [relAct, dstAt, Act.put, Act.eval, haf]
          · exact ⟨Below.refl _ _, by simp [add_plain]⟩
        · simp [opYield_def, yieldUpon, relAct, dstAt, Act.put, Region.wanted, go_sem, haf]
          refine (HL.out W q8).mono fun e W' h => ?_
          exact ⟨h.1, h.2⟩
        · refine yield_sliceM rfl (.tmp 29) (.tmp 32) (.tmp 35) rfl (p := ⟨gS, oS, none⟩) (n := 512) (c := sc) (i := 16 * k + 8) (j := 16 * k + 16) (I := 16 * (k : Int) + 8) (J := 16 * (k : Int) + 16) ?_ ?_ ?_ (by omega) (by omega) (by omega) (by omega) (by omega) ?_
          · simp [relAct, dstAt, Act.put, Act.eval, haf]
          · simp [relAct, dstAt, Act.put, Act.eval, haf]
          · simp [relAct, dstAt, Act.put, Act.eval, haf]
          · exact ⟨Below.refl _ _, by simp [add_plain]⟩
        · simp [opYield_def, yieldUpon, relAct, dstAt, Act.put, Region.wanted, go_sem]
          exact ⟨(Below.refl _ _).alloc (Nat.le_refl _) _, hC.size, by simp only [World.alloc, Array.getElem_push_eq]; rfl⟩
        · obtain ⟨⟨g, h5, h6, h7⟩, h8⟩ := haf
          refine yield_store rfl rfl (g := g) (cells := c1) (old := z8) (t := 23) ?_ ?_ h7 HR1.out.info HR1.out.old HR1.out.all ?_
          · simp [relAct, dstAt, Act.put, Act.eval, h5]
          · simp [relAct, dstAt, Act.put, Act.eval, h8]
          have hblk := setRow_heap W g z8 c1 _ _ h7
          exact ⟨⟨g, h6, (Kept.of_grown (setRow_grown W g c1)).mono (fun k _ h => by cases h; rfl), z8, h7⟩, g, by simpa using h5, h6, hblk⟩
      · intro vals W hE hR
        have h17 := hR 17 (by show 17 < 19; omega) (fun i hi => by simp)
        have h18 := hR 18 (by show 18 < 19; omega) (fun i hi => by simp)
        obtain ⟨g, h16, hgB, hgb⟩ := h17
        have h18 : vals 18 = .slice (some ⟨gS, oS + (16 * k + 8), none⟩) 8 (sc - (16 * k + 8)) := h18
        have HG := Lib.hid (And.intro hgb (And.intro hgB (own_below HX.out.1 hE)))
        have q9 := Cs.below HX.out.2.2.2.1 hE
        simp [relAct, dstAt, Act.put]
        rw [h16, h18]
        clear hR h16 h18 hgb
        generalize vals 0 = y0 at *
        generalize vals 1 = y1 at *
        generalize vals 2 = y2 at *
        generalize vals 3 = y3 at *
        generalize vals 4 = y4 at *
        generalize vals 5 = y5 at *
        generalize vals 6 = y6 at *
        generalize vals 7 = y7 at *
        generalize vals 8 = y8 at *
        generalize vals 9 = y9 at *
        generalize vals 10 = y10 at *
        generalize vals 11 = y11 at *
        generalize vals 12 = y12 at *
        generalize vals 13 = y13 at *
        generalize vals 14 = y14 at *
        generalize vals 15 = y15 at *
        generalize vals 16 = y16 at *
        generalize vals 17 = y17 at *
        generalize vals 18 = y18 at *
        have hR8 := HR1.out
        have hcl := row8_cs hR8 HG.out.1
        have hoW := HG.out.2.2
        have hBW : w.heap.size + 1 ≤ W.heap.size := Nat.le_trans hB0 hE.size
        have hl9 := HH8.out.2
        rcases hv2 with hv | hv
        · rw [hv] at hbit
          go_wp2_with (first
            | (at_builtin; (refine wpList_bytes hoW hBW hcl rfl (.tmp 43) (.tmp 44) Tryz.underlying28 rfl rfl (by rw [hR8.len]; rfl) (by rw [hR8.len]; omega) ?_; intro v3 w3 hown3 hbw3; have q93 := Kept.cs q9 (Kept.of_below hbw3) (fun a ha _ h => by cases ha; exact absurd h (by show ¬ (w.heap.size + 1 ≤ gS); omega)); have hB3 := Nat.le_trans hBW hbw3.size))
            | (at_builtin; refine wpList_bytes hown3 hB3 q93 rfl (.tmp 45) (.tmp 46) Tryz.underlying28 rfl rfl (by rw [hl9]; rfl) (by rw [hl9, hR8.len]; omega) ?_; intro v4 w4 hown4 hbw4))
          refine ⟨⟨k + 1, by omega, by go_num, ?_, ((HX.out.2.1.trans (Below.mono hE hB0)).trans hbw3).trans hbw4⟩, by simp [intOf]; omega⟩
          have hc16 := HLS.out
          rw [hv, if_pos rfl] at hc16
          rw [HX.out.2.2.2.2, hc16]
          rw [hR8.len, hl9, List.append_assoc] at hown4
          exact hown4
        · rw [hv] at hbit
          go_wp2_with fail
          have hgW : g < W.heap.size := lt_block HG.out.1
          have hSW : gS < W.heap.size := by omega
          have hob : ∀ b, u7.ownBlock = some b → w.heap.size + 1 ≤ b ∧ b < wr.heap.size := fun b hb => HX.out.1.lt b hb
          have hgB := HG.out.2.1
          have HS0 : Hid (∀ b, (u7.ownBlock = some b ∨ W.heap.size ≤ b) → b ≠ gS ∧ b ≠ g) := Lib.hid (fun b hb => by
            rcases hb with hb | hb
            · have := hob b hb
              omega
            · omega)
          have HOB := Lib.hid hob
          have HQ := Lib.hid (And.intro q9 hcl)
          have hE0 := hE
          have hl8 := hR8.len
          have HLC := Lib.hid (And.intro hl9 hl8)
          have hl9' := hl9
          clear q9 hcl hob hl8
          have hc16 := HLS.out
          rw [hv, if_neg (by decide)] at hc16
          have hlk := HX.out.2.2.2.2
          rw [hc16] at hlk
          have HLK := Lib.hid hlk
          clear hlk hc16
          generalize locks ks0 d sig k = xs at *
          have hl8 := HLC.out.2
          refine Nm.wp_region_r2 (by kernel_rfl) (by kernel_rfl) (fun i j => i == 4 && j == 2) (by kernel_rfl) (fun i U U' => if i = 2 ∨ i = 4 then Kept (fun b => u7.ownBlock = some b ∨ W.heap.size ≤ b) U U' else U' = U)
            (fun U => Kept (fun b => u7.ownBlock = some b ∨ W.heap.size ≤ b) W U)
            (fun j v U => match j with
              | 0 => v = u7
              | 1 => v = .slice (some ⟨gS, oS + (16 * k + 8), none⟩) 8 (sc - (16 * k + 8))
              | 2 => U.ownsRow (w.heap.size + 1) 5 1 v (16 * k + 8) ((xs ++ x9).map byteV) ∧ ∀ b, v.ownBlock = some b → u7.ownBlock = some b ∨ W.heap.size ≤ b
              | 3 => v = .slice (some ⟨g, 0, none⟩) 8 8
              | 4 => U.ownsRow (w.heap.size + 1) 5 1 v (16 * k + 8 + 8) ((xs ++ x9 ++ s1).map byteV)
              | 5 => U.ownsRow (w.heap.size + 1) 5 1 v (16 * k + 8 + 8) ((xs ++ x9 ++ s1).map byteV)
              | _ => True) (fun U => U.ownsRow (w.heap.size + 1) 5 1 u7 (16 * k) (xs.map byteV)) (fun i => i == 2 || i == 4) hoW ?_ ((Kept.refl _ _).drew) ?_ ?_ ?_ ?_
          · intro i U U' h1 _ h3 h4
            have hi2 : ¬ (i = 2 ∨ i = 4) := by simpa using h1
            rw [if_neg hi2] at h4
            rw [h4]
            exact h3
          · intro i U U' h1 h2
            by_cases hi2 : i = 2 ∨ i = 4
            · rw [if_pos hi2] at h2
              exact h1.trans h2
            · rw [if_neg hi2] at h2
              rw [h2]
              exact h1
          · intro i j v U U' hij hk0 hwt hC hR hT
            by_cases hi2 : i = 2 ∨ i = 4
            · rcases j with _ | _ | _ | _ | _ | _ | j
              · exact hR
              · exact hR
              · exfalso
                rcases hi2 with rfl | rfl
                · exact hij rfl
                · simp at hk0
              · exact hR
              · exfalso
                rcases hi2 with rfl | rfl
                · exact absurd (hwt.symm.trans (by kernel_rfl) : false = true) (by decide)
                · exact hij rfl
              · exfalso
                rcases hi2 with rfl | rfl
                · exact absurd (hwt.symm.trans (by kernel_rfl) : false = true) (by decide)
                · exact absurd (hwt.symm.trans (by kernel_rfl) : false = true) (by decide)
              · trivial
            · rw [if_neg hi2] at hT
              rw [hT]
              exact hR
          · intro i o hio vals U hC haf hI0
            have hBU : w.heap.size + 1 ≤ U.heap.size := Nat.le_trans hBW hC.size
            have q1 : Cs U (some ⟨gS, oS + (16 * k + 8), none⟩) (x9.map byteV) := Kept.cs HQ.out.1 hC (fun a ha _ e => by cases ha; exact (HS0.out _ e).1 rfl)
            have q3 : Cs U (some ⟨g, 0, none⟩) (s1.map byteV) := Kept.cs HQ.out.2 hC (fun a ha _ e => by cases ha; exact (HS0.out _ e).2 rfl)
            rcases i with _ | _ | _ | _ | _ | _ | i
            all_goals first
              | (exfalso; simp at hio; done)
              | skip
            all_goals
              simp at hio
              subst hio
              simp [bindD, rdB, Region.binds] at haf
            · simp [opYield_def, yieldUpon, relAct, dstAt, Act.put, Region.wanted, go_sem]
            · simp [opYield_def, yieldUpon, relAct, dstAt, Act.put, Region.wanted, go_sem]
            · obtain ⟨h0, h1⟩ := haf
              have hI := hI0 (fun k hk hk2 => by
                by_cases h2 : k = 2
                · exact .inl h2
                · by_cases h4 : k = 4
                  · subst h4; exact .inr (by kernel_rfl)
                  · exfalso; simp [h2, h4] at hk2)
              refine yield_bytesM rfl (.tmp 48) (.tmp 49) Tryz.underlying28 rfl (v := u7) (us := x9.map byteV) (by simp [relAct, dstAt, Act.put, Act.eval, h0]) hI hBU (b := ⟨gS, oS + (16 * k + 8), none⟩) (c := sc - (16 * k + 8)) (by simp [relAct, dstAt, Act.put, Act.eval, h1, hl9']) q1 (by simp [byteV, Value.oneCell']) (by simp [hl9']; omega) ?_
              intro v' U' g1 g2
              refine ⟨?_, ?_, ?_⟩
              · rw [if_pos (.inl rfl)]
                exact g2.kept.mono (fun b hb e => .inl e.symm)
              · rw [List.length_map, hl9', ← List.map_append] at g1
                exact g1
              · intro b hb
                rcases g2.at_ b hb with h | h
                · exact .inl h
                · exact .inr (Nat.le_trans hC.size h)
            · simp [opYield_def, yieldUpon, relAct, dstAt, Act.put, Region.wanted, go_sem]
            · obtain ⟨h2, h3⟩ := haf
              refine yield_bytesM rfl (.tmp 50) (.tmp 51) Tryz.underlying28 rfl (v := vals 2) (n := 16 * k + 8) (xs := (xs ++ x9).map byteV) (us := s1.map byteV) (by simp [relAct, dstAt, Act.put, Act.eval]) (by simpa using h2.1) hBU (b := ⟨g, 0, none⟩) (c := 8) (by simp [relAct, dstAt, Act.put, Act.eval, h3, hl8]) q3 (by simp [byteV, Value.oneCell']) (by simp [hl8]; omega) ?_
              intro v' U' g1 g2
              refine ⟨?_, ?_⟩
              · rw [if_pos (.inr rfl)]
                exact g2.kept.mono (fun b hb e => h2.2 b e.symm)
              · rw [List.length_map, hl8, ← List.map_append] at g1
                exact g1
            · simp [opYield_def, yieldUpon, relAct, dstAt, Act.put, Region.wanted, go_sem]
              simpa using haf
          · intro vals U hC hR
            have h5 := hR 5 (by show 5 < 6; omega) (fun i hi => by simp)
            have h5 : U.ownsRow (w.heap.size + 1) 5 1 (vals 5) (16 * k + 8 + 8) ((xs ++ x9 ++ s1).map byteV) := h5
            have hEB : Below (w.heap.size + 1) W U := hC.below hBW (fun b hb h => by
              rcases h with h | h
              · have := (HOB.out b h).1
                omega
              · omega)
            have hN : OpnRR ks0 d sig (w.heap.size + 1) V (vals 5) (.int .i64 ((k : Int) + 1)) U := by
              refine ⟨k + 1, by omega, by go_num, ?_, (HX.out.2.1.trans (Below.mono hE0 hB0)).trans hEB⟩
              rw [HLK.out, show 16 * (k + 1) = 16 * k + 8 + 8 from by omega, ← List.append_assoc]
              exact h5
            have HN := Lib.hid hN
            clear hR hN h5 hEB
            simp [relAct, dstAt, Act.put]
            generalize vals 0 = z0 at *
            generalize vals 1 = z1 at *
            generalize vals 2 = z2 at *
            generalize vals 3 = z3 at *
            generalize vals 4 = z4 at *
            generalize vals 5 = z5 at *
            go_wp2_with fail
            refine ⟨?_, by simp [intOf]; omega⟩
            first
              | exact HN.out
              | ((repeat apply Exists.intro); exact ⟨HN.out, rfl⟩)
    · have hk32 : k = 32 := by omega
      subst hk32
      have hl64 : (locks ks0 d sig 32).length = 512 := locks_len ks0 d sig hsl 32 (Nat.le_refl _)
      obtain ⟨A3, c3, rfl, _, h3c⟩ := Cs.of_own hown
      have hB0 : w.heap.size + 1 ≤ wr.heap.size := Nat.le_trans hV hbel.size
      have hbw : Below w.heap.size w wr := HV.out.1.trans (hbel.mono (Nat.le_succ _))
      have hzr : wr.heap[w.heap.size]? = some (.cells z8 23 (0, 0)) := (hbel.block _ (Nat.lt_succ_self _)).trans HV.out.2
      have hbz : Below wr.heap.size wr (wr.alloc (.cells #[.slice A3 512 c3] 28)) := (Below.refl _ _).alloc (Nat.le_refl _) _
      have hs1 := heap_alloc_new wr (.cells #[.slice A3 512 c3] 28)
      have hll := lp_len (locks ks0 d sig 32)
      have HOO := HO.out
      generalize locks ks0 d sig 32 = L at *
      have hcs : Cs (wr.alloc (.cells #[.slice A3 512 c3] 28)) (some ⟨wr.heap.size, 0, none⟩) ([(⟨A3, L, c3⟩ : Blob)].map Blob.v) := by
        intro i u hu
        refine ⟨_, _, rfl, lt_block hs1, ?_⟩
        rw [Nat.zero_add, cell_of_row _ _ _ _ _ _ hs1]
        simp [Blob.v, hl64] at hu ⊢
        exact hu
      have hS := ShortR 3 3 rfl (some ⟨wr.heap.size, 0, none⟩) 1 1 [(⟨A3, L, c3⟩ : Blob)] rfl _ hcs (by
        intro b hb
        obtain rfl : b = ⟨A3, L, c3⟩ := by simpa using hb
        exact Cs.below h3c hbz) (by simp) (by simp [parts]; omega)
      have R : Row8 ((short ks0 3 ([(⟨A3, L, c3⟩ : Blob)].map (·.l))).map byteV).toArray (opn ks0 msg sig) := ⟨by rw [HOO]; rfl, by rw [HOO]; exact short_len _ _ _⟩
      generalize ((short ks0 3 ([(⟨A3, L, c3⟩ : Blob)].map (·.l))).map byteV).toArray = c at *
      have HS := Lib.hid hS
      have HZ0 := Lib.hid (And.intro hzr (And.intro hbw hbz))
      have hzs := lt_block hzr
      clear hS hcs hs1 hbz hzr hbw hown hbel h3c HOO hll hl64
      go_wp2_with fail
      refine HS.out.mono ?_
      rintro e w2 ⟨rfl, hb2⟩
      have hb3 : Below wr.heap.size wr w2 := HZ0.out.2.2.trans (hb2.mono HZ0.out.2.2.size)
      have hz2 := (hb3.block _ hzs).trans HZ0.out.1
      have HZ := Lib.hid hz2
      have hbw2 := HZ0.out.2.1.trans (hb3.mono HZ0.out.2.1.size)
      clear hz2 hb3 hb2 HZ0
      go_wp2_with (first
        | (refine wpList_store_row rfl 23 (.tmp 4) (.tmp 55) rfl w.heap.size c rfl rfl 23 z8 HZ.out R.info R.old R.all ?_))
      have hrb := setRow_heap w2 w.heap.size _ c _ _ HZ.out
      have hbE : Below w.heap.size w (w2.setRow w.heap.size c) := hbw2.trans ⟨rfl, rfl, rfl, by simp, fun k hk => setRow_other w2 w.heap.size k _ (by omega)⟩
      generalize w2.setRow w.heap.size c = wE at *
      have hrg : wE.rangeAt w.heap.size 0 c.toList := fun j v hj => by
        rw [Nat.zero_add, cell_of_row _ _ _ _ _ _ hrb]
        simpa using hj
      have hld := run_loadVar_mid (P := Tryz.prog) wE w.heap.size 0 23 c.toList (.array 8 5) hrg Tryz.underlying23 rfl (by rw [Array.length_toList]; exact R.info)
      rw [Array.toArray_toList] at hld
      refine bodyPost_ret (v := .tuple #[.agg c, .bool true]) ?_ rfl ⟨by rw [R.eq], hbE⟩
      rw [results_cell_tmp rfl]
      simp [asAddr, Sem.run_pure, Result.andThen_ok, hld]
end W
end Go.Proofs.YthogembgndkmpaaGreatDoor

/- signetref7.Verify, at height 2. (Printed by a program.) -/
namespace Go.Proofs.YthogembgndkmpaaGreatDoor
open Go.RowKit
namespace W
theorem get_word (sig : List UInt8) (h : 3 < sig.length) : getU (sig.take 4) = word sig 0 := by
  have e : sig.take 4 = [sig[0], sig[1], sig[2], sig[3]] := by
    match sig, h with
    | a :: b :: c :: d :: r, _ => rfl
  rw [e, getU4, word_first sig h]
theorem wpList_sliceM {ops : Array Oper} {rest : List Oper} {o : Oper} {a : Act} {w : World} {Q : Exit → Act → World → Prop} (hgd : o.guard = none) (x lo hi : Operand) (ho : o.op = .slice 28 x (some lo) (some hi) none) {p : Addr} {n c i j : Nat}
    (hx : a.eval x = .slice (some p) n c) {I J : Int} (hlo : a.eval lo = .int .i64 I) (hhi : a.eval hi = .int .i64 J) (hI : I = (i : Int)) (hJ : J = (j : Int)) (h1 : i ≤ j) (h2 : j ≤ c) (h3 : i < c) (h : wpList Tryz.prog ops Q rest (a.put o.dst (.slice (some (p.add i)) (j - i) (c - i))) w) : wpList Tryz.prog ops Q (o :: rest) a w := by
  refine wpList_plain hgd fun K hK => ?_
  have hs := slice_mid p n c i j I J hI hJ h1 h2 h3 w
  unfold Oper.wp execOp
  simp only [ho, hx, hlo, hhi, Sem.run_bind, Sem.run_pure, Result.andThen_ok, Option.map_some, Option.map_none, hs]
  exact hK _ _ h
def RVerR (sig x0 : List UInt8) (l0 : Nat) (V : World) (gN : Nat) (v12 : Value) (wr : World) : Prop := ∃ (j : Nat) (x : List UInt8), j ≤ 2 ∧ v12 = .int .i64 (j : Int) ∧ x.length = 8 ∧ wr.heap[gN]? = some (.cells (x.map byteV).toArray 23 (0, 0)) ∧
  climb ks0 2 l0 x0 (sig.drop 516) = climb ks0 (2 - j) (l0 / 2 ^ j) x (sig.drop (516 + 8 * j)) ∧ Kept (fun k => k = gN) V wr
theorem andJ (n j : Nat) (h : n < 4294967296) : bits .and .u32 ((n : Int) / 2 ^ j) 1 = ((n / 2 ^ j % 2 : Nat) : Int) := by
  have e : ((n : Int) / 2 ^ j) = ((n / 2 ^ j : Nat) : Int) := by push_cast; rfl
  rw [e, and1 _ (Nat.lt_of_le_of_lt (Nat.div_le_self _ _) h)]
set_option maxRecDepth 100000 in
set_option maxHeartbeats 20000000 in
theorem RVerifyT (A S R : Option Addr) (cap sc rc : Nat) (root msg sig : List UInt8) (w : World) (hb : Cs w A (msg.map byteV)) (hbl : msg.length ≤ 1000000)
    (hS : Cs w S (sig.map byteV)) (hsl : sig.length = 532) (hsc : 532 ≤ sc) (hR : Cs w R (root.map byteV)) (hrl : root.length = 8) (hrc : 8 ≤ rc) :
    Calls Tryz.prog 40 #[.slice R 8 rc, .int .i64 2, .slice A msg.length cap, .slice S 532 sc] w fun e w' => e = .returned (.bool (verT ks0 root 2 msg sig)) ∧ Below w.heap.size w w' := by
  obtain ⟨gS, oS, rfl, hgS, hx0⟩ := hS.byte (l := sig) (i := 0) (by omega)
  clear hx0
  obtain ⟨gR, oR, rfl, hgR, hx0⟩ := hR.byte (l := root) (i := 0) (by omega)
  clear hx0
  have b516 : (516 : Int) ≤ (sc : Int) := by omega
  have b4 : ¬ sc = 4 := by omega
  have b5 : ¬ sc = 516 := by omega
  have b4' : (4 : Int) ≤ (sc : Int) := by omega
  have hG : Calls Tryz.prog 51 #[.slice (some ⟨gS, oS, none⟩) 4 sc] w fun e w' => e = .returned (.int .u32 ((word sig 0).toNat : Int)) ∧ w' = w := by
    have h1 := hS.take' 4
    rw [← List.map_take] at h1
    have h2 := GetR (some ⟨gS, oS, none⟩) sc (sig.take 4) w h1 (by simp; omega)
    rw [get_word sig (by omega), show (sig.take 4).length = 4 from by simp; omega] at h2
    exact h2
  have hs1 : ((sig.drop 4).take 512).length = 512 := by simp; omega
  have hcs : Cs w (some ⟨gS, oS + 4, none⟩) (((sig.drop 4).take 512).map byteV) := by
    have g := hS.drop' 4 sc (by rw [List.length_map]; omega)
    rw [if_neg b4, Option.map_some, add_plain] at g
    have g2 := g.take' 512
    rw [← List.map_drop, ← List.map_take] at g2
    exact g2
  have hOp := OpenR A (some ⟨gS, oS + 4, none⟩) cap (sc - 4) msg ((sig.drop 4).take 512) w hb hbl hcs hs1 (by omega)
  rw [hs1] at hOp
  have HO := Lib.hid (And.intro hG (And.intro hOp (And.intro hS hR)))
  clear hG hOp hcs hs1 hb hS hR
  go_enter Tryz.func40, Tryz.ntmps40
  go_wp2_with fail
  refine HO.out.1.mono ?_
  rintro e w0 ⟨rfl, rfl⟩
  have hwl := (word sig 0).toNat_lt
  by_cases hlf : (word sig 0).toNat < 4
  · have HD : Hid (verT ks0 root 2 msg sig = (climb ks0 2 (word sig 0).toNat (opn ks0 msg ((sig.drop 4).take 512)) (sig.drop 516) == root)) := Lib.hid (by unfold verT; rw [decide_eq_true (show (word sig 0).toNat / 2 ^ 2 = 0 by omega), Bool.true_and])
    have R8 : Row8 ((opn ks0 msg ((sig.drop 4).take 512)).map byteV).toArray (opn ks0 msg ((sig.drop 4).take 512)) := ⟨rfl, short_len _ _ _⟩
    have HOp := Lib.hid HO.out.2.1
    have HSR := Lib.hid HO.out.2.2
    clear HO
    generalize (word sig 0).toNat = n0 at *
    generalize opn ks0 msg ((sig.drop 4).take 512) = x0 at *
    generalize hcc : (x0.map byteV).toArray = c0 at *
    have HC := Lib.hid hcc
    have hlfi : ¬ (4 : Int) ≤ (n0 : Int) := by omega
    clear hcc
    go_wp2_with fail
    refine HOp.out.mono ?_
    rintro e w1 ⟨rfl, hb1⟩
    have hz : (w1.alloc (.cells z8 23)).heap[w1.heap.size]? = some (.cells z8 23 (0, 0)) := heap_alloc_new w1 _
    have hbz : Below w1.heap.size w1 (w1.alloc (.cells z8 23)) := (Below.refl _ _).alloc (Nat.le_refl _) _
    have hrb := setRow_heap (w1.alloc (.cells z8 23)) w1.heap.size _ c0 _ _ hz
    have hbr : Below w1.heap.size w1 ((w1.alloc (.cells z8 23)).setRow w1.heap.size c0) := hbz.trans ⟨rfl, rfl, rfl, by simp, fun k hk => setRow_other (w1.alloc (.cells z8 23)) w1.heap.size k _ (by omega)⟩
    have HX := Lib.hid (And.intro hz (And.intro hrb (hb1.trans (hbr.mono hb1.size))))
    have hw1 : w0.heap.size ≤ w1.heap.size := hb1.size
    clear hz hbz hrb hbr hb1 HOp
    go_wp2_with (first
      | (refine wpList_store_row rfl 23 (.tmp 10) (.tmp 46) rfl w1.heap.size c0 rfl (by kernel_rfl) 23 z8 HX.out.1 R8.info R8.old R8.all ?_; change wpList _ _ _ _ _ ((w1.alloc (.cells z8 23)).setRow w1.heap.size c0); have HV := Lib.hid HX.out.2; clear HX; generalize (w1.alloc (.cells z8 23)).setRow w1.heap.size c0 = V at *))
    have hgV : w1.heap.size < V.heap.size := lt_block HV.out.1
    generalize w1.heap.size = gN at *
    go_loopw [12, 13, 14] (fun v12 _ _ wr => RVerR sig x0 n0 V gN v12 wr) (fun v12 _ _ _ => 2 - (intOf v12).toNat)
    case atStart => exact ⟨0, x0, Nat.zero_le _, rfl, R8.len, by rw [HC.out]; exact HV.out.1, by simp, Kept.refl _ _⟩
    case round =>
      obtain ⟨j, x, hj, rfl, hxl, hrow, hcl, hkp⟩ := hrel
      have hbw : Below w0.heap.size w0 wr := HV.out.2.trans (hkp.below HV.out.2.size (fun k hk e => by omega))
      have hgr : gN < wr.heap.size := lt_block hrow
      by_cases hlt : j < 2
      · have hS8 : (((sig.drop (516 + 8 * j)).take 8).map byteV).length = 8 := by simp; omega
        have hcw : Cs wr (some ⟨gS, oS + (516 + 8 * j), none⟩) (((sig.drop (516 + 8 * j)).take 8).map byteV) := by
          have g := (HSR.out.1.below hbw).drop' (516 + 8 * j) sc (by rw [List.length_map]; omega)
          rw [if_neg (by omega), Option.map_some, add_plain] at g
          have g2 := g.take' 8
          rw [← List.map_drop, ← List.map_take] at g2
          exact g2
        have hcl2 : climb ks0 (2 - j) (n0 / 2 ^ j) x (sig.drop (516 + 8 * j)) = climb ks0 (2 - (j + 1)) (n0 / 2 ^ (j + 1)) (if n0 / 2 ^ j % 2 = 0 then short ks0 4 [x, (sig.drop (516 + 8 * j)).take 8] else short ks0 4 [(sig.drop (516 + 8 * j)).take 8, x]) (sig.drop (516 + 8 * (j + 1))) := by
          rw [show 2 - j = (2 - (j + 1)) + 1 from by omega]
          show climb ks0 (2 - (j + 1)) (n0 / 2 ^ j / 2) _ ((sig.drop (516 + 8 * j)).drop 8) = _
          rw [List.drop_drop, show 516 + 8 * j + 8 = 516 + 8 * (j + 1) from by omega, Nat.div_div_eq_div_mul, Nat.pow_succ]
        rw [hcl2] at hcl
        have Rx : Row8 (x.map byteV).toArray x := ⟨rfl, hxl⟩
        have Rs : Row8 (((sig.drop (516 + 8 * j)).take 8).map byteV).toArray ((sig.drop (516 + 8 * j)).take 8) := ⟨rfl, by simpa using hS8⟩
        have hz : (wr.alloc (.cells z8 23)).heap[wr.heap.size]? = some (.cells z8 23 (0, 0)) := heap_alloc_new wr _
        have hbz : Below wr.heap.size wr (wr.alloc (.cells z8 23)) := (Below.refl _ _).alloc (Nat.le_refl _) _
        have HY := Lib.hid (And.intro hrow (And.intro hkp (And.intro hbw (And.intro hcl hcw))))
        clear hrow hkp hbw hcl hcw hcl2
        generalize (sig.drop (516 + 8 * j)).take 8 = s8 at *
        have hrb := setRow_heap (wr.alloc (.cells z8 23)) wr.heap.size _ (s8.map byteV).toArray _ _ hz
        have hbr : Below wr.heap.size wr ((wr.alloc (.cells z8 23)).setRow wr.heap.size (s8.map byteV).toArray) := hbz.trans ⟨rfl, rfl, rfl, by simp, fun k hk => setRow_other (wr.alloc (.cells z8 23)) wr.heap.size k _ (by omega)⟩
        have HX := Lib.hid (And.intro hz (And.intro hrb hbr))
        clear hz hbz hrb hbr
        generalize hxc : (x.map byteV).toArray = xc at *
        generalize hsc : (s8.map byteV).toArray = scc at *
        have hand := andJ n0 j hwl
        have HXC := Lib.hid (And.intro hxc hsc)
        clear hxc hsc
        have p1 : IntKind.i64.wrap (8 * (j : Int)) = 8 * (j : Int) := by rw [IntKind.wrap_i64]; omega
        have p2 : IntKind.i64.wrap (516 + 8 * (j : Int)) = 516 + 8 * (j : Int) := by rw [IntKind.wrap_i64]; omega
        have p3 : IntKind.i64.wrap (516 + 8 * (j : Int) + 8) = 516 + 8 * (j : Int) + 8 := by rw [IntKind.wrap_i64]; omega
        by_cases hpar : n0 / 2 ^ j % 2 = 0
        · have HCL := Lib.hid HY.out.2.2.2.1
          rw [if_pos hpar] at HCL
          rw [hpar] at hand
          have R2 : Row8 ((short ks0 4 [x, s8]).map byteV).toArray (short ks0 4 [x, s8]) := ⟨rfl, short_len _ _ _⟩
          have HR2 := Lib.hid (And.intro R2.info (And.intro R2.old R2.all))
          have hX1 := HY.out.1
          go_wp2_with (first
            | (refine wpList_sliceM rfl (.tmp 56) (.tmp 57) (.tmp 59) rfl (p := ⟨gS, oS, none⟩) (n := 532) (c := sc) (i := 516 + 8 * j) (j := 516 + 8 * j + 8) rfl rfl rfl (by omega) (by omega) (by omega) (by omega) (by omega) ?_; rw [add_plain, show 516 + 8 * j + 8 - (516 + 8 * j) = 8 from by omega]; refine wpList_at8 rfl (.tmp 60) rfl (some ⟨gS, oS + (516 + 8 * j), none⟩) 8 (sc - (516 + 8 * j)) rfl (Nat.le_refl _) (wpList_load_mid rfl 23 (.tmp 61) rfl gS (oS + (516 + 8 * j)) rfl (s8.map byteV) (.array 8 5) (Cs.range HY.out.2.2.2.2) Tryz.underlying23 rfl (by rw [hS8]; exact hi8) ?_))
            | (refine wpList_store_row rfl 23 (.tmp 14) (.tmp 62) rfl wr.heap.size (s8.map byteV).toArray rfl (by kernel_rfl) 23 z8 HX.out.1 (by rw [Rs.eq.symm]; exact Rs.info) (by rw [Rs.eq.symm]; exact Rs.old) (by rw [Rs.eq.symm]; exact Rs.all) ?_; rw [← Rs.eq]; change wpList _ _ _ _ _ ((wr.alloc (.cells z8 23)).setRow wr.heap.size scc); have hX2 := HX.out.2.1; have hX3 := HX.out.2.2; clear HX; generalize (wr.alloc (.cells z8 23)).setRow wr.heap.size scc = WX at *; replace hX1 := (hX3.block gN hgr).trans hX1)
            | (refine wpList_load_row rfl 23 (.tmp 10) rfl gN rfl 23 xc (0, 0) _ hX1 Tryz.underlying23 rfl Rx.info ?_)
            | (refine wpList_load_row rfl 23 (.tmp 14) rfl wr.heap.size rfl 23 scc (0, 0) _ hX2 Tryz.underlying23 rfl Rs.info ?_))
          have HX4 := Lib.hid (And.intro hX1 hX3)
          refine (UpR xc scc x s8 Rx Rs WX).mono ?_
          clear hX1 hX2 hX3
          rintro e w3 ⟨rfl, hb3⟩
          have hr3 := (hb3.block gN (Nat.lt_of_lt_of_le hgr HX4.out.2.size)).trans HX4.out.1
          have HR3 := Lib.hid (And.intro hr3 hb3)
          clear hr3 hb3
          go_wp2_with (first
            | (refine wpList_store_row rfl 23 (.tmp 10) (.tmp 70) rfl gN ((short ks0 4 [x, s8]).map byteV).toArray rfl rfl 23 _ HR3.out.1 HR2.out.1 (by rw [Rx.size, R2.size]) HR2.out.2.2 ?_))
          have hrE := setRow_heap w3 gN _ ((short ks0 4 [x, s8]).map byteV).toArray _ _ HR3.out.1
          have hkE : Kept (fun k => k = gN) V (w3.setRow gN ((short ks0 4 [x, s8]).map byteV).toArray) := by
            refine HY.out.2.1.trans ((((Kept.of_ext HX4.out.2).mono (fun _ _ h => h.elim)).trans (((Kept.of_ext HR3.out.2).mono (fun _ _ h => h.elim)))).trans ⟨rfl, rfl, rfl, by simp, fun k hk hne => setRow_other w3 gN k _ hne⟩)
          exact ⟨⟨j + 1, short ks0 4 [x, s8], hlt, by go_num, short_len _ _ _, hrE, HCL.out, hkE⟩, by simp [intOf]; omega⟩
        · have HCL := Lib.hid HY.out.2.2.2.1
          rw [if_neg hpar] at HCL
          rw [show n0 / 2 ^ j % 2 = 1 from by omega] at hand
          have R2 : Row8 ((short ks0 4 [s8, x]).map byteV).toArray (short ks0 4 [s8, x]) := ⟨rfl, short_len _ _ _⟩
          have HR2 := Lib.hid (And.intro R2.info (And.intro R2.old R2.all))
          have hX1 := HY.out.1
          go_wp2_with (first
            | (refine wpList_sliceM rfl (.tmp 56) (.tmp 57) (.tmp 59) rfl (p := ⟨gS, oS, none⟩) (n := 532) (c := sc) (i := 516 + 8 * j) (j := 516 + 8 * j + 8) rfl rfl rfl (by omega) (by omega) (by omega) (by omega) (by omega) ?_; rw [add_plain, show 516 + 8 * j + 8 - (516 + 8 * j) = 8 from by omega]; refine wpList_at8 rfl (.tmp 60) rfl (some ⟨gS, oS + (516 + 8 * j), none⟩) 8 (sc - (516 + 8 * j)) rfl (Nat.le_refl _) (wpList_load_mid rfl 23 (.tmp 61) rfl gS (oS + (516 + 8 * j)) rfl (s8.map byteV) (.array 8 5) (Cs.range HY.out.2.2.2.2) Tryz.underlying23 rfl (by rw [hS8]; exact hi8) ?_))
            | (refine wpList_store_row rfl 23 (.tmp 14) (.tmp 62) rfl wr.heap.size (s8.map byteV).toArray rfl (by kernel_rfl) 23 z8 HX.out.1 (by rw [Rs.eq.symm]; exact Rs.info) (by rw [Rs.eq.symm]; exact Rs.old) (by rw [Rs.eq.symm]; exact Rs.all) ?_; rw [← Rs.eq]; change wpList _ _ _ _ _ ((wr.alloc (.cells z8 23)).setRow wr.heap.size scc); have hX2 := HX.out.2.1; have hX3 := HX.out.2.2; clear HX; generalize (wr.alloc (.cells z8 23)).setRow wr.heap.size scc = WX at *; replace hX1 := (hX3.block gN hgr).trans hX1)
            | (refine wpList_load_row rfl 23 (.tmp 10) rfl gN rfl 23 xc (0, 0) _ hX1 Tryz.underlying23 rfl Rx.info ?_)
            | (refine wpList_load_row rfl 23 (.tmp 14) rfl wr.heap.size rfl 23 scc (0, 0) _ hX2 Tryz.underlying23 rfl Rs.info ?_))
          have HX4 := Lib.hid (And.intro hX1 hX3)
          refine (UpR scc xc s8 x Rs Rx WX).mono ?_
          clear hX1 hX2 hX3
          rintro e w3 ⟨rfl, hb3⟩
          have hr3 := (hb3.block gN (Nat.lt_of_lt_of_le hgr HX4.out.2.size)).trans HX4.out.1
          have HR3 := Lib.hid (And.intro hr3 hb3)
          clear hr3 hb3
          go_wp2_with (first
            | (refine wpList_store_row rfl 23 (.tmp 10) (.tmp 73) rfl gN ((short ks0 4 [s8, x]).map byteV).toArray rfl rfl 23 _ HR3.out.1 HR2.out.1 (by rw [Rx.size, R2.size]) HR2.out.2.2 ?_))
          have hrE := setRow_heap w3 gN _ ((short ks0 4 [s8, x]).map byteV).toArray _ _ HR3.out.1
          have hkE : Kept (fun k => k = gN) V (w3.setRow gN ((short ks0 4 [s8, x]).map byteV).toArray) := by
            refine HY.out.2.1.trans ((((Kept.of_ext HX4.out.2).mono (fun _ _ h => h.elim)).trans (((Kept.of_ext HR3.out.2).mono (fun _ _ h => h.elim)))).trans ⟨rfl, rfl, rfl, by simp, fun k hk hne => setRow_other w3 gN k _ hne⟩)
          exact ⟨⟨j + 1, short ks0 4 [s8, x], hlt, by go_num, short_len _ _ _, hrE, HCL.out, hkE⟩, by simp [intOf]; omega⟩
      · have hj2 : j = 2 := by omega
        subst hj2
        have hcl0 : climb ks0 2 n0 x0 (sig.drop 516) = x := by rw [hcl]; rfl
        rw [hcl0] at HD
        have hrw : Cs wr (some ⟨gR, oR, none⟩) (root.map byteV) := HSR.out.2.below hbw
        have Rx : Row8 (x.map byteV).toArray x := ⟨rfl, hxl⟩
        have Rr : Row8 (root.map byteV).toArray root := ⟨rfl, hrl⟩
        have heq : ∀ W, (binOp .eql 23 (.agg (x.map byteV).toArray) (.agg (root.map byteV).toArray)).run Tryz.prog W = .ok (.bool (x == root)) W := fun W => Eql8 W _ _ x root Rx Rr
        have hat : ∀ W, (Instr.arrayAt 23 (.slice (some ⟨gR, oR, none⟩) 8 rc)).run Tryz.prog W = .ok (.pointer (some ⟨gR, oR, none⟩)) W := fun W => at8 W _ 8 _ (Nat.le_refl _)
        have hcx : Cs wr (some ⟨gN, 0, none⟩) (x.map byteV) := row8_cs Rx hrow
        have hl8x : (x.map byteV).length = 8 := by simp [hxl]
        have hl8r : (root.map byteV).length = 8 := by simp [hrl]
        have HY := Lib.hid (And.intro hrw (And.intro hcx hbw))
        clear hrow hkp hbw hcl hcl0 hrw hcx
        generalize hans : (x == root) = ans at *
        have HANS := Lib.hid hans
        clear hans
        generalize x.map byteV = xm at *
        generalize root.map byteV = rm at *
        have hall := ext_all wr
        go_wp2_with fail
        refine wp_region_ext mixed1 (by kernel_rfl) ?_
        iterate 2 (refine wpQuiet_step (fun K hK => ?_); go_simp; refine hK _ ?_; clear hK K)
        refine BigFrame.wpQuiet_want rfl (fun K hK => quiet_load_mid (b := gN) (off := 0) (cs := xm) (d := .array 8 5) rfl (by simp [Act.eval]) (fun W hW => Cs.range (Cs.below HY.out.2.1 hW)) Tryz.underlying23 rfl (by rw [hl8x]; exact hi8) (hK _ ?_))
        iterate 2 (refine wpQuiet_step (fun K hK => ?_); go_simp; refine hK _ ?_; clear hK K)
        refine BigFrame.wpQuiet_want rfl (fun K hK => quiet_load_mid (b := gR) (off := oR) (cs := rm) (d := .array 8 5) rfl (by simp [Act.eval]) (fun W hW => Cs.range (Cs.below HY.out.1 hW)) Tryz.underlying23 rfl (by rw [hl8r]; exact hi8) (hK _ ?_))
        iterate 3 (refine wpQuiet_step (fun K hK => ?_); go_simp; refine hK _ ?_; clear hK K)
        refine wpQuiet_nil ?_
        intro W hW
        go_wp2_with fail
        go_ret
        exact ⟨ret_bool HD.out.symm, HY.out.2.2.trans (Below.mono hW HY.out.2.2.size)⟩
  · have hlfi : (4 : Int) ≤ ((word sig 0).toNat : Int) := by omega
    have HD : Hid (verT ks0 root 2 msg sig = false) := Lib.hid (by unfold verT; rw [decide_eq_false (show ¬ (word sig 0).toNat / 2 ^ 2 = 0 by omega), Bool.false_and])
    clear HO
    generalize (word sig 0).toNat = n0 at *
    go_wp2_with fail
    go_ret
    exact ⟨by rw [HD.out]; rfl, Below.refl _ _⟩
end W
end Go.Proofs.YthogembgndkmpaaGreatDoor

/- A long region that draws, whose operations make new memory alone: each operation at a frame of which nothing is known but what it reads. -/
namespace Go.Proofs.YthogembgndkmpaaGreatDoor
open Go.RowKit
namespace Nm
structure opYieldY (P : Program) (o : Oper) (a : Act) (Y : Nat → Option Bool) (W : World) (R : Value → World → Prop) : Prop where
  out : if Region.wanted o Y = true then yieldUpon P R ((execOp a.eval o).run P W) else R undef W
theorem opYieldY_def (P : Program) (o : Oper) (a : Act) (Y : Nat → Option Bool) (W : World) (R : Value → World → Prop) : opYieldY P o a Y W R = (if Region.wanted o Y = true then yieldUpon P R ((execOp a.eval o).run P W) else R undef W) :=
  propext ⟨fun h => h.out, fun h => ⟨h⟩⟩
def readsB (ops : Array Oper) (i j : Nat) : Bool := match ops[i]? with
  | none => false
  | some o => o.after.any fun e => e.on == j && bindD e
/-- each slot is written by one operation at most -/
def uniqB (ops : Array Oper) (n : Nat) : Bool := (List.range ops.size).all fun i => match dstAt ops i with
  | none => true
  | some d => decide (d < n) && (List.range ops.size).all fun j => j == i || dstAt ops j != some d
theorem uniqB_spec {ops : Array Oper} {n : Nat} (h : uniqB ops n = true) {i : Nat} {d : Tmp} (hd : dstAt ops i = some d) : d < n ∧ ∀ j, dstAt ops j = some d → j = i := by
  have hlt : ∀ {k : Nat} {t : Tmp}, dstAt ops k = some t → k < ops.size := by
    intro k t hk
    unfold dstAt at hk
    rcases Nat.lt_or_ge k ops.size with g | g
    · exact g
    · rw [Array.getElem?_eq_none g] at hk; cases hk
  have h1 := List.all_eq_true.1 h i (List.mem_range.2 (hlt hd))
  rw [hd] at h1
  simp only [Bool.and_eq_true, decide_eq_true_eq] at h1
  refine ⟨h1.1, fun j hj => ?_⟩
  have h2 := List.all_eq_true.1 h1.2 j (List.mem_range.2 (hlt hj))
  rw [hj] at h2
  simpa using h2
def freeB (ops : Array Oper) (t : Tmp) : Bool := (List.range ops.size).all fun j => dstAt ops j != some t
theorem relAct_defers {ops : Array Oper} {a0 : Act} {L : Nat → Bool} {vals : Nat → Value} : ∀ n, (relAct ops a0 L vals n).defers = a0.defers
  | 0 => rfl
  | n + 1 => by
    have ih := relAct_defers (ops := ops) (a0 := a0) (L := L) (vals := vals) n
    unfold relAct
    cases hl : L n
    · exact ih
    · simp only [if_true]
      cases hd : dstAt ops n with
      | none => exact ih
      | some d => exact ih
theorem wp_region_a {P : Program} {ops : Array Oper} {id : Nat} {Q : Exit → Act → World → Prop} {a0 : Act} {w0 : World} (hm : P.follows .mixedOrders = true) (hB : relB2 ops = true) (hu : uniqB ops a0.tmps.size = true) (fs : List Fact)
    (step : ∀ i o, ops[i]? = some o → ∀ (a : Act) (Y : Nat → Option Bool) (vals : Nat → Value) (W : World), Ext w0 W → (∀ j t, dstAt ops j = some t → j < i → (a.tmps[t]?).getD undef = vals j) → (∀ t, freeB ops t = true → (a.tmps[t]?).getD undef = a0.eval (.tmp t)) →
      (∀ j b t, dstAt ops j = some t → j < i → vals j = .bool b → Y j = some b) → (∀ j, readsB ops i j = true → (factAt fs j).p (vals j) W) → opYieldY P o a Y W (fun v W' => Ext W W' ∧ (factAt fs i).p v W'))
    (hend : ∀ (a : Act) (vals : Nat → Value) (W : World), Ext w0 W → a.defers = a0.defers → (∀ j t, dstAt ops j = some t → (a.tmps[t]?).getD undef = vals j) → (∀ j, j < ops.size → (factAt fs j).p (vals j) W) → Q .normal a W) :
    (Code.region id ops true).wp P Q a0 w0 := by
  refine wp_region_m2 hm hB fs (fun i o hio vals W hE haf => ?_) (fun vals W hE hF => hend _ vals W hE (relAct_defers _) (fun j t hj => by
    obtain ⟨h1, h2⟩ := uniqB_spec hu hj
    have hlt : j < ops.size := by
      unfold dstAt at hj
      rcases Nat.lt_or_ge j ops.size with g | g
      · exact g
      · rw [Array.getElem?_eq_none g] at hj; cases hj
    rw [relAct_at hj h2 ops.size hlt rfl, if_pos h1]
    rfl) hF)
  have hT : ∀ j t, dstAt ops j = some t → j < i → (relAct ops a0 (fun _ => true) vals i).tmps[t]? = some (vals j) := fun j t hj hji => by
    obtain ⟨h1, h2⟩ := uniqB_spec hu hj
    rw [relAct_at hj h2 i hji rfl, if_pos h1]
  have h := step i o hio (relAct ops a0 (fun _ => true) vals i) (yielded ops (relAct ops a0 (fun _ => true) vals i).tmps) vals W hE
    (fun j t hj hji => by
      have h := hT j t hj hji
      rw [h]
      rfl)
    (fun t ht => by
      have h : (relAct ops a0 (fun _ => true) vals i).tmps[t]? = a0.tmps[t]? := relAct_free i (fun j hj _ => fun e => by
        have hlt : j < ops.size := by
          unfold dstAt at e
          rcases Nat.lt_or_ge j ops.size with g | g
          · exact g
          · rw [Array.getElem?_eq_none g] at e; cases e
        have := List.all_eq_true.1 ht j (List.mem_range.2 hlt)
        simp [e] at this)
      simp only [Act.eval]
      rw [Array.getD_eq_getD_getElem?, h])
    (fun j b t hj hji hv => by
      have h := hT j t hj hji
      unfold yielded
      have e : (ops[j]?).bind (·.dst) = some t := hj
      rw [e]
      simp only [Option.bind_some]
      rw [h, hv])
    (fun j hj => by
      unfold readsB at hj
      rw [hio] at hj
      obtain ⟨x, hx, h9⟩ := Array.any_eq_true.1 hj
      simp only [Bool.and_eq_true, beq_iff_eq] at h9
      have := haf o.after[x] (Array.getElem_mem hx) h9.2
      rw [h9.1] at this
      exact this)
  rw [opYield_def]
  rw [opYieldY_def] at h
  exact h
end Nm
end Go.Proofs.YthogembgndkmpaaGreatDoor

/- What the two verifiers lean on. -/

