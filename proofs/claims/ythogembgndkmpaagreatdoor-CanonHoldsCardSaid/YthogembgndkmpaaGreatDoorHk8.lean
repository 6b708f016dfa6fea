/-
  Texts merged by a program (Pub, Opn, Abv, ShR, UpR, GetR, RSoa).
-/
import Derived.Laws.ResultCell
import Derived.StillTailTactics
import Derived.Test.YthogembgndkmpaaGreatDoorHk4
import Derived.Test.YthogembgndkmpaaGreatDoorHk5
import Derived.Test.YthogembgndkmpaaGreatDoorHk7
set_option linter.unusedSimpArgs false
set_option linter.unusedVariables false
/- onetime.public. -/
namespace Go.Proofs.YthogembgndkmpaaGreatDoor
open Go.RowKit
namespace W
def PubR (l : List UInt8) (B : Nat) (V : World) (v i : Value) (wr : World) : Prop := ∃ k : Nat, k ≤ 32 ∧ i = .int .i64 (k : Int) ∧ wr.ownsRow B 5 1 v (16 * k) ((l.take (16 * k)).map byteV) ∧ Below B V wr
theorem csB {w w' : World} {B g o : Nat} {xs : List Value} (h : Cs w (some ⟨g, o, none⟩) xs) (hb : Below B w w') (hg : g < B) : Cs w' (some ⟨g, o, none⟩) xs := by
  intro i u hu
  obtain ⟨b, off, e, hlt, hc⟩ := h i u hu
  cases e
  exact ⟨g, o, rfl, Nat.lt_of_lt_of_le hlt hb.size, (bcl hb hg).trans hc⟩
theorem take16 (l : List UInt8) (k : Nat) : l.take (16 * (k + 1)) = l.take (16 * k) ++ (l.drop (16 * k)).take 8 ++ (l.drop (16 * k + 8)).take 8 := by
  rw [show 16 * (k + 1) = 16 * k + 8 + 8 from by omega, List.take_add, List.take_add]
set_option maxRecDepth 100000 in
set_option maxHeartbeats 20000000 in
theorem PublicO (g : Nat) (l : List UInt8) (hl : l.length = 512) (ks : List UInt32) (w : World) (hA : ArrB w g 114 l) (hk : ArrU w 1 100 ks) (hkl : ks.length = 64) :
    Calls Tryz.prog 83 #[.pointer (some ⟨g, 0, none⟩)] w fun e w' => e = .returned (.agg ((short ks 3 [l]).map byteV).toArray) ∧ Below w.heap.size w w' := by
  obtain ⟨i0, hi, hz0, hz1, hz2⟩ := info_parts info_u8
  have hk1 := hk.lt
  have hgl := hA.lt
  have HA := Lib.hid (And.intro hA hk)
  clear hA hk
  go_enter Tryz.func83, Tryz.ntmps83
  go_wp2_with fail
  generalize hW1 : World.alloc _ _ = W1
  have hz1' : W1.heap[w.heap.size]? = some (.cells z8 23 (0, 0)) := by
    rw [← hW1]
    exact heap_alloc_new w _
  have hb1 : Below w.heap.size w W1 := by
    rw [← hW1]
    exact (Below.refl _ _).alloc (Nat.le_refl _) _
  have hs1 : W1.heap.size = w.heap.size + 1 := by rw [← hW1]; simp
  clear hW1
  have H1 := Lib.hid (And.intro hz1' (And.intro hb1 hs1))
  clear hz1' hb1 hs1
  go_loopw [3, 4, 5] (fun v _ i wr => PubR l (w.heap.size + 1) W1 v i wr) (fun _ _ i _ => 32 - (intOf i).toNat)
  case atStart => exact ⟨0, Nat.zero_le _, rfl, World.ownsRow_nil _ _ _ _, Below.refl _ _⟩
  case round =>
    obtain ⟨k, hk, rfl, hown, hbel⟩ := hrel
    by_cases hlt : k < 32
    · have hB0 : w.heap.size + 1 ≤ wr.heap.size := by have := hbel.size; rw [H1.out.2.2] at this; exact this
      have hbw : Below w.heap.size w wr := H1.out.2.1.trans (hbel.mono (Nat.le_succ _))
      have ha : ArrB wr g 114 l := HA.out.1.keep (hbw.block g hgl)
      have ht := take16 l k
      have hx : ((l.take (16 * k)).map byteV).length = 16 * k := by simp; omega
      have h8 : ((l.drop (16 * k)).take 8).length = 8 := by simp; omega
      have h9 : ((l.drop (16 * k + 8)).take 8).length = 8 := by simp; omega
      have c8 : Cs wr (some ⟨g, k * 16, none⟩) (((l.drop (16 * k)).take 8).map byteV) := by
        have h := (ha.cs (16 * k)).take' 8
        rw [← List.map_take] at h
        rw [Nat.mul_comm k 16]
        exact h
      have c9 : Cs wr (some ⟨g, k * 16 + 8, none⟩) (((l.drop (16 * k + 8)).take 8).map byteV) := by
        have h := (ha.cs (16 * k + 8)).take' 8
        rw [← List.map_take] at h
        rw [Nat.mul_comm k 16]
        exact h
      have HT := Lib.hid ht
      have HC := Lib.hid (And.intro c8 (And.intro c9 hbel))
      clear ht ha c8 c9
      generalize (l.drop (16 * k)).take 8 = l8 at *
      generalize (l.drop (16 * k + 8)).take 8 = l9 at *
      generalize hxs : l.take (16 * k) = xs at *
      have lk : (0 : Int) ≤ (k : Int) ∧ (k : Int) < 32 := by omega
      go_wp2_with fail
      have hgw : g < wr.heap.size := Nat.lt_of_lt_of_le hgl hbw.size
      refine wp_region_x (by kernel_rfl) (by kernel_rfl) (w.heap.size + 1) hB0 [.c (.is u3), .c (.is (.pointer (some ⟨g, 0, none⟩))), .c (.is (.int .i64 k)), .c (.is (.pointer (some ⟨g, 0, none⟩))), .c (.is (.pointer (some ⟨g, k * 16, none⟩))), .c (.is (.pointer (some ⟨g, k * 16, none⟩))), .c (.is (.slice (some ⟨g, k * 16, none⟩) 8 8)),
        .c (.own (w.heap.size + 1) 5 1 (16 * k + 8) ((xs ++ l8).map byteV)),
        .c (.is (.pointer (some ⟨g, 0, none⟩))), .c (.is (.int .i64 k)), .c (.is (.pointer (some ⟨g, 0, none⟩))), .c (.is (.pointer (some ⟨g, k * 16, none⟩))), .c (.is (.pointer (some ⟨g, k * 16 + 8, none⟩))), .c (.is (.slice (some ⟨g, k * 16 + 8, none⟩) 8 8)),
        .c (.own (w.heap.size + 1) 5 1 (16 * k + 8 + 8) ((xs ++ l8 ++ l9).map byteV)), .d [14] (fun vs => .is (vs 14))] (by kernel_rfl) (fun i => if i = 7 ∨ i = 14 then 3 else 0) (fun j => if j = 7 ∨ j = 14 then 3 else 0) (by kernel_rfl) ?_
        (fun W => W.ownsRow (w.heap.size + 1) 5 1 u3 (16 * k) (xs.map byteV)) hown (fun W W' hE h => own_below h hE) (fun W W' hE h => Kept.row h (Kept.of_below hE) (fun b hb e => by have := (hown.lt b hb).2; omega)) ?_ ?_
      · intro j vals
        rcases j with _ | _ | _ | _ | _ | _ | _ | _ | _ | _ | _ | _ | _ | _ | _ | _ | j
        all_goals first
          | exact plain_is _
          | exact trivial
          | (rw [if_neg (by omega)]; exact plain_any)
      · intro i o hio vals W hC haf hI0
        have hBW := Nat.le_trans hB0 hC.size
        rcases i with _ | _ | _ | _ | _ | _ | _ | _ | _ | _ | _ | _ | _ | _ | _ | _ | i
        all_goals first
          | (exfalso; simp at hio; done)
          | skip
        all_goals
          simp at hio
          subst hio
          simp [bindD, rdB, Region.binds, dfAt, DF.d_at] at haf
        all_goals first
          | (simp [opYield_def, yieldUpon, relAct, dstAt, Act.put, Region.wanted, go_sem, haf, lk, Ext.refl, dfAt, DF.d_at, kindX]; done)
          | skip
        · obtain ⟨h0, h6⟩ := haf
          have hI := hI0 (fun k hk hk2 => by
            by_cases h8 : k = 7
            · exact .inl h8
            · by_cases h13 : k = 14
              · subst h13; exact .inr (by kernel_rfl)
              · exfalso; simp [h8, h13] at hk2)
          refine Nm.yield_bytes rfl (.tmp 8) (.tmp 14) Tryz.underlying28 rfl (v := u3) (by simp [relAct, dstAt, Act.put, Act.eval, h0]) hI hBW (us := l8.map byteV) (A := some ⟨g, k * 16, none⟩) (c := 8) (by simp [relAct, dstAt, Act.put, Act.eval, h6, h8]) (csB HC.out.1 hC (by omega)) (by simp [byteV, Value.oneCell']) (by simp; omega) ?_
          intro v' W' g1 g2
          refine ⟨g2, ?_⟩
          rw [List.length_map, h8, ← List.map_append] at g1
          exact g1
        · obtain ⟨h7, h13⟩ := haf
          refine Nm.yield_bytes rfl (.tmp 15) (.tmp 21) Tryz.underlying28 rfl (v := vals 7) (n := 16 * k + 8) (xs := (xs ++ l8).map byteV) (by simp [relAct, dstAt, Act.put, Act.eval]) (by simpa using h7) hBW (us := l9.map byteV) (A := some ⟨g, k * 16 + 8, none⟩) (c := 8) (by simp [relAct, dstAt, Act.put, Act.eval, h13, h9]) (csB HC.out.2.1 hC (by omega)) (by simp [byteV, Value.oneCell']) (by simp; omega) ?_
          intro v' W' g1 g2
          refine ⟨g2, ?_⟩
          rw [List.length_map, h9, ← List.map_append] at g1
          exact g1
      · intro vals W hE hF
        have h14 := hF 14 (by show 14 < 16; omega) (by kernel_rfl)
        have h15 := hF 15 (by show 15 < 16; omega) (by kernel_rfl)
        simp [dfAt, DF.d_at] at h14 h15
        have hbw2 := HC.out.2.2.trans hE
        simp [relAct, dstAt, Act.put]
        rw [h15]
        clear hF h15
        generalize vals 14 = v14 at *
        go_wp2_with fail
        refine ⟨⟨k + 1, by omega, by go_num, ?_, hbw2⟩, by simp [intOf]; omega⟩
        rw [HT.out]
        have e : 16 * (k + 1) = 16 * k + 8 + 8 := by omega
        rw [e]
        simpa [List.map_append] using h14
    · have hk32 : k = 32 := by omega
      subst hk32
      rw [List.take_of_length_le (by omega)] at hown
      obtain ⟨A3, c3, rfl, _, h3c⟩ := Cs.of_own hown
      have hbw : Below w.heap.size w wr := H1.out.2.1.trans (hbel.mono (Nat.le_succ _))
      have hzr : wr.heap[w.heap.size]? = some (.cells z8 23 (0, 0)) := (hbel.block _ (Nat.lt_succ_self _)).trans H1.out.1
      have hbz : Below wr.heap.size wr (wr.alloc (.cells #[.slice A3 512 c3] 28)) := (Below.refl _ _).alloc (Nat.le_refl _) _
      have hs1 := heap_alloc_new wr (.cells #[.slice A3 512 c3] 28)
      have hcs : Cs (wr.alloc (.cells #[.slice A3 512 c3] 28)) (some ⟨wr.heap.size, 0, none⟩) ([(⟨A3, l, c3⟩ : Blob)].map Blob.v) := by
        intro i u hu
        refine ⟨_, _, rfl, lt_block hs1, ?_⟩
        rw [Nat.zero_add, cell_of_row _ _ _ _ _ _ hs1]
        simp [Blob.v, hl] at hu ⊢
        exact hu
      have hll := lp_len l
      have hS := ShortN 3 3 rfl (some ⟨wr.heap.size, 0, none⟩) 1 1 [(⟨A3, l, c3⟩ : Blob)] rfl ks _ (HA.out.2.keep ((hbz.block 1 (Nat.lt_of_lt_of_le hk1 hbw.size)).trans (hbw.block 1 hk1))) hkl hcs (by
        intro b hb
        obtain rfl : b = ⟨A3, l, c3⟩ := by simpa using hb
        exact Cs.below h3c hbz) (by simp) (by simp [parts]; omega)
      have HS := Lib.hid hS
      have HZ0 := Lib.hid (And.intro hzr (And.intro hbw hbz))
      have hzs := lt_block hzr
      clear hS hcs hs1 hbz hzr hbw hown hbel h3c
      go_wp2_with fail
      refine HS.out.mono ?_
      rintro e w2 ⟨rfl, hb2⟩
      have R : Row8 ((short ks 3 ([(⟨A3, l, c3⟩ : Blob)].map (·.l))).map byteV).toArray (short ks 3 [l]) := ⟨rfl, short_len _ _ _⟩
      generalize ((short ks 3 ([(⟨A3, l, c3⟩ : Blob)].map (·.l))).map byteV).toArray = c at *
      have hb3 : Below wr.heap.size wr w2 := HZ0.out.2.2.trans (hb2.mono HZ0.out.2.2.size)
      have hz2 := (hb3.block _ hzs).trans HZ0.out.1
      have HZ := Lib.hid hz2
      have hbw2 := HZ0.out.2.1.trans (hb3.mono HZ0.out.2.1.size)
      clear hz2 hb3 hb2 HZ0
      go_wp2_with (first
        | (refine wpList_store_row rfl 23 (.tmp 2) (.tmp 26) rfl w.heap.size c rfl rfl 23 z8 HZ.out R.info R.old R.all ?_))
      have hrb := setRow_heap w2 w.heap.size _ c _ _ HZ.out
      refine bodyPost_ret (v := .agg c) (results_cell_row rfl _ _ w.heap.size 23 c (0, 0) _ rfl hrb Tryz.underlying23 rfl R.info) rfl ⟨by rw [R.eq], ?_⟩
      exact hbw2.trans ⟨rfl, rfl, rfl, by simp, fun k hk => setRow_other w2 w.heap.size k _ (by omega)⟩
end W
end Go.Proofs.YthogembgndkmpaaGreatDoor

/- onetime.Open. -/
namespace Go.Proofs.YthogembgndkmpaaGreatDoor
open Go.RowKit
namespace W
/-- bytes laid from a place on -/
def setL (l : List UInt8) : Nat → List UInt8 → List UInt8
  | _, [] => l
  | o, x :: xs => setL (l.set o x) (o + 1) xs
theorem setL_mid : ∀ (xs A X C : List UInt8), X.length = xs.length → setL (A ++ X ++ C) A.length xs = A ++ xs ++ C
  | [], A, X, C, h => by
    have : X = [] := List.length_eq_zero_iff.1 h
    subst this
    rfl
  | x :: xs, A, [], C, h => by simp at h
  | x :: xs, A, y :: X, C, h => by
    unfold setL
    have e : (A ++ y :: X ++ C).set A.length x = (A ++ [x]) ++ X ++ C := by
      rw [List.append_assoc, List.set_append_right _ _ (Nat.le_refl _), Nat.sub_self]
      simp
    rw [e, show A.length + 1 = (A ++ [x]).length from by simp, setL_mid xs (A ++ [x]) X C (by simpa using h)]
    simp
theorem setL_len : ∀ (xs l : List UInt8) (o : Nat), (setL l o xs).length = l.length
  | [], _, _ => rfl
  | x :: xs, l, o => by
    unfold setL
    rw [setL_len xs, List.length_set]
theorem setL_midR (xs A X C : List UInt8) (h : X.length = xs.length) : setL (A ++ (X ++ C)) A.length xs = A ++ (xs ++ C) := by
  rw [← List.append_assoc, setL_mid xs A X C h, List.append_assoc]
theorem setL_two (L z z' Z s8 s9 : List UInt8) (hz : z.length = 8) (hz' : z'.length = 8) (h8 : s8.length = 8) (h9 : s9.length = 8) : setL (setL (L ++ (z ++ (z' ++ Z))) L.length s8) (L.length + 8) s9 = L ++ (s8 ++ s9) ++ Z := by
  have h1 : setL (L ++ (z ++ (z' ++ Z))) L.length s8 = (L ++ s8) ++ (z' ++ Z) := by rw [setL_midR _ _ _ _ (by omega)]; simp
  have h2 := setL_midR s9 (L ++ s8) z' Z (by omega)
  rw [h1, show L.length + 8 = (L ++ s8).length from by simp; omega, h2]
  simp
theorem setL_two' (L z z' Z s8 s9 : List UInt8) (hz : z.length = 8) (hz' : z'.length = 8) (h8 : s8.length = 8) (h9 : s9.length = 8) : setL (setL (L ++ (z ++ (z' ++ Z))) (L.length + 8) s8) L.length s9 = L ++ (s9 ++ s8) ++ Z := by
  have e0 : L ++ (z ++ (z' ++ Z)) = (L ++ z) ++ (z' ++ Z) := by simp
  have h1 := setL_midR s8 (L ++ z) z' Z (by omega)
  have e1 : (L ++ z) ++ (s8 ++ Z) = L ++ (z ++ (s8 ++ Z)) := by simp
  rw [e0, show L.length + 8 = (L ++ z).length from by simp; omega, h1, e1, setL_midR s9 L z (s8 ++ Z) (by omega)]
  simp
theorem ArrB.setCells {g : Nat} {T : TypeId} : ∀ (xs : List UInt8) (o : Nat) (w : World) (l : List UInt8), ArrB w g T l → ArrB (w.setCells g o (xs.map byteV)) g T (setL l o xs) ∧ Kept (fun k => k = g) w (w.setCells g o (xs.map byteV))
  | [], o, w, l, h => ⟨h, Kept.refl _ _⟩
  | x :: xs, o, w, l, h => by
    obtain ⟨h1, h2⟩ := ArrB.setCells xs (o + 1) (w.setCell ⟨g, o, none⟩ (byteV x)) (l.set o x) (h.set o x)
    exact ⟨h1, ((Kept.refl (fun k => k = g) w).setCell (p := ⟨g, o, none⟩) (fun _ => rfl) _).trans h2⟩
theorem ArrB.there {w : World} {g : Nat} {T : TypeId} {l : List UInt8} (h : ArrB w g T l) (o n : Nat) (hn : o + n ≤ l.length) : w.there g o n := fun j hj => by
  rw [h.cell (o + j) (by omega), h.frozen (o + j)]
  exact ⟨rfl, rfl⟩
theorem yield_store_mid {P : Program} {ops : Array Oper} {o : Oper} {a : Act} {W : World} {R : Value → World → Prop} {ty : TypeId} {x y : Operand} {b off : Nat} {cells : Array Value} (hgd : o.guard = none) (ho : o.op = .store ty x y)
    (hx : a.eval x = .pointer (some ⟨b, off, none⟩)) (hy : a.eval y = .agg cells) (ht : W.there b off cells.size) (hi : (P.info? ty).map (·.size) = some cells.size) (h1 : cells.all (·.oneCell') = true) (h : R undef (W.setCells b off cells.toList)) : opYield P ops o a W R := by
  have hw : Region.wanted o (yielded ops a.tmps) = true := by simp [Region.wanted, hgd]
  rw [opYield_def, if_pos hw]
  unfold execOp
  simp only [ho, hx, hy, Instr.storeAt, Instr.sureAddr, Sem.run_bind, Sem.run_pure, Result.andThen_ok, run_storeVar_mid W b off ty cells ht hi h1]
  exact h
theorem quiet_load_mid {P : Program} {C : World → Prop} {a : Act} {o : Oper} {K : Act → Prop} {ty : TypeId} {x : Operand} {b off : Nat} {cs : List Value} {d : TypeDesc} (ho : o.op = .load ty x) (hx : a.eval x = .pointer (some ⟨b, off, none⟩)) (hc : ∀ W, C W → W.rangeAt b off cs)
    (hu : P.underlying ty = some d) (hd : d.isRow = true) (hi : (P.info? ty).map (·.size) = some cs.length) (hk : K (a.put o.dst (.agg cs.toArray))) : o.quiet P a C K :=
  quiet_val _ (fun W hW => by
    unfold execOp
    simp only [ho, hx, Instr.loadAt, Instr.sureAddr, Sem.run_bind, Sem.run_pure, Result.andThen_ok, run_loadVar_mid W b off ty cs d (hc W hW) hu hd hi]) hk
theorem Cs.range {w : World} {b off : Nat} {xs : List Value} (h : Cs w (some ⟨b, off, none⟩) xs) : w.rangeAt b off xs := fun j v hj => by
  obtain ⟨_, _, e, _, hc⟩ := h j v hj
  cases e
  exact hc
/-- what a bit's two locks are -/
def cell16 (ks : List UInt32) (d : UInt32) (sig : List UInt8) (i : Nat) : List UInt8 :=
  if bitN d i = 0 then short ks 2 [(sig.drop (16 * i)).take 8] ++ (sig.drop (16 * i + 8)).take 8 else (sig.drop (16 * i + 8)).take 8 ++ short ks 2 [(sig.drop (16 * i)).take 8]
def locks (ks : List UInt32) (d : UInt32) (sig : List UInt8) (k : Nat) : List UInt8 := (List.range k).flatMap (cell16 ks d sig)
def opn (ks : List UInt32) (msg sig : List UInt8) : List UInt8 := short ks 3 [locks ks (dig ks msg) sig 32]
theorem cell16_len (ks : List UInt32) (d : UInt32) (sig : List UInt8) (i : Nat) (h : 16 * i + 16 ≤ sig.length) : (cell16 ks d sig i).length = 16 := by
  unfold cell16
  split <;> (simp [short_len]; omega)
theorem locks_succ (ks : List UInt32) (d : UInt32) (sig : List UInt8) (k : Nat) : locks ks d sig (k + 1) = locks ks d sig k ++ cell16 ks d sig k := by
  unfold locks
  rw [List.range_succ, List.flatMap_append]
  simp
theorem locks_len (ks : List UInt32) (d : UInt32) (sig : List UInt8) (hs : sig.length = 512) : ∀ k, k ≤ 32 → (locks ks d sig k).length = 16 * k
  | 0, _ => rfl
  | k + 1, h => by
    rw [locks_succ, List.length_append, locks_len ks d sig hs k (by omega), cell16_len ks d sig k (by omega)]
    omega
def lkAt (ks : List UInt32) (d : UInt32) (sig : List UInt8) (k : Nat) : List UInt8 := locks ks d sig k ++ List.replicate (512 - 16 * k) 0
theorem lkAt_len (ks : List UInt32) (d : UInt32) (sig : List UInt8) (hs : sig.length = 512) (k : Nat) (h : k ≤ 32) : (lkAt ks d sig k).length = 512 := by
  unfold lkAt
  rw [List.length_append, locks_len ks d sig hs k h, List.length_replicate]
  omega
theorem lkAt_step (ks : List UInt32) (d : UInt32) (sig : List UInt8) (hs : sig.length = 512) (k : Nat) (h : k < 32) :
    setL (setL (lkAt ks d sig k) (k * 16 + bitN d k * 8) (short ks 2 [(sig.drop (16 * k)).take 8])) (k * 16 + (1 - bitN d k) * 8) ((sig.drop (16 * k + 8)).take 8) = lkAt ks d sig (k + 1) := by
  have hl := locks_len ks d sig hs k (by omega)
  have hb : bitN d k = 0 ∨ bitN d k = 1 := by unfold bitN; omega
  have hz : List.replicate (512 - 16 * k) (0 : UInt8) = List.replicate 8 0 ++ (List.replicate 8 0 ++ List.replicate (512 - 16 * (k + 1)) 0) := by
    rw [List.replicate_append_replicate, List.replicate_append_replicate]
    congr 1
    omega
  have h8 : (short ks 2 [(sig.drop (16 * k)).take 8]).length = 8 := short_len _ _ _
  have h9 : ((sig.drop (16 * k + 8)).take 8).length = 8 := by simp; omega
  have hc : cell16 ks d sig k = if bitN d k = 0 then short ks 2 [(sig.drop (16 * k)).take 8] ++ (sig.drop (16 * k + 8)).take 8 else (sig.drop (16 * k + 8)).take 8 ++ short ks 2 [(sig.drop (16 * k)).take 8] := rfl
  unfold lkAt
  rw [locks_succ, hc, hz]
  generalize short ks 2 [(sig.drop (16 * k)).take 8] = s8 at *
  generalize (sig.drop (16 * k + 8)).take 8 = s9 at *
  generalize locks ks d sig k = L at *
  generalize List.replicate (512 - 16 * (k + 1)) (0 : UInt8) = Z at *
  rcases hb with hb | hb
  · rw [hb, if_pos rfl, show k * 16 + 0 * 8 = L.length from by omega, show k * 16 + (1 - 0) * 8 = L.length + 8 from by omega]
    exact setL_two L _ _ Z s8 s9 (by simp) (by simp) h8 h9
  · rw [hb, if_neg (by decide), show k * 16 + 1 * 8 = L.length + 8 from by omega, show k * 16 + (1 - 1) * 8 = L.length from by omega]
    exact setL_two' L _ _ Z s8 s9 (by simp) (by simp) h8 h9
def OpnR (ks : List UInt32) (d : UInt32) (sig : List UInt8) (gl : Nat) (V : World) (i : Value) (wr : World) : Prop := ∃ k : Nat, k ≤ 32 ∧ i = .int .i64 (k : Int) ∧ ArrB wr gl 114 (lkAt ks d sig k) ∧ Kept (fun j => j = gl) V wr
set_option maxRecDepth 100000 in
set_option maxHeartbeats 20000000 in
theorem Open (A S : Option Addr) (cap sc : Nat) (ks : List UInt32) (msg sig : List UInt8) (w : World) (hk : ArrU w 1 100 ks) (hkl : ks.length = 64) (hb : Cs w A (msg.map byteV)) (hbl : msg.length ≤ 1000000) (hc1 : msg.length ≤ cap) (hc2 : cap ≤ maxLen) (hn : A = none → cap = 0)
    (hS : Cs w S (sig.map byteV)) (hsl : sig.length = 512) (hsc : 512 ≤ sc) :
    Calls Tryz.prog 58 #[.slice A msg.length cap, .slice S sig.length sc] w fun e w' => e = .returned (.tuple #[.agg ((opn ks msg sig).map byteV).toArray, .bool true]) ∧ Below w.heap.size w w' := by
  have HB := Lib.hid (And.intro hb (And.intro hS hk))
  have hk1 := hk.lt
  clear hb hS hk
  rw [hsl]
  go_enter Tryz.func58, Tryz.ntmps58
  go_wp2_with fail
  generalize hW1 : World.alloc _ _ = W1
  have hz1' : W1.heap[w.heap.size]? = some (.cells z8 23 (0, 0)) := by
    rw [← hW1]
    exact heap_alloc2_old w _ _
  have ha1 : ArrB W1 (w.heap.size + 1) 114 (lkAt ks (dig ks msg) sig 0) := by
    rw [← hW1]
    exact heap_alloc2_new w _ _
  have hb1 : Below w.heap.size w W1 := by
    rw [← hW1]
    exact ((Below.refl _ _).alloc (Nat.le_refl _) _).alloc (by simp) _
  clear hW1
  have hbcs : Cs W1 A (msg.map byteV) := Cs.below HB.out.1 hb1
  refine (Digest A cap ks msg W1 (HB.out.2.2.keep (hb1.block 1 hk1)) hkl hbcs hbl hc1 hc2 hn).mono ?_
  rintro e V ⟨rfl, hb2⟩
  have haV := ha1.keep (hb2.block _ ha1.lt)
  have hzV := (hb2.block _ (lt_block hz1')).trans hz1'
  have hbV := hb1.trans (hb2.mono hb1.size)
  have hO : Hid (opn ks msg sig = short ks 3 [locks ks (dig ks msg) sig 32]) := Lib.hid rfl
  have HV := Lib.hid (And.intro haV (And.intro hzV hbV))
  clear ha1 hz1' hb1 hb2 haV hzV hbV hbcs
  generalize dig ks msg = d at *
  go_wp2_with fail
  go_loopw [8, 9, 10, 17] (fun _ _ _ i wr => OpnR ks d sig (w.heap.size + 1) V i wr) (fun _ _ _ i _ => 32 - (intOf i).toNat)
  case atStart => exact ⟨0, Nat.zero_le _, rfl, HV.out.1, Kept.refl _ _⟩
  case round =>
    obtain ⟨k, hk, rfl, harr, hkp⟩ := hrel
    have hwV : w.heap.size < V.heap.size := lt_block HV.out.2.1
    have hgV : w.heap.size + 1 < V.heap.size := HV.out.1.lt
    by_cases hlt : k < 32
    · have hstep := lkAt_step ks d sig hsl k hlt
      have hll := lkAt_len ks d sig hsl k (by omega)
      have hbw : Below w.heap.size w wr := HV.out.2.2.trans (hkp.below HV.out.2.2.size (fun j hj e => by omega))
      have hSr : Cs wr S (sig.map byteV) := Cs.below HB.out.2.1 hbw
      obtain ⟨gS, oS, rfl, hgS, _⟩ := hSr.byte (l := sig) (i := 0) (by omega)
      have hgs : gS < w.heap.size := by
        obtain ⟨_, _, e, h, _⟩ := HB.out.2.1.byte (l := sig) (i := 0) (by omega)
        cases e
        exact h
      have c8 : Cs wr (some ⟨gS, oS + k * 16, none⟩) (((sig.drop (16 * k)).take 8).map byteV) := by
        have h := hSr.drop' (16 * k) sc (by rw [List.length_map]; omega)
        rw [if_neg (by omega), Option.map_some, add_plain] at h
        have h2 := h.take' 8
        rw [← List.map_drop, ← List.map_take, Nat.mul_comm 16 k] at h2
        rw [Nat.mul_comm 16 k]
        exact h2
      have c9 : Cs wr (some ⟨gS, oS + k * 16 + 8, none⟩) (((sig.drop (16 * k + 8)).take 8).map byteV) := by
        have h := hSr.drop' (16 * k + 8) sc (by rw [List.length_map]; omega)
        rw [if_neg (by omega), Option.map_some, add_plain] at h
        have h2 := h.take' 8
        rw [← List.map_drop, ← List.map_take, Nat.mul_comm 16 k] at h2
        rw [Nat.add_assoc, Nat.mul_comm 16 k]
        exact h2
      have l8 : ((sig.drop (16 * k)).take 8).length = 8 := by simp; omega
      have l9 : ((sig.drop (16 * k + 8)).take 8).length = 8 := by simp; omega
      have hB2 : bitN d k = 0 ∨ bitN d k = 1 := by unfold bitN; omega
      have hbit := fun W => Bit d k hlt W
      have hkr : ArrU wr 1 100 ks := HB.out.2.2.keep (hbw.block 1 hk1)
      have hlock : ∀ W, Ext wr W → Calls Tryz.prog 82 #[.slice (some ⟨gS, oS + k * 16, none⟩) 8 (sc - k * 16)] W fun e W' => e = .returned (.agg ((short ks 2 [(sig.drop (16 * k)).take 8]).map byteV).toArray) ∧ Ext wr W' := fun W hW => by
        have h := Lock (some ⟨gS, oS + k * 16, none⟩) (sc - k * 16) ((sig.drop (16 * k)).take 8) ks W (hkr.keep (Below.block hW 1 hkr.lt)) hkl (Cs.below c8 hW) (by omega)
        rw [l8] at h
        exact h.mono fun e W' h => ⟨h.1, Ext.trans hW h.2⟩
      have R8 : Row8 ((short ks 2 [(sig.drop (16 * k)).take 8]).map byteV).toArray (short ks 2 [(sig.drop (16 * k)).take 8]) := ⟨rfl, short_len _ _ _⟩
      have HL := Lib.hid hlock
      clear hlock hkr
      have HX := Lib.hid (And.intro hstep (And.intro harr (And.intro hkp (And.intro hbw (And.intro c8 (And.intro c9 hbit))))))
      have hgw : w.heap.size + 1 < wr.heap.size := harr.lt
      clear hstep harr hkp hbw c8 c9 hbit hSr
      generalize (sig.drop (16 * k)).take 8 = s8 at *
      generalize short ks 2 [s8] = sh8 at *
      generalize (sh8.map byteV).toArray = cc at *
      generalize (sig.drop (16 * k + 8)).take 8 = s9 at *
      generalize hv : bitN d k = v at *
      have HV2 := Lib.hid hv
      clear hv
      go_wp2_with fail
      refine (HX.out.2.2.2.2.2.2 _).mono ?_
      rintro e w' ⟨rfl, hw'⟩
      rw [hw']
      clear hw' w'
      have m1 : IntKind.i64.wrap ((k : Int) * 16) = (k : Int) * 16 := IntWalk.i64_in _ (by omega)
      have m2 : IntKind.i64.wrap (((k : Int) + 1) * 16) = ((k : Int) + 1) * 16 := IntWalk.i64_in _ (by omega)
      have lk0 : (0 : Int) ≤ (k : Int) ∧ (k : Int) < 32 := by omega
      have lv : (0 : Int) ≤ (v : Int) ∧ (v : Int) < 2 := by omega
      go_wp2_with fail
      have e16 : (k + 1) * 16 - k * 16 = 16 := by omega
      simp only [e16]
      generalize hcc : sc - k * 16 = C16 at *
      have b8 : (8 : Int) ≤ (C16 : Int) := by omega
      have b8' : ¬ C16 = 8 := by omega
      clear hcc
      have hall := ext_all wr
      refine wp_region_qt_ext 7 mixed1 (by kernel_rfl) (by kernel_rfl) ?_
      simp only [List.take_succ_cons, List.take_zero]
      iterate 4 (refine wpQuiet_step (fun K hK => ?_); go_simp; refine hK _ ?_; clear hK K)
      refine wpQuiet_step (fun K hK => ?_)
      go_simp
      refine ⟨_, fun W hW => HL.out W hW, hK _ ?_⟩
      clear hK K
      iterate 2 (refine wpQuiet_step (fun K hK => ?_); go_simp; refine hK _ ?_; clear hK K)
      refine wpQuiet_nil ?_
      intro W hW o ho
      simp at ho
      subst ho
      have haW : ArrB W (w.heap.size + 1) 114 (lkAt ks d sig k) := HX.out.2.1.keep (Below.block hW _ hgw)
      refine yield_store_mid rfl rfl (b := w.heap.size + 1) (off := k * 16 + v * 8) (cells := cc) ?_ ?_ (haW.there _ _ (by rw [R8.size, hll]; omega)) R8.info R8.all ?_
      · simp [Act.eval]
      · simp [Act.eval]
      have hset := ArrB.setCells sh8 (k * 16 + v * 8) W _ haW
      have ecc : cc.toList = sh8.map byteV := by rw [R8.eq]
      rw [ecc]
      have hbW := HX.out.2.2.2.1.trans (Below.mono hW HX.out.2.2.2.1.size)
      have hkW : Kept (fun j => j = w.heap.size + 1) V (W.setCells (w.heap.size + 1) (k * 16 + v * 8) (sh8.map byteV)) := HX.out.2.2.1.trans (((Kept.of_ext hW).mono (fun _ _ h => h.elim)).trans hset.2)
      have c9W : Cs (W.setCells (w.heap.size + 1) (k * 16 + v * 8) (sh8.map byteV)) (some ⟨gS, oS + k * 16 + 8, none⟩) (s9.map byteV) := Kept.cs (Cs.below HX.out.2.2.2.2.2.1 hW) hset.2 (fun a ha _ e => by cases ha; simp at e; omega)
      have HY := Lib.hid (And.intro hset.1 (And.intro hkW c9W))
      clear hset hkW c9W hbW haW
      generalize W.setCells (w.heap.size + 1) (k * 16 + v * 8) (sh8.map byteV) = Y at *
      have hu1 : v ≤ 1 := by omega
      obtain ⟨u, hu⟩ : ∃ u : Nat, u = 1 - v := ⟨_, rfl⟩
      have m3 : IntKind.u8.wrap (1 - (v : Int)) = (u : Int) := by rw [Nm.wrap8']; omega
      have m4 : (1 - (v : Int)) % 256 = (u : Int) := by omega
      have m5 : (1 - (v : Int)) = (u : Int) := by omega
      have lu : (0 : Int) ≤ (u : Int) ∧ (u : Int) < 2 := by omega
      have m6 : IntKind.u8.wrap (u : Int) = (u : Int) := by rw [Nm.wrap8']; omega
      have HU := Lib.hid hu
      have hat : ∀ W, (Instr.arrayAt 23 (.slice (some ⟨gS, oS + k * 16 + 8, none⟩) 8 (C16 - 8))).run Tryz.prog W = .ok (.pointer (some ⟨gS, oS + k * 16 + 8, none⟩)) W := fun W => at8 W _ 8 _ (Nat.le_refl _)
      clear hu hall hW hgw
      have hgY : w.heap.size + 1 < Y.heap.size := HY.out.1.lt
      go_wp2_with fail
      have hallY := ext_all Y
      refine wp_region_qt_ext 9 mixed1 (by kernel_rfl) (by kernel_rfl) ?_
      simp only [List.take_succ_cons, List.take_zero]
      iterate 6 (refine wpQuiet_step (fun K hK => ?_); go_simp; refine hK _ ?_; clear hK K)
      refine BigFrame.wpQuiet_want rfl (fun K hK => quiet_load_mid (b := gS) (off := oS + k * 16 + 8) (cs := s9.map byteV) (d := .array 8 5) rfl (by simp [Act.eval]) (fun W hW => Cs.range (Cs.below HY.out.2.2 hW)) Tryz.underlying23 rfl (by rw [List.length_map, l9]; exact hi8) (hK _ ?_))
      iterate 2 (refine wpQuiet_step (fun K hK => ?_); go_simp; refine hK _ ?_; clear hK K)
      refine wpQuiet_nil ?_
      intro W2 hW2 o ho
      simp at ho
      subst ho
      have haY : ArrB W2 (w.heap.size + 1) 114 (setL (lkAt ks d sig k) (k * 16 + v * 8) sh8) := HY.out.1.keep (Below.block hW2 _ hgY)
      have hlY : (setL (lkAt ks d sig k) (k * 16 + v * 8) sh8).length = 512 := by rw [setL_len, hll]
      refine yield_store_mid rfl rfl (b := w.heap.size + 1) (off := k * 16 + u * 8) (cells := (s9.map byteV).toArray) ?_ ?_ (haY.there _ _ (by rw [hlY]; simp [l9]; omega)) (by rw [List.size_toArray, List.length_map, l9]; exact hi8) (by simp [byteV, Value.oneCell']) ?_
      · simp [Act.eval]
      · simp [Act.eval]
      have hset := ArrB.setCells s9 (k * 16 + u * 8) W2 _ haY
      rw [HU.out, HX.out.1] at hset
      rw [HU.out]
      have hkE : Kept (fun j => j = w.heap.size + 1) V (W2.setCells (w.heap.size + 1) (k * 16 + (1 - v) * 8) (s9.map byteV)) := HY.out.2.1.trans (((Kept.of_ext hW2).mono (fun _ _ h => h.elim)).trans hset.2)
      have hN : OpnR ks d sig (w.heap.size + 1) V (.int .i64 ((k : Int) + 1)) (W2.setCells (w.heap.size + 1) (k * 16 + (1 - v) * 8) (s9.map byteV)) := ⟨k + 1, by omega, by go_num, hset.1, hkE⟩
      have HN := Lib.hid hN
      clear hset hkE haY hlY hN
      generalize W2.setCells (w.heap.size + 1) (k * 16 + (1 - v) * 8) (s9.map byteV) = Z at *
      go_wp2_with fail
      exact ⟨HN.out, by simp [intOf]; omega⟩
    · have hk32 : k = 32 := by omega
      subst hk32
      have hl32 : lkAt ks d sig 32 = locks ks d sig 32 := by simp [lkAt]
      rw [hl32] at harr
      have hzr : wr.heap[w.heap.size]? = some (.cells z8 23 (0, 0)) := (hkp.block _ hwV (by omega)).trans HV.out.2.1
      have hbw : Below w.heap.size w wr := HV.out.2.2.trans (hkp.below HV.out.2.2.size (fun j hj e => by omega))
      have hP := PublicO (w.heap.size + 1) (locks ks d sig 32) (locks_len ks d sig hsl 32 (Nat.le_refl _)) ks wr harr (HB.out.2.2.keep (hbw.block 1 hk1)) hkl
      rw [← hO.out] at hP
      have R : Row8 ((opn ks msg sig).map byteV).toArray (opn ks msg sig) := ⟨rfl, by rw [hO.out]; exact short_len _ _ _⟩
      generalize ((opn ks msg sig).map byteV).toArray = c at *
      have HP := Lib.hid (And.intro hP (And.intro hzr hbw))
      clear hP hzr hbw harr hkp
      go_wp2_with fail
      refine HP.out.1.mono ?_
      rintro e w2 ⟨rfl, hb2⟩
      have hz2 := (hb2.block _ (lt_block HP.out.2.1)).trans HP.out.2.1
      have hbw2 := HP.out.2.2.trans (hb2.mono HP.out.2.2.size)
      have HZ := Lib.hid hz2
      clear hz2
      go_wp2_with (first
        | (refine wpList_store_row rfl 23 (.tmp 4) (.tmp 47) rfl w.heap.size c rfl rfl 23 z8 HZ.out R.info R.old R.all ?_))
      have hrb := setRow_heap w2 w.heap.size _ c _ _ HZ.out
      have hbE : Below w.heap.size w (w2.setRow w.heap.size c) := hbw2.trans ⟨rfl, rfl, rfl, by simp, fun k hk => setRow_other w2 w.heap.size k _ (by omega)⟩
      generalize w2.setRow w.heap.size c = wE at *
      have hrg : wE.rangeAt w.heap.size 0 c.toList := fun j v hj => by
        rw [Nat.zero_add, cell_of_row _ _ _ _ _ _ hrb]
        simpa using hj
      have hld := run_loadVar_mid (P := Tryz.prog) wE w.heap.size 0 23 c.toList (.array 8 5) hrg Tryz.underlying23 rfl (by rw [Array.length_toList]; exact R.info)
      rw [Array.toArray_toList] at hld
      refine bodyPost_ret (v := .tuple #[.agg c, .bool true]) ?_ rfl ⟨by rw [R.eq], hbE⟩
      rw [results_cell_tmp rfl]
      simp [asAddr, Sem.run_pure, Result.andThen_ok, hld]
end W
end Go.Proofs.YthogembgndkmpaaGreatDoor

/- tree: above, Leaf. -/
namespace Go.Proofs.YthogembgndkmpaaGreatDoor
open Go.RowKit
namespace W
theorem row8_cs {W : World} {g : Nat} {T : TypeId} {c : Array Value} {l : List UInt8} (R : Row8 c l) (h : W.heap[g]? = some (.cells c T (0, 0))) : Cs W (some ⟨g, 0, none⟩) (l.map byteV) := by
  intro i u hu
  refine ⟨g, 0, rfl, lt_block h, ?_⟩
  rw [Nat.zero_add, cell_of_row _ _ _ _ _ _ h, R.eq]
  simpa using hu
set_option maxRecDepth 100000 in
set_option maxHeartbeats 20000000 in
theorem Above (ca cb : Array Value) (la lb : List UInt8) (Ra : Row8 ca la) (Rb : Row8 cb lb) (ks : List UInt32) (w : World) (hk : ArrU w 1 100 ks) (hkl : ks.length = 64) :
    Calls Tryz.prog 59 #[.agg ca, .agg cb] w fun e w' => e = .returned (.agg ((short ks 4 [la, lb]).map byteV).toArray) ∧ Below w.heap.size w w' := by
  have HK := Lib.hid hk
  have hk1 := hk.lt
  clear hk
  go_enter Tryz.func59, Tryz.ntmps59
  go_wp2_with fail
  generalize hW1 : World.alloc _ _ = W1
  have hsa : W1.heap[w.heap.size]? = some (.cells ca 23 (0, 0)) := by
    rw [← hW1, Below.heap_alloc _ _ _ (by simp; omega), Below.heap_alloc _ _ _ (by simp)]
    exact heap_alloc_new w _
  have hsb : W1.heap[w.heap.size + 1]? = some (.cells cb 23 (0, 0)) := by
    rw [← hW1, Below.heap_alloc _ _ _ (by simp)]
    have h := heap_alloc_new (w.alloc (.cells ca 23)) (.cells cb 23)
    rw [show (w.alloc (.cells ca 23)).heap.size = w.heap.size + 1 from by simp] at h
    exact h
  have hsz : W1.heap[w.heap.size + 2]? = some (.cells z8 23 (0, 0)) := by
    rw [← hW1]
    have h := heap_alloc_new ((w.alloc (.cells ca 23)).alloc (.cells cb 23)) (.cells z8 23)
    rw [show ((w.alloc (.cells ca 23)).alloc (.cells cb 23)).heap.size = w.heap.size + 2 from by simp] at h
    exact h
  have hb1 : Below w.heap.size w W1 := by
    rw [← hW1]
    exact (((Below.refl _ _).alloc (Nat.le_refl _) _).alloc (by simp) _).alloc (by simp; omega) _
  clear hW1
  have H1 := Lib.hid (And.intro hsa (And.intro hsb (And.intro hsz hb1)))
  clear hsa hsb hsz hb1
  go_still_tail 2, mixed1
  change wpList _ _ _ _ _ (World.drew W1)
  have H2 : Hid (Cs (World.drew W1) (some ⟨w.heap.size, 0, none⟩) (la.map byteV) ∧ Cs (World.drew W1) (some ⟨w.heap.size + 1, 0, none⟩) (lb.map byteV) ∧ (World.drew W1).heap[w.heap.size + 2]? = some (.cells z8 23 (0, 0)) ∧ Below w.heap.size w (World.drew W1)) :=
    Lib.hid ⟨row8_cs Ra H1.out.1, row8_cs Rb H1.out.2.1, H1.out.2.2.1, H1.out.2.2.2.drew⟩
  clear H1
  generalize World.drew W1 = W2 at *
  have hw2 : w.heap.size + 2 < W2.heap.size := lt_block H2.out.2.2.1
  have hbz : Below W2.heap.size W2 (W2.alloc (.cells #[.slice (some ⟨w.heap.size, 0, none⟩) 8 8, .slice (some ⟨w.heap.size + 1, 0, none⟩) 8 8] 28)) := (Below.refl _ _).alloc (Nat.le_refl _) _
  have hs1 := heap_alloc_new W2 (.cells #[.slice (some ⟨w.heap.size, 0, none⟩) 8 8, .slice (some ⟨w.heap.size + 1, 0, none⟩) 8 8] 28)
  have hcs : Cs (W2.alloc (.cells #[.slice (some ⟨w.heap.size, 0, none⟩) 8 8, .slice (some ⟨w.heap.size + 1, 0, none⟩) 8 8] 28)) (some ⟨W2.heap.size, 0, none⟩) ([(⟨some ⟨w.heap.size, 0, none⟩, la, 8⟩ : Blob), ⟨some ⟨w.heap.size + 1, 0, none⟩, lb, 8⟩].map Blob.v) := by
    intro i u hu
    refine ⟨_, _, rfl, lt_block hs1, ?_⟩
    rw [Nat.zero_add, cell_of_row _ _ _ _ _ _ hs1]
    simp [Blob.v, Ra.len, Rb.len] at hu ⊢
    exact hu
  have h1a := lp_len la
  have h1b := lp_len lb
  have hra := Ra.len
  have hrb := Rb.len
  have hS := ShortN 4 4 rfl (some ⟨W2.heap.size, 0, none⟩) 2 2 [(⟨some ⟨w.heap.size, 0, none⟩, la, 8⟩ : Blob), ⟨some ⟨w.heap.size + 1, 0, none⟩, lb, 8⟩] rfl ks _ (HK.out.keep ((hbz.block 1 (by omega)).trans (H2.out.2.2.2.block 1 hk1))) hkl hcs (by
    intro b hb
    simp at hb
    rcases hb with rfl | rfl
    · exact Cs.below H2.out.1 hbz
    · exact Cs.below H2.out.2.1 hbz) (by simp) (by simp [parts]; omega)
  have R : Row8 ((short ks 4 ([(⟨some ⟨w.heap.size, 0, none⟩, la, 8⟩ : Blob), ⟨some ⟨w.heap.size + 1, 0, none⟩, lb, 8⟩].map (·.l))).map byteV).toArray (short ks 4 [la, lb]) := ⟨rfl, short_len _ _ _⟩
  generalize ((short ks 4 ([(⟨some ⟨w.heap.size, 0, none⟩, la, 8⟩ : Blob), ⟨some ⟨w.heap.size + 1, 0, none⟩, lb, 8⟩].map (·.l))).map byteV).toArray = c at *
  have HS := Lib.hid hS
  have HZ0 := Lib.hid (And.intro H2.out.2.2.1 (And.intro H2.out.2.2.2 hbz))
  clear hS hcs hs1 hbz H2
  go_wp2_with fail
  refine HS.out.mono ?_
  rintro e w3 ⟨rfl, hb3⟩
  have hb4 : Below W2.heap.size W2 w3 := HZ0.out.2.2.trans (hb3.mono HZ0.out.2.2.size)
  have hz2 := (hb4.block _ hw2).trans HZ0.out.1
  have HZ := Lib.hid hz2
  have hbw2 := HZ0.out.2.1.trans (hb4.mono HZ0.out.2.1.size)
  clear hz2 hb4 hb3 HZ0 HS
  go_wp2_with (first
    | (refine wpList_store_row rfl 23 (.tmp 4) (.tmp 8) rfl (w.heap.size + 2) c rfl rfl 23 z8 HZ.out R.info R.old R.all ?_))
  have hrb2 := setRow_heap w3 (w.heap.size + 2) _ c _ _ HZ.out
  refine bodyPost_ret (v := .agg c) (results_cell_row rfl _ _ (w.heap.size + 2) 23 c (0, 0) _ rfl hrb2 Tryz.underlying23 rfl R.info) rfl ⟨by rw [R.eq], ?_⟩
  exact hbw2.trans ⟨rfl, rfl, rfl, by simp, fun k hk => setRow_other w3 (w.heap.size + 2) k _ (by omega)⟩
theorem Leaf (A : Option Addr) (cap : Nat) (l : List UInt8) (w : World) (hc : Cs w A (l.map byteV)) (hl : 4 ≤ l.length) :
    Calls Tryz.prog 57 #[.slice A l.length cap] w fun e w' => e = .returned (.tuple #[.int .u32 ((word l 0).toNat : Int), .bool true]) ∧ ∃ q, w' = w.drewN q := by
  obtain ⟨b, off, rfl, hb, c0⟩ := hc.byte (l := l) (i := 0) (by omega)
  obtain ⟨_, _, e, _, c1⟩ := hc.byte (l := l) (i := 1) (by omega)
  cases e
  obtain ⟨_, _, e, _, c2⟩ := hc.byte (l := l) (i := 2) (by omega)
  cases e
  obtain ⟨_, _, e, _, c3⟩ := hc.byte (l := l) (i := 3) (by omega)
  cases e
  have hw := word4 l[0] l[1] l[2] l[3]
  rw [← word_first l (by omega)] at hw
  have HW := Lib.hid hw
  have hl4 : (4 : Int) ≤ (l.length : Int) := by omega
  rw [Nat.add_zero] at c0
  clear hw hc
  generalize l[0] = x0 at *
  generalize l[1] = x1 at *
  generalize l[2] = x2 at *
  generalize l[3] = x3 at *
  go_enter Tryz.func57, Tryz.ntmps57
  go_wp2_with fail
  go_quiet (fail)
  go_wp2_with fail
  go_ret2
  refine ⟨?_, nq, rfl⟩
  rw [← HW.out]
  rfl
end W
end Go.Proofs.YthogembgndkmpaaGreatDoor

/- The reference's Part, Cut, Short, Lock, Up, four. -/
namespace Go.Proofs.YthogembgndkmpaaGreatDoor
open Go.RowKit
namespace W
set_option maxRecDepth 100000 in
set_option maxHeartbeats 20000000 in
theorem PartR (B : Nat) (v : Value) (n : Nat) (xs : List UInt8) (A : Option Addr) (l : List UInt8) (cap : Nat) (w0 w : World) (hown : w.ownsRow B 5 1 v n (xs.map byteV)) (hB : B ≤ w.heap.size) (hc : Cs w0 A (l.map byteV)) (hw0 : Below w0.heap.size w0 w) (hB0 : w0.heap.size ≤ B) (hnl : n ≤ 900000) (hl : l.length ≤ 900000) :
    Calls Tryz.prog 69 #[v, .slice A l.length cap] w fun e w' => ∃ v', e = .returned v' ∧ w'.ownsRow B 5 1 v' (n + 4 + l.length) ((xs ++ lp l).map byteV) ∧ Below B w w' := by
  obtain ⟨i0, hi, hz0, hz1, hz2⟩ := info_parts info_u8
  have HV := Lib.hid (be4_vals l.length hl)
  have HC := Lib.hid (And.intro hc (And.intro hw0 hB0))
  clear hc hw0 hB0
  go_enter Tryz.func69, Tryz.ntmps69
  go_wp2_with (first
    | (at_builtin; refine wpList_pushN hown hB _ (by simp [Value.oneCell']) hi hz0 hz1 hz2 rfl rfl (.tmp 8) (.tmp 20) 28 Tryz.underlying28 rfl rfl rfl (by simp; unfold maxLen; omega) (by simp; omega) ?_; intro v1 w1 hown1 hbw1; rw [← HV.out, ← List.map_append] at hown1; have hok1 := Cs.below HC.out.1 (HC.out.2.1.trans (hbw1.mono HC.out.2.2)))
    | (at_builtin; refine wpList_bytes hown1 (Nat.le_trans hB hbw1.size) hok1 rfl (.tmp 21) (.tmp 22) Tryz.underlying28 rfl rfl rfl (by simp [Nm.be4]; omega) ?_; intro v2 w2 hown2 hbw2))
  go_ret
  refine ⟨_, rfl, ?_, hbw1.trans hbw2⟩
  have e1 : ((Nm.be4 l.length).map byteV).length = 4 := by simp [Nm.be4]
  rw [e1] at hown2
  unfold lp
  rw [← List.append_assoc]
  exact hown2
set_option maxRecDepth 100000 in
set_option maxHeartbeats 20000000 in
theorem CutR (A : Option Addr) (cap : Nat) (l : List UInt8) (w : World) (hc : Cs w A (l.map byteV)) (hl : l.length ≤ 1000000) :
    Calls Tryz.prog 70 #[.slice A l.length cap] w fun e w' => e = .returned (.agg (((sha ks0 l).take 8).map byteV).toArray) ∧ Below w.heap.size w w' := by
  have hbz0 : Below w.heap.size w (w.alloc (.cells z8 23)) := (Below.refl _ _).alloc (Nat.le_refl _) _
  have hz0 := heap_alloc_new w (.cells z8 23)
  have hS := RSum A cap l (w.alloc (.cells z8 23)) (hc.below hbz0) hl
  have hsl := sha_len ks0 l
  have HS := Lib.hid hS
  have HW := Lib.hid (And.intro hz0 hbz0)
  have hs1 : (w.alloc (.cells z8 23)).heap.size = w.heap.size + 1 := by simp
  clear hc hS hz0 hbz0
  generalize sha ks0 l = SH at *
  go_enter Tryz.func70, Tryz.ntmps70
  go_wp2_with fail
  refine HS.out.mono ?_
  rintro e w2 ⟨rfl, hb2⟩
  have hi32 : (Tryz.prog.info? 78).map (·.size) = some ((SH.map byteV).toArray.size) := by
    have : (Tryz.prog.info? 78).map (·.size) = some 32 := by kernel_rfl
    rw [this]
    simp [hsl]
  have hall : ((SH.map byteV).toArray).all (·.oneCell') = true := by simp [byteV, Value.oneCell']
  have hz : (w2.alloc (.cells z32 78)).heap[w2.heap.size]? = some (.cells z32 78 (0, 0)) := heap_alloc_new w2 _
  have hbz : Below w2.heap.size w2 (w2.alloc (.cells z32 78)) := (Below.refl _ _).alloc (Nat.le_refl _) _
  have hrb := setRow_heap (w2.alloc (.cells z32 78)) w2.heap.size _ (SH.map byteV).toArray _ _ hz
  have hbr : Below w2.heap.size w2 ((w2.alloc (.cells z32 78)).setRow w2.heap.size (SH.map byteV).toArray) := hbz.trans ⟨rfl, rfl, rfl, by simp, fun k hk => setRow_other (w2.alloc (.cells z32 78)) w2.heap.size k _ (by omega)⟩
  have hcz : z32.size = (SH.map byteV).toArray.size := by simp [z32, hsl]
  have hrng : ((w2.alloc (.cells z32 78)).setRow w2.heap.size (SH.map byteV).toArray).rangeAt w2.heap.size 0 ((SH.take 8).map byteV) := by
    intro j v hj
    rw [Nat.zero_add, cell_of_row _ _ _ _ _ _ hrb]
    rw [List.map_take, List.getElem?_take] at hj
    by_cases h8 : j < 8
    · rw [if_pos h8] at hj
      simpa using hj
    · rw [if_neg h8] at hj; cases hj
  have R : Row8 ((SH.take 8).map byteV).toArray (SH.take 8) := ⟨rfl, by simp [hsl]⟩
  have hw0 := lt_block HW.out.1
  have hz3 : ((w2.alloc (.cells z32 78)).setRow w2.heap.size (SH.map byteV).toArray).heap[w.heap.size]? = some (.cells z8 23 (0, 0)) := (hbr.block _ (Nat.lt_of_lt_of_le hw0 hb2.size)).trans ((hb2.block _ hw0).trans HW.out.1)
  have hl8 : ((SH.take 8).map byteV).length = 8 := by simp [hsl]
  have hbw := (HW.out.2.trans (hb2.mono HW.out.2.size)).trans (hbr.mono (Nat.le_trans HW.out.2.size hb2.size))
  generalize hcs : (SH.map byteV).toArray = cs at *
  have HX := Lib.hid (And.intro hz (And.intro hi32 (And.intro hcz (And.intro hall (And.intro hrng (And.intro hz3 hbw))))))
  clear hz hbz hrb hbr hrng hi32 hall hcz hcs hz3 hbw hb2
  go_wp2_with (first
    | (refine wpList_store_row rfl 78 (.tmp 3) (.tmp 5) rfl w2.heap.size cs rfl (by kernel_rfl) 78 z32 HX.out.1 HX.out.2.1 HX.out.2.2.1 HX.out.2.2.2.1 ?_; change wpList _ _ _ _ _ ((w2.alloc (.cells z32 78)).setRow w2.heap.size cs); have HV := Lib.hid HX.out.2.2.2.2; clear HX; generalize (w2.alloc (.cells z32 78)).setRow w2.heap.size cs = V9 at *)
    | (refine wpList_cut8 rfl (.tmp 3) rfl w2.heap.size rfl (wpList_at8 rfl (.tmp 6) rfl (some ⟨w2.heap.size, 0, none⟩) 8 32 rfl (Nat.le_refl _) (wpList_load_mid rfl 23 (.tmp 7) rfl w2.heap.size 0 rfl ((SH.take 8).map byteV) (.array 8 5) HV.out.1 Tryz.underlying23 rfl (by rw [hl8]; exact hi8) (wpList_store_row rfl 23 (.tmp 2) (.tmp 8) rfl w.heap.size ((SH.take 8).map byteV).toArray rfl rfl 23 z8 HV.out.2.1 R.info R.old R.all ?_)))))
  have hrb := setRow_heap V9 w.heap.size _ ((SH.take 8).map byteV).toArray _ _ HV.out.2.1
  refine bodyPost_ret (v := .agg ((SH.take 8).map byteV).toArray) (results_cell_row rfl _ _ w.heap.size 23 _ (0, 0) _ rfl hrb Tryz.underlying23 rfl R.info) rfl ⟨rfl, ?_⟩
  exact HV.out.2.2.trans ⟨rfl, rfl, rfl, by simp, fun k hk => setRow_other V9 w.heap.size k _ (by omega)⟩
def ShRR (tag : UInt8) (ps : List (List UInt8)) (B : Nat) (V : World) (v i : Value) (wr : World) : Prop := ∃ k : Nat, k ≤ ps.length ∧ i = .int .i64 (k : Int) ∧ wr.ownsRow B 5 1 v (1 + (parts (ps.take k)).length) ((tag :: parts (ps.take k)).map byteV) ∧ Below B V wr
set_option maxRecDepth 100000 in
set_option maxHeartbeats 20000000 in
theorem ShortR (tag : UInt8) (n0 : Int) (hn0 : n0 = (tag.toNat : Int)) (A : Option Addr) (m cap : Nat) (bs : List Blob) (hm : m = bs.length) (w : World) (hc : Cs w A (bs.map Blob.v)) (hb : Blobs w bs) (hn : bs.length ≤ 1000) (hl : (parts (bs.map (·.l))).length ≤ 900000) :
    Calls Tryz.prog 49 #[.int .u8 n0, .slice A m cap] w fun e w' => e = .returned (.agg ((short ks0 tag (bs.map (·.l))).map byteV).toArray) ∧ Below w.heap.size w w' := by
  subst hn0 hm
  have HB := Lib.hid hb
  clear hb
  go_enter Tryz.func49, Tryz.ntmps49
  go_wp2_with fail
  generalize hW1 : World.alloc _ _ = W1
  have hz1' : W1.heap[w.heap.size]? = some (.cells z8 23 (0, 0)) := by
    rw [← hW1]
    exact heap_alloc2_old w _ _
  have hb1 : Below w.heap.size w W1 := by
    rw [← hW1]
    exact ((Below.refl _ _).alloc (Nat.le_refl _) _).alloc (by simp) _
  have hown1 : W1.ownsRow (w.heap.size + 1) 5 1 (.slice (some ⟨w.heap.size + 1, 0, none⟩) 1 1) 1 ([tag].map byteV) := by
    rw [← hW1]
    have h := Nm.ownC (w.alloc (.cells z8 23)) (w.heap.size + 1) 5 ([tag].map byteV) (by simp) (by simp)
    rw [show (w.alloc (.cells z8 23)).heap.size = w.heap.size + 1 from by simp] at h
    exact h
  clear hW1
  go_loopw [5, 6] (fun v i wr => ShRR tag (bs.map (·.l)) (w.heap.size + 1) W1 v i wr) (fun _ i _ => bs.length - (intOf i).toNat)
  case atStart => exact ⟨0, Nat.zero_le _, rfl, by simpa [parts] using hown1, Below.refl _ _⟩
  case round =>
    obtain ⟨k, hk, rfl, hown, hbel⟩ := hrel
    rw [List.length_map] at hk
    have hpl := parts_take_le (bs.map (·.l)) k
    have hbw := hb1.trans (hbel.mono (Nat.le_succ _))
    have hB0 : w.heap.size + 1 ≤ wr.heap.size := Nat.le_trans (Nat.le_of_lt (hown1.lt _ rfl).2) hbel.size
    by_cases hlt : k < bs.length
    · obtain ⟨bk, off, rfl, hbl, hc0⟩ := Cs.blob hc hlt
      have hc1 := (bcl hbw hbl).trans hc0
      have hpt := parts_take (ps := bs.map (·.l)) (k := k) (by simpa using hlt)
      have hp1 := parts_take_le (bs.map (·.l)) (k + 1)
      rw [hpt] at hp1
      simp only [List.getElem_map, List.length_append, lp_len] at hp1 hpt
      have HP := Lib.hid hpt
      have hP := PartR (w.heap.size + 1) _ _ (tag :: parts (List.take k (bs.map (·.l)))) bs[k].A bs[k].l bs[k].cap w wr hown hB0 (HB.out bs[k] (List.getElem_mem hlt)) hbw (Nat.le_succ _) (by omega) (by omega)
      have HQ := Lib.hid (And.intro hP hbel)
      clear hpt hc0 hz1' hb1 hown1 hc hbw hbel hP hown
      generalize bs[k] = b at *
      generalize parts (List.take k (bs.map (·.l))) = xs at *
      generalize (parts (bs.map (·.l))).length = tot at *
      go_wp2_with fail
      refine HQ.out.1.mono ?_
      rintro e w2 ⟨v2, rfl, hown2, hb2⟩
      have hown3 : w2.ownsRow (w.heap.size + 1) 5 1 v2 (1 + (parts ((bs.map (·.l)).take (k + 1))).length) ((tag :: parts ((bs.map (·.l)).take (k + 1))).map byteV) := by
        rw [HP.out]
        have e : 1 + xs.length + 4 + b.l.length = 1 + (xs ++ lp b.l).length := by simp [lp_len]; omega
        rw [e] at hown2
        exact hown2
      have hbE := HQ.out.2.trans hb2
      clear hown2 hb2 HQ
      go_wp2_with fail
      refine ⟨⟨k + 1, by rw [List.length_map]; omega, by go_num, hown3, hbE⟩, by simp [intOf]; omega⟩
    · have hkl : k = bs.length := by omega
      subst hkl
      have ht : List.take bs.length (bs.map (·.l)) = bs.map (·.l) := List.take_of_length_le (by simp)
      rw [ht] at hown
      clear ht hpl
      obtain ⟨A1, c1, rfl, _, hcs⟩ := Cs.of_own hown
      have hzr : wr.heap[w.heap.size]? = some (.cells z8 23 (0, 0)) := (hbel.block _ (Nat.lt_succ_self _)).trans hz1'
      have hS := CutR A1 c1 (tag :: parts (bs.map (·.l))) wr hcs (by simp; omega)
      rw [show (tag :: parts (bs.map (·.l))).length = 1 + (parts (bs.map (·.l))).length from by simp; omega] at hS
      have R : Row8 (((sha ks0 (tag :: parts (bs.map (·.l)))).take 8).map byteV).toArray (short ks0 tag (bs.map (·.l))) := ⟨rfl, short_len _ _ _⟩
      have HS := Lib.hid hS
      have HW := Lib.hid (And.intro hzr hbw)
      clear hS hcs hzr hbw hbel hown hown1 hc hz1' hb1
      generalize (((sha ks0 (tag :: parts (bs.map (·.l)))).take 8).map byteV).toArray = c at *
      generalize (parts (bs.map (·.l))).length = L at *
      go_wp2_with fail
      refine HS.out.mono ?_
      rintro e w2 ⟨rfl, hb2⟩
      have hz2 := (hb2.block _ (lt_block HW.out.1)).trans HW.out.1
      have HZ := Lib.hid hz2
      have hbw2 := HW.out.2.trans (hb2.mono HW.out.2.size)
      clear hz2 hb2
      go_wp2_with (first
        | (refine wpList_store_row rfl 23 (.tmp 4) (.tmp 22) rfl w.heap.size c rfl rfl 23 z8 HZ.out R.info R.old R.all ?_))
      have hrb := setRow_heap w2 w.heap.size _ c _ _ HZ.out
      refine bodyPost_ret (v := .agg c) (results_cell_row rfl _ _ w.heap.size 23 c (0, 0) _ rfl hrb Tryz.underlying23 rfl R.info) rfl ⟨by rw [R.eq], ?_⟩
      exact hbw2.trans ⟨rfl, rfl, rfl, by simp, fun k hk => setRow_other w2 w.heap.size k _ (by omega)⟩
set_option maxRecDepth 100000 in
set_option maxHeartbeats 20000000 in
theorem LockR (A : Option Addr) (cap : Nat) (l : List UInt8) (w : World) (hc : Cs w A (l.map byteV)) (hl : l.length ≤ 100000) :
    Calls Tryz.prog 27 #[.slice A l.length cap] w fun e w' => e = .returned (.agg ((short ks0 2 [l]).map byteV).toArray) ∧ Below w.heap.size w w' := by
  have HC := Lib.hid hc
  have hll := lp_len l
  clear hc
  go_enter Tryz.func27, Tryz.ntmps27
  go_wp2_with fail
  generalize hW1 : World.alloc _ _ = W1
  have hz1 : W1.heap[w.heap.size]? = some (.cells z8 23 (0, 0)) := by
    rw [← hW1]
    exact heap_alloc2_old w _ _
  have hs1 : W1.heap[w.heap.size + 1]? = some (.cells #[.slice A l.length cap] 28 (0, 0)) := by
    rw [← hW1]
    exact heap_alloc2_new w _ _
  have hb1 : Below w.heap.size w W1 := by
    rw [← hW1]
    exact ((Below.refl _ _).alloc (Nat.le_refl _) _).alloc (by simp) _
  clear hW1
  have hcs : Cs W1 (some ⟨w.heap.size + 1, 0, none⟩) ([(⟨A, l, cap⟩ : Blob)].map Blob.v) := by
    intro i u hu
    refine ⟨_, _, rfl, lt_block hs1, ?_⟩
    rw [Nat.zero_add, cell_of_row _ _ _ _ _ _ hs1]
    simpa [Blob.v] using hu
  refine (ShortR 2 2 rfl _ 1 1 [(⟨A, l, cap⟩ : Blob)] rfl W1 hcs ?_ (by simp) ?_).mono ?_
  · intro b hb
    obtain rfl : b = ⟨A, l, cap⟩ := by simpa using hb
    exact Cs.below HC.out hb1
  · simp [parts]; omega
  rintro e w2 ⟨rfl, hb2⟩
  have R : Row8 ((short ks0 2 ([(⟨A, l, cap⟩ : Blob)].map (·.l))).map byteV).toArray (short ks0 2 [l]) := ⟨rfl, short_len _ _ _⟩
  generalize ((short ks0 2 ([(⟨A, l, cap⟩ : Blob)].map (·.l))).map byteV).toArray = c at *
  have hz2 := (hb2.block _ (lt_block hz1)).trans hz1
  have HZ := Lib.hid hz2
  have hbw := hb1.trans (hb2.mono hb1.size)
  clear hz2
  go_wp2_with (first
    | (refine wpList_store_row rfl 23 (.tmp 2) (.tmp 5) rfl w.heap.size c rfl rfl 23 z8 HZ.out R.info R.old R.all ?_))
  have hrb := setRow_heap w2 w.heap.size _ c _ _ HZ.out
  refine bodyPost_ret (v := .agg c) (results_cell_row rfl _ _ w.heap.size 23 c (0, 0) _ rfl hrb Tryz.underlying23 rfl R.info) rfl ⟨by rw [R.eq], ?_⟩
  exact hbw.trans ⟨rfl, rfl, rfl, by simp, fun k hk => setRow_other w2 w.heap.size k _ (by omega)⟩
end W
end Go.Proofs.YthogembgndkmpaaGreatDoor

/- signetref7.Up. -/
namespace Go.Proofs.YthogembgndkmpaaGreatDoor
open Go.RowKit
namespace W
set_option maxRecDepth 100000 in
set_option maxHeartbeats 20000000 in
theorem UpR (ca cb : Array Value) (la lb : List UInt8) (Ra : Row8 ca la) (Rb : Row8 cb lb) (w : World) :
    Calls Tryz.prog 22 #[.agg ca, .agg cb] w fun e w' => e = .returned (.agg ((short ks0 4 [la, lb]).map byteV).toArray) ∧ Below w.heap.size w w' := by
  go_enter Tryz.func22, Tryz.ntmps22
  go_wp2_with fail
  generalize hW1 : World.alloc _ _ = W1
  have hsa : W1.heap[w.heap.size]? = some (.cells ca 23 (0, 0)) := by
    rw [← hW1, Below.heap_alloc _ _ _ (by simp; omega), Below.heap_alloc _ _ _ (by simp)]
    exact heap_alloc_new w _
  have hsb : W1.heap[w.heap.size + 1]? = some (.cells cb 23 (0, 0)) := by
    rw [← hW1, Below.heap_alloc _ _ _ (by simp)]
    have h := heap_alloc_new (w.alloc (.cells ca 23)) (.cells cb 23)
    rw [show (w.alloc (.cells ca 23)).heap.size = w.heap.size + 1 from by simp] at h
    exact h
  have hsz : W1.heap[w.heap.size + 2]? = some (.cells z8 23 (0, 0)) := by
    rw [← hW1]
    have h := heap_alloc_new ((w.alloc (.cells ca 23)).alloc (.cells cb 23)) (.cells z8 23)
    rw [show ((w.alloc (.cells ca 23)).alloc (.cells cb 23)).heap.size = w.heap.size + 2 from by simp] at h
    exact h
  have hb1 : Below w.heap.size w W1 := by
    rw [← hW1]
    exact (((Below.refl _ _).alloc (Nat.le_refl _) _).alloc (by simp) _).alloc (by simp; omega) _
  clear hW1
  have H1 := Lib.hid (And.intro hsa (And.intro hsb (And.intro hsz hb1)))
  clear hsa hsb hsz hb1
  go_still_tail 2, mixed1
  change wpList _ _ _ _ _ (World.drew W1)
  have H2 : Hid (Cs (World.drew W1) (some ⟨w.heap.size, 0, none⟩) (la.map byteV) ∧ Cs (World.drew W1) (some ⟨w.heap.size + 1, 0, none⟩) (lb.map byteV) ∧ (World.drew W1).heap[w.heap.size + 2]? = some (.cells z8 23 (0, 0)) ∧ Below w.heap.size w (World.drew W1)) :=
    Lib.hid ⟨row8_cs Ra H1.out.1, row8_cs Rb H1.out.2.1, H1.out.2.2.1, H1.out.2.2.2.drew⟩
  clear H1
  generalize World.drew W1 = W2 at *
  have hw2 : w.heap.size + 2 < W2.heap.size := lt_block H2.out.2.2.1
  have hbz : Below W2.heap.size W2 (W2.alloc (.cells #[.slice (some ⟨w.heap.size, 0, none⟩) 8 8, .slice (some ⟨w.heap.size + 1, 0, none⟩) 8 8] 28)) := (Below.refl _ _).alloc (Nat.le_refl _) _
  have hs1 := heap_alloc_new W2 (.cells #[.slice (some ⟨w.heap.size, 0, none⟩) 8 8, .slice (some ⟨w.heap.size + 1, 0, none⟩) 8 8] 28)
  have hcs : Cs (W2.alloc (.cells #[.slice (some ⟨w.heap.size, 0, none⟩) 8 8, .slice (some ⟨w.heap.size + 1, 0, none⟩) 8 8] 28)) (some ⟨W2.heap.size, 0, none⟩) ([(⟨some ⟨w.heap.size, 0, none⟩, la, 8⟩ : Blob), ⟨some ⟨w.heap.size + 1, 0, none⟩, lb, 8⟩].map Blob.v) := by
    intro i u hu
    refine ⟨_, _, rfl, lt_block hs1, ?_⟩
    rw [Nat.zero_add, cell_of_row _ _ _ _ _ _ hs1]
    simp [Blob.v, Ra.len, Rb.len] at hu ⊢
    exact hu
  have h1a := lp_len la
  have h1b := lp_len lb
  have hra := Ra.len
  have hrb := Rb.len
  have hS := ShortR 4 4 rfl (some ⟨W2.heap.size, 0, none⟩) 2 2 [(⟨some ⟨w.heap.size, 0, none⟩, la, 8⟩ : Blob), ⟨some ⟨w.heap.size + 1, 0, none⟩, lb, 8⟩] rfl _ hcs (by
    intro b hb
    simp at hb
    rcases hb with rfl | rfl
    · exact Cs.below H2.out.1 hbz
    · exact Cs.below H2.out.2.1 hbz) (by simp) (by simp [parts]; omega)
  have R : Row8 ((short ks0 4 ([(⟨some ⟨w.heap.size, 0, none⟩, la, 8⟩ : Blob), ⟨some ⟨w.heap.size + 1, 0, none⟩, lb, 8⟩].map (·.l))).map byteV).toArray (short ks0 4 [la, lb]) := ⟨rfl, short_len _ _ _⟩
  generalize ((short ks0 4 ([(⟨some ⟨w.heap.size, 0, none⟩, la, 8⟩ : Blob), ⟨some ⟨w.heap.size + 1, 0, none⟩, lb, 8⟩].map (·.l))).map byteV).toArray = c at *
  have HS := Lib.hid hS
  have HZ0 := Lib.hid (And.intro H2.out.2.2.1 (And.intro H2.out.2.2.2 hbz))
  clear hS hcs hs1 hbz H2
  go_wp2_with fail
  refine HS.out.mono ?_
  rintro e w3 ⟨rfl, hb3⟩
  have hb4 : Below W2.heap.size W2 w3 := HZ0.out.2.2.trans (hb3.mono HZ0.out.2.2.size)
  have hz2 := (hb4.block _ hw2).trans HZ0.out.1
  have HZ := Lib.hid hz2
  have hbw2 := HZ0.out.2.1.trans (hb4.mono HZ0.out.2.1.size)
  clear hz2 hb4 hb3 HZ0 HS
  go_wp2_with (first
    | (refine wpList_store_row rfl 23 (.tmp 4) (.tmp 8) rfl (w.heap.size + 2) c rfl rfl 23 z8 HZ.out R.info R.old R.all ?_))
  have hrb2 := setRow_heap w3 (w.heap.size + 2) _ c _ _ HZ.out
  refine bodyPost_ret (v := .agg c) (results_cell_row rfl _ _ (w.heap.size + 2) 23 c (0, 0) _ rfl hrb2 Tryz.underlying23 rfl R.info) rfl ⟨by rw [R.eq], ?_⟩
  exact hbw2.trans ⟨rfl, rfl, rfl, by simp, fun k hk => setRow_other w3 (w.heap.size + 2) k _ (by omega)⟩
end W
end Go.Proofs.YthogembgndkmpaaGreatDoor

/- signetref3.Get; signetref7.Digest. -/
namespace Go.Proofs.YthogembgndkmpaaGreatDoor
open Go.RowKit
namespace W
def getU (l : List UInt8) : UInt32 := l.foldl (fun n b => (n <<< 8) ||| b.toUInt32) 0
theorem getU_snoc (l : List UInt8) (b : UInt8) : getU (l ++ [b]) = (getU l <<< 8) ||| b.toUInt32 := by unfold getU; rw [List.foldl_append]; rfl
theorem getU_take {l : List UInt8} {k : Nat} (h : k < l.length) : getU (l.take (k + 1)) = (getU (l.take k) <<< 8) ||| (l[k]).toUInt32 := by
  rw [List.take_succ_eq_append_getElem h, getU_snoc]
theorem getU4 (a b c d : UInt8) : getU [a, b, c, d] = word [a, b, c, d] 0 := by
  unfold getU word
  simp only [List.foldl_cons, List.foldl_nil, List.getD_cons_zero, List.getD_cons_succ, Nat.mul_zero, Nat.zero_add]
  generalize a.toUInt32 = A
  generalize b.toUInt32 = B
  generalize c.toUInt32 = C
  generalize d.toUInt32 = D
  apply UInt32.toBitVec_inj.1
  simp only [UInt32.toBitVec_or, UInt32.toBitVec_shiftLeft]
  simp
  rw [BitVec.shiftLeft_or_distrib, BitVec.shiftLeft_or_distrib, BitVec.shiftLeft_or_distrib, ← BitVec.shiftLeft_add, ← BitVec.shiftLeft_add, ← BitVec.shiftLeft_add]
def GetL (l : List UInt8) (w : World) (v i : Value) (wr : World) : Prop := ∃ k : Nat, k ≤ l.length ∧ i = .int .i64 (k : Int) ∧ v = .int .u32 ((getU (l.take k)).toNat : Int) ∧ wr = w
theorem getStep (n : UInt32) (b : UInt8) : bits .or .u32 ((n.toNat : Int) * 256 % 4294967296) ((b.toNat : Int) % 4294967296) = (((n <<< 8) ||| b.toUInt32).toNat : Int) := by
  have h1 := w_shl n 8 (by omega)
  rw [IntKind.wrap_u32', show ((2 : Int) ^ 8) = 256 from rfl] at h1
  have h2 := u8_u32 b
  rw [IntKind.wrap_u32'] at h2
  rw [h1, h2, w_or]
  rfl
set_option maxHeartbeats 1000000 in
theorem GetR (A : Option Addr) (cap : Nat) (l : List UInt8) (w : World) (hc : Cs w A (l.map byteV)) (hl : l.length ≤ 1000) :
    Calls Tryz.prog 51 #[.slice A l.length cap] w fun e w' => e = .returned (.int .u32 ((getU l).toNat : Int)) ∧ w' = w := by
  go_enter Tryz.func51, Tryz.ntmps51
  go_wp2_with fail
  go_loopw [3, 4] (fun v i wr => GetL l w v i wr) (fun _ i _ => l.length - (intOf i).toNat)
  case atStart => exact ⟨0, Nat.zero_le _, rfl, rfl, rfl⟩
  case round =>
    obtain ⟨k, hk, rfl, rfl, hwr⟩ := hrel
    rw [hwr]
    clear hwr
    by_cases hlt : k < l.length
    · obtain ⟨b, off, rfl, hb, c0⟩ := hc.byte (l := l) (i := k) hlt
      have ht := getU_take hlt
      have hst := getStep (getU (l.take k)) l[k]
      rw [← ht] at hst
      have HS := Lib.hid hst
      clear ht hst
      generalize l[k] = x at *
      generalize getU (l.take k) = n at *
      go_wp2_with fail
      rw [HS.out]
      exact ⟨⟨k + 1, by omega, by go_num, rfl, rfl⟩, by simp [intOf]; omega⟩
    · have hkl : k = l.length := by omega
      subst hkl
      rw [List.take_length]
      go_wp2_with fail
      go_ret
      exact ⟨rfl, rfl⟩
set_option maxRecDepth 100000 in
set_option maxHeartbeats 20000000 in
theorem DigestR (A : Option Addr) (cap : Nat) (b : List UInt8) (w : World) (hb : Cs w A (b.map byteV)) (hbl : b.length ≤ 1000000) :
    Calls Tryz.prog 25 #[.slice A b.length cap] w fun e w' => e = .returned (.int .u32 ((dig ks0 b).toNat : Int)) ∧ Below w.heap.size w w' := by
  have HS := Lib.hid (RSum A cap b w hb hbl)
  have hsl := sha_len ks0 b
  have HD : Hid (dig ks0 b = word (sha ks0 b) 0) := Lib.hid rfl
  clear hb
  go_enter Tryz.func25, Tryz.ntmps25
  go_wp2_with fail
  refine HS.out.mono ?_
  rintro e w2 ⟨rfl, hb2⟩
  have hi32 : (Tryz.prog.info? 78).map (·.size) = some (((sha ks0 b).map byteV).toArray.size) := by
    have : (Tryz.prog.info? 78).map (·.size) = some 32 := by kernel_rfl
    rw [this]
    simp [hsl]
  have hall : (((sha ks0 b).map byteV).toArray).all (·.oneCell') = true := by simp [byteV, Value.oneCell']
  have hz : (w2.alloc (.cells z32 78)).heap[w2.heap.size]? = some (.cells z32 78 (0, 0)) := heap_alloc_new w2 _
  have hbz : Below w2.heap.size w2 (w2.alloc (.cells z32 78)) := (Below.refl _ _).alloc (Nat.le_refl _) _
  have hrb : ArrB ((w2.alloc (.cells z32 78)).setRow w2.heap.size ((sha ks0 b).map byteV).toArray) w2.heap.size 78 (sha ks0 b) := setRow_heap (w2.alloc (.cells z32 78)) w2.heap.size _ ((sha ks0 b).map byteV).toArray _ _ hz
  have hbr : Below w2.heap.size w2 ((w2.alloc (.cells z32 78)).setRow w2.heap.size ((sha ks0 b).map byteV).toArray) := hbz.trans ⟨rfl, rfl, rfl, by simp, fun k hk => setRow_other (w2.alloc (.cells z32 78)) w2.heap.size k _ (by omega)⟩
  have hcz : z32.size = ((sha ks0 b).map byteV).toArray.size := by simp [z32, hsl]
  generalize sha ks0 b = SH at *
  generalize hcs : (SH.map byteV).toArray = cs at *
  have HX := Lib.hid (And.intro hz (And.intro hi32 (And.intro hcz (And.intro hall (And.intro hbr hrb)))))
  clear hz hbz hrb hbr hi32 hall hcz hcs
  go_wp2_with (first
    | (refine wpList_store_row rfl 78 (.tmp 3) (.tmp 5) rfl w2.heap.size cs rfl (by kernel_rfl) 78 z32 HX.out.1 HX.out.2.1 HX.out.2.2.1 HX.out.2.2.2.1 ?_; change wpList _ _ _ _ _ ((w2.alloc (.cells z32 78)).setRow w2.heap.size cs); have hbV := HX.out.2.2.2.2.1; have hrV := HX.out.2.2.2.2.2; generalize (w2.alloc (.cells z32 78)).setRow w2.heap.size cs = V9 at *; have HRV := Lib.hid hrV; have HBV := Lib.hid hbV; clear hrV hbV))
  have hcs4 : Cs V9 (some ⟨w2.heap.size, 0, none⟩) ((SH.take 4).map byteV) := by
    have g := (HRV.out.cs 0).take' 4
    rw [List.drop_zero, ← List.map_take] at g
    exact g
  have hG := GetR (some ⟨w2.heap.size, 0, none⟩) 32 (SH.take 4) V9 hcs4 (by simp [hsl])
  rw [show (SH.take 4).length = 4 from by simp [hsl]] at hG
  refine hG.mono ?_
  rintro e w3 ⟨rfl, rfl⟩
  go_wp2_with fail
  go_ret
  refine ⟨ret_int ?_, hb2.trans (HBV.out.mono hb2.size)⟩
  have e4 : SH.take 4 = [SH[0], SH[1], SH[2], SH[3]] := by
    rcases SH with _ | ⟨y0, _ | ⟨y1, _ | ⟨y2, _ | ⟨y3, t⟩⟩⟩⟩
    all_goals first
      | (simp at hsl; done)
      | rfl
  rw [HD.out, word_first SH (by omega), e4, getU4]
end W
end Go.Proofs.YthogembgndkmpaaGreatDoor

/- signetref3.Soa: a SOA's data, read by the reference. -/
namespace Go.Proofs.YthogembgndkmpaaGreatDoor
open Go.RowKit
namespace Nm
theorem sliceDropN (A : Option Addr) (n c k : Nat) (I : Int) (hI : I = (k : Int)) (h1 : k ≤ n) (h2 : n ≤ c) (W : World) : (Instr.sliceAt 28 (.slice A n c) (some (.int .i64 I)) none none).run Tryz.prog W = .ok (.slice (piece A c k) (n - k) (c - k)) W := by
  subst hI
  unfold piece
  by_cases hc : c = k
  · have hn : n = k := by omega
    subst hc
    subst hn
    simp [go_sem]
  · have h3 : (k : Int) ≤ (n : Int) := by omega
    have h4 : (n : Int) ≤ (c : Int) := by omega
    simp [go_sem, hc, h1, h2, h3, h4]
theorem wpList_dropN {ops : Array Oper} {rest : List Oper} {o : Oper} {a : Act} {w : World} {Q : Exit → Act → World → Prop} (hgd : o.guard = none) (x lo : Operand) (ho : o.op = .slice 28 x (some lo) none none)
    {A : Option Addr} {n c k : Nat} {I : Int} (hx : a.eval x = .slice A n c) (hlo : a.eval lo = .int .i64 I) (hI : I = (k : Int)) (h1 : k ≤ n) (h2 : n ≤ c) (h : wpList Tryz.prog ops Q rest (a.put o.dst (.slice (piece A c k) (n - k) (c - k))) w) : wpList Tryz.prog ops Q (o :: rest) a w := by
  refine wpList_plain hgd fun K hK => ?_
  have hs := sliceDropN A n c k I hI h1 h2 w
  unfold Oper.wp execOp
  simp only [ho, hx, hlo, Sem.run_bind, Sem.run_pure, Result.andThen_ok, Option.map_some, Option.map_none, hs]
  exact hK _ _ h
theorem snoc_ind {P : Lab → Prop} (h0 : P []) (h1 : ∀ l b, P l → P (l ++ [b])) (l : Lab) : P l := by
  have : ∀ n, ∀ l : Lab, l.length = n → P l := by
    intro n
    induction n with
    | zero => intro l h; rw [List.eq_nil_of_length_eq_zero h]; exact h0
    | succ n ih =>
      intro l h
      have hne : l ≠ [] := by intro e; subst e; cases h
      have e := List.dropLast_concat_getLast hne
      rw [← e]
      exact h1 _ _ (ih _ (by rw [List.length_dropLast]; omega))
  exact this _ l rfl
theorem openK_le (b : Lab) : openK b ≤ b.length := by
  cases h : openO b with
  | none => rw [(openO_none h).2.2]; omega
  | some p =>
    obtain ⟨n, k⟩ := p
    rw [(openO_some h).2.2.2.2]
    exact (openO_le h).1
theorem getU_num (l : Lab) : (W.getU l).toNat = numOf l 0 := by
  refine snoc_ind (P := fun l => (W.getU l).toNat = numOf l 0) rfl (fun l b ih => ?_) l
  rw [W.getU_snoc, numOf_snoc, ← ih]
  have h1 := W.getStep (W.getU l) b
  have h2 := or8 (W.getU l).toNat b.toNat (UInt8.toNat_lt b)
  have hb : ((b.toNat : Int) % 4294967296) = (b.toNat : Int) := by have := UInt8.toNat_lt b; omega
  rw [hb] at h1
  have h3 := h1.symm.trans h2
  exact_mod_cast h3
set_option maxRecDepth 100000 in
set_option maxHeartbeats 20000000 in
theorem RSoa (A : Option Addr) (l : Lab) (cap : Nat) (w : World) (hc : Cs w A (l.map byteV)) (hl : l.length ≤ 100000) (hcap : l.length ≤ cap) (hcap2 : cap ≤ maxLen) :
    Calls Tryz.prog 77 #[.slice A l.length cap] w fun e w' => Below w.heap.size w w' ∧ ∃ v, e = .returned (.tuple #[v, .int .i64 (code50 (soaB l))]) ∧ SoaPost w w' l v := by
  go_enter Tryz.func77, Tryz.ntmps77
  go_wp2_with fail
  generalize hw2 : w.alloc (.cells #[.slice none 0 0, .slice none 0 0, .int .u32 0, .int .u32 0, .int .u32 0, .int .u32 0, .int .u32 0] 76) = w2
  have hb2 : Below w.heap.size w w2 := by rw [← hw2]; exact (Below.refl _ _).alloc (Nat.le_refl _) _
  have hz2 : w2.heap.size = w.heap.size + 1 := by rw [← hw2]; simp
  have q2 : w2.heap[w.heap.size]? = some (.cells #[.slice none 0 0, .slice none 0 0, .int .u32 0, .int .u32 0, .int .u32 0, .int .u32 0, .int .u32 0] 76 (0, 0)) := by rw [← hw2]; exact heap_alloc_new w _
  clear hw2
  have bad : ∀ W, Below w2.heap.size w2 W → W.heap[w.heap.size]? = some (.cells #[.slice none 0 0, .slice none 0 0, .int .u32 0, .int .u32 0, .int .u32 0, .int .u32 0, .int .u32 0] 76 (0, 0)) ∧ Below w.heap.size w W := fun W h => ⟨(h.block _ (by omega)).trans q2, hb2.trans (h.mono (by omega))⟩
  have HB := Lib.hid bad
  refine (RNOpen A l cap w2 (hc.below hb2) hl hcap hcap2).mono ?_
  rintro e w3 ⟨v1, rfl, hown1, hb3⟩
  clear bad
  have hcases : (∃ m i, openO l = some (m, i) ∧ openE l = 0 ∧ openN l = m ∧ openK l = i ∧ i ≤ l.length) ∨ (soaB l = false ∧ ¬ openE l = 0) := by
    cases h1 : openO l with
    | none => exact .inr ⟨by unfold soaB soaO; rw [h1]; rfl, (openO_none h1).1⟩
    | some p =>
      obtain ⟨m, i⟩ := p
      obtain ⟨_, _, g1, g2, g3⟩ := openO_some h1
      exact .inl ⟨m, i, rfl, g1, g2, g3, (openO_le h1).1⟩
  rcases hcases with ⟨m, i, hO1, hE1, hN1, hK1, hi⟩ | ⟨hso, hE1⟩
  · rw [hN1] at hown1
    rw [hE1, hK1]
    have hcs : Cs w3 (piece A cap i) ((l.drop i).map byteV) := by
      have := ((hc.below hb2).below hb3).drop' i cap (by simpa using hcap)
      rw [← List.map_drop] at this; exact this
    have hlk : (l.drop i).length = l.length - i := List.length_drop
    have hi2 : i ≤ cap := by omega
    have HO2 : Hid (∀ W, Below w3.heap.size w3 W → Calls Tryz.prog 76 #[.slice (piece A cap i) (l.length - i) (cap - i)] W fun e w' => ∃ v, e = .returned (.tuple #[v, .int .i64 (openK (l.drop i) : Int), .int .i64 (openE (l.drop i))]) ∧ w'.ownsRow W.heap.size 9 1 v (openN (l.drop i)).length ((openN (l.drop i)).map strV) ∧ Below W.heap.size W w') := Lib.hid fun W hW => by
      have := RNOpen (piece A cap i) (l.drop i) (cap - i) W (hcs.below hW) (by omega) (by omega) (by omega)
      rw [hlk] at this
      exact this
    have hcases2 : (∃ x k, openO (l.drop i) = some (x, k) ∧ openE (l.drop i) = 0 ∧ openN (l.drop i) = x ∧ openK (l.drop i) = k ∧ l.length = i + k + 20 ∧ soaB l = true) ∨ (soaB l = false ∧ (¬ openE (l.drop i) = 0 ∨ (openE (l.drop i) = 0 ∧ ¬ l.length = i + openK (l.drop i) + 20))) := by
      cases h1 : openO (l.drop i) with
      | none => exact .inr ⟨by unfold soaB soaO; rw [hO1]; simp only []; rw [h1]; rfl, .inl (openO_none h1).1⟩
      | some p =>
        obtain ⟨x, k⟩ := p
        obtain ⟨_, _, g1, g2, g3⟩ := openO_some h1
        have hs := (soa_some hO1 h1).2.2.2.2
        by_cases hk : l.length = i + k + 20
        · exact .inl ⟨x, k, rfl, g1, g2, g3, hk, by unfold soaB; rw [hs]; simp [hk]⟩
        · exact .inr ⟨by unfold soaB; rw [hs]; simp [hk], .inr ⟨g1, by rw [g3]; exact hk⟩⟩
    have hH1 := hown1
    have H1 := Lib.hid (And.intro hown1 (And.intro hcs hb3))
    clear hown1 hcs hH1
    go_wp2_with (first
      | (refine wpList_dropN rfl (.tmp 21) (.tmp 22) rfl (A := A) (n := l.length) (c := cap) (k := i) rfl rfl rfl hi hcap ?_))
    refine (HO2.out w3 (Below.refl _ _)).mono ?_
    rintro e w4 ⟨v2, rfl, hown2, hb4⟩
    have hb24 := H1.out.2.2.trans (hb4.mono H1.out.2.2.size)
    obtain ⟨q4, hbw4⟩ := HB.out w4 hb24
    rcases hcases2 with ⟨x, k, hO2, hE2, hN2, hK2, hlen, hso⟩ | ⟨hso, hbad⟩
    · rw [hN2] at hown2
      rw [hE2, hK2]
      have hik : i + k < l.length := by omega
      obtain ⟨bk, off, rfl, hbl, _⟩ := Cs.byte hc hik
      have hc10 : Cs w4 (some ⟨bk, off + (i + k), none⟩) ((l.drop (i + k)).map byteV) := by
        have := (hc.below hbw4).drop' (i + k) cap (by simpa using hcap)
        rw [if_neg (by omega), Option.map_some, add_plain, ← List.map_drop] at this; exact this
      have hrl : (l.drop (i + k)).length = 20 := by rw [List.length_drop]; omega
      have hsm := (soa_some hO1 hO2)
      have HSM : Hid (soaM l = ⟨m, x, numOf ((l.drop (i + k)).take 4) 0, numOf (((l.drop (i + k)).drop 4).take 4) 0, numOf (((l.drop (i + k)).drop 8).take 4) 0, numOf (((l.drop (i + k)).drop 12).take 4) 0, numOf ((l.drop (i + k)).drop 16) 0⟩) := Lib.hid (by
        unfold soaM
        rw [hsm.2.2.2.1, hsm.1, hsm.2.1, hsm.2.2.1, List.drop_drop, List.drop_drop, List.drop_drop, List.drop_drop]
        rw [List.take_of_length_le (show (l.drop (i + k + 16)).length ≤ 4 by rw [List.length_drop]; omega)])
      have hg : ∀ W : World, (∀ p, W.cell? p = w4.cell? p) → W.heap.size = w4.heap.size → Calls Tryz.prog 51 #[.slice (some ⟨bk, off + (i + k), none⟩) 4 (cap - (i + k))] W (fun e w' => e = .returned (.int .u32 ((numOf ((l.drop (i + k)).take 4) 0 : Nat) : Int)) ∧ w' = W) ∧
          Calls Tryz.prog 51 #[.slice (some ⟨bk, off + (i + k) + 4, none⟩) 4 (cap - (i + k) - 4)] W (fun e w' => e = .returned (.int .u32 ((numOf (((l.drop (i + k)).drop 4).take 4) 0 : Nat) : Int)) ∧ w' = W) ∧
          Calls Tryz.prog 51 #[.slice (some ⟨bk, off + (i + k) + 8, none⟩) 4 (cap - (i + k) - 8)] W (fun e w' => e = .returned (.int .u32 ((numOf (((l.drop (i + k)).drop 8).take 4) 0 : Nat) : Int)) ∧ w' = W) ∧
          Calls Tryz.prog 51 #[.slice (some ⟨bk, off + (i + k) + 12, none⟩) 4 (cap - (i + k) - 12)] W (fun e w' => e = .returned (.int .u32 ((numOf (((l.drop (i + k)).drop 12).take 4) 0 : Nat) : Int)) ∧ w' = W) ∧
          Calls Tryz.prog 51 #[.slice (some ⟨bk, off + (i + k) + 16, none⟩) 4 (cap - (i + k) - 16)] W (fun e w' => e = .returned (.int .u32 ((numOf ((l.drop (i + k)).drop 16) 0 : Nat) : Int)) ∧ w' = W) := by
        intro W hcell hsz
        generalize l.drop (i + k) = r at *
        have hcW : Cs W (some ⟨bk, off + (i + k), none⟩) (r.map byteV) := fun j u hu => by
          obtain ⟨b, o, e, h1, h2⟩ := hc10 j u hu
          exact ⟨b, o, e, by rw [hsz]; exact h1, by rw [hcell]; exact h2⟩
        have hd : ∀ j, j < 20 → Cs W (some ⟨bk, off + (i + k) + j, none⟩) ((r.drop j).map byteV) := fun j hj => by
          have := hcW.drop' j (cap - (i + k)) (by rw [List.length_map]; omega)
          rw [if_neg (by omega), Option.map_some, add_plain, ← List.map_drop] at this; exact this
        have ht : ∀ j, j + 4 ≤ 20 → ∀ c, Calls Tryz.prog 51 #[.slice (some ⟨bk, off + (i + k) + j, none⟩) 4 c] W (fun e w' => e = .returned (.int .u32 ((numOf ((r.drop j).take 4) 0 : Nat) : Int)) ∧ w' = W) := fun j hj c => by
          have h1 := (hd j (by omega)).take' 4
          rw [← List.map_take] at h1
          have h2 := _root_.Go.Proofs.YthogembgndkmpaaGreatDoor.W.GetR (some ⟨bk, off + (i + k) + j, none⟩) c ((r.drop j).take 4) W h1 (by rw [List.length_take]; omega)
          rw [getU_num] at h2
          rw [show ((r.drop j).take 4).length = 4 from by rw [List.length_take, List.length_drop]; omega] at h2
          exact h2
        have h16 := ht 16 (by omega) (cap - (i + k) - 16)
        rw [List.take_of_length_le (show (r.drop 16).length ≤ 4 by rw [List.length_drop]; omega)] at h16
        exact ⟨ht 0 (by omega) _, ht 4 (by omega) _, ht 8 (by omega) _, ht 12 (by omega) _, h16⟩
      have HG := Lib.hid (hg w4.drew (fun _ => rfl) rfl)
      obtain ⟨u0, u1, u2, u3, u4, u5, u6, uf⟩ := cells7 q4
      have uf0 := uf 0
      have uf1 := uf 1
      have uf2 := uf 2
      have uf3 := uf 3
      have uf4 := uf 4
      have uf5 := uf 5
      have uf6 := uf 6
      have hown1' : w4.ownsRow w2.heap.size 9 1 v1 m.length (m.map strV) := own_below H1.out.1 (hb4.mono (Nat.le_refl _))
      obtain ⟨A1, c1, rfl, _, _⟩ := Cs.of_own hown1'
      obtain ⟨A2, c2, rfl, _, _⟩ := Cs.of_own hown2
      have HR := Lib.hid (And.intro hown1' (And.intro hown2 (And.intro q4 (And.intro hbw4 (And.intro hso hb4)))))
      clear hg hc10 hsm hO1 hO2 hE1 hE2 hN1 hN2 hK1 hK2 H1 HO2 hown1' hown2 q4 hc hbl uf hso hbw4 hb24 hb4
      generalize numOf ((l.drop (i + k)).take 4) 0 = n1 at *
      generalize numOf (((l.drop (i + k)).drop 4).take 4) 0 = n2 at *
      generalize numOf (((l.drop (i + k)).drop 8).take 4) 0 = n3 at *
      generalize numOf (((l.drop (i + k)).drop 12).take 4) 0 = n4 at *
      generalize numOf ((l.drop (i + k)).drop 16) 0 = n5 at *
      generalize hik2 : i + k = ik at *
      have hpc : piece (some ⟨bk, off, none⟩) cap ik = some ⟨bk, off + ik, none⟩ := by unfold piece; rw [if_neg (by omega), Option.map_some, add_plain]
      go_wp2_with (first
        | (refine wpList_dropN rfl (.tmp 40) (.tmp 43) rfl (A := some ⟨bk, off, none⟩) (n := l.length) (c := cap) (k := ik) rfl rfl (by omega) (by omega) hcap ?_; rw [hpc]))
      generalize hcc : cap - ik = cc at *
      have l20 : 20 ≤ cc := by omega
      have l4 : (4 : Int) ≤ (cc : Int) := by omega
      have l8 : (8 : Int) ≤ (cc : Int) := by omega
      have l12 : (12 : Int) ≤ (cc : Int) := by omega
      have l16 : (16 : Int) ≤ (cc : Int) := by omega
      have p4 : ¬ cc = 4 := by omega
      have p8 : ¬ cc = 8 := by omega
      have p12 : ¬ cc = 12 := by omega
      have p16 : ¬ cc = 16 := by omega
      have q20 : (20 : Int) ≤ (cc : Int) := by omega
      refine wp_region_still_tail 18 mixed (by kernel_rfl) ?_
      simp only [List.take_succ_cons, List.take_zero, List.drop_succ_cons, List.drop_zero]
      repeat still_step
      still_call HG.out.1
      repeat still_step
      still_call HG.out.2.1
      repeat still_step
      still_call HG.out.2.2.1
      repeat still_step
      still_call HG.out.2.2.2.1
      repeat still_step
      still_call HG.out.2.2.2.2
      repeat still_step
      refine wpStill_nil ?_
      change wpList _ _ _ _ _ w4.drew
      have hR2 : w4.drew.ownsRow w2.heap.size 9 1 (.slice A1 m.length c1) m.length (m.map strV) ∧ w4.drew.ownsRow w3.heap.size 9 1 (.slice A2 x.length c2) x.length (x.map strV) ∧ w4.drew.heap[w.heap.size]? = some (.cells #[.slice none 0 0, .slice none 0 0, .int .u32 0, .int .u32 0, .int .u32 0, .int .u32 0, .int .u32 0] 76 (0, 0)) ∧ Below w.heap.size w w4.drew :=
        ⟨HR.out.1, HR.out.2.1, HR.out.2.2.1, below_drew HR.out.2.2.2.1⟩
      have hsz3 : w.heap.size < w3.heap.size := by have := hb3.size; omega
      have hso := HR.out.2.2.2.2.1
      clear u0 u1 u2 u3 u4 u5 u6 uf0 uf1 uf2 uf3 uf4 uf5 uf6 HG HR
      generalize w4.drew = w5 at *
      obtain ⟨ho1, ho2, q5, hb5⟩ := hR2
      obtain ⟨u0, u1, u2, u3, u4, u5, u6, uf⟩ := cells7 q5
      have uf0 := uf 0
      have uf1 := uf 1
      have uf2 := uf 2
      have uf3 := uf 3
      have uf4 := uf 4
      have uf5 := uf 5
      have uf6 := uf 6
      have HQ := Lib.hid (And.intro ho1 (And.intro ho2 (And.intro q5 (And.intro hb5 hso))))
      clear ho1 ho2 q5 hb5 hso
      go_wp2_with fail
      obtain ⟨qA, hkA⟩ := set7 HQ.out.2.2.1 (.slice A1 m.length c1) (.slice A2 x.length c2) (.int .u32 n1) (.int .u32 n2) (.int .u32 n3) (.int .u32 n4) (.int .u32 n5) rfl
      have hbF := HQ.out.2.2.2.1.trans (hkA.below (B := w.heap.size) (Nat.le_trans (by omega) (lt_block HQ.out.2.2.1)) (fun k hk => by omega))
      have hownM2 := Kept.row HQ.out.1 hkA (fun k hk => by have := (HQ.out.1.lt k hk).1; omega)
      have hownX2 := Kept.row HQ.out.2.1 hkA (fun k hk => by have := (HQ.out.2.1.lt k hk).1; omega)
      generalize (((((((w5.setCell ⟨w.heap.size, 0, none⟩ (.slice A1 m.length c1)).setCell ⟨w.heap.size, 1, none⟩ (.slice A2 x.length c2)).setCell ⟨w.heap.size, 2, none⟩ (.int .u32 n1)).setCell ⟨w.heap.size, 3, none⟩ (.int .u32 n2)).setCell ⟨w.heap.size, 4, none⟩ (.int .u32 n3)).setCell ⟨w.heap.size, 5, none⟩ (.int .u32 n4)).setCell ⟨w.heap.size, 6, none⟩ (.int .u32 n5)) = w6 at *
      obtain ⟨z0, z1, z2, z3, z4, z5, z6, _⟩ := cells7 qA
      have hso := HQ.out.2.2.2.2
      refine bodyPost_ret (v := .tuple #[.agg #[.slice A1 m.length c1, .slice A2 x.length c2, .int .u32 n1, .int .u32 n2, .int .u32 n3, .int .u32 n4, .int .u32 n5], .int .i64 (code50 (soaB l))]) ?_ rfl ⟨hbF, _, rfl, (fun h => by rw [hso] at h; cases h), fun _ => ⟨A1, c1, A2, c2, ?_, ?_, ?_⟩⟩
      · simp [results, Tryz.results77, go_sem, z0, z1, z2, z3, z4, z5, z6, hso, code50]
      · rw [HSM.out]; rfl
      · rw [HSM.out]; exact own_base hownM2 (by omega)
      · rw [HSM.out]; exact own_base hownX2 (by omega)
    · obtain ⟨u0, u1, u2, u3, u4, u5, u6, uf⟩ := cells7 q4
      have uf0 := uf 0
      have uf1 := uf 1
      have uf2 := uf 2
      have uf3 := uf 3
      have uf4 := uf 4
      have uf5 := uf 5
      have uf6 := uf 6
      have HQ := Lib.hid (And.intro q4 hbw4)
      clear q4 hbw4 H1 HO2 hown2 hO1
      have hKl := openK_le (l.drop i)
      rw [hlk] at hKl
      generalize openE (l.drop i) = E at *
      generalize openK (l.drop i) = K at *
      rcases hbad with hbad | ⟨hbad, hlen⟩
      · go_wp2_with fail
        obtain ⟨qA, hkA⟩ := set7 HQ.out.1 (.slice none 0 0) (.slice none 0 0) (.int .u32 0) (.int .u32 0) (.int .u32 0) (.int .u32 0) (.int .u32 0) rfl
        have hbF := HQ.out.2.trans (hkA.below (B := w.heap.size) (Nat.le_trans (by omega) (lt_block HQ.out.1)) (fun k hk => by omega))
        generalize (((((((w4.setCell ⟨w.heap.size, 0, none⟩ (.slice none 0 0)).setCell ⟨w.heap.size, 1, none⟩ (.slice none 0 0)).setCell ⟨w.heap.size, 2, none⟩ (.int .u32 0)).setCell ⟨w.heap.size, 3, none⟩ (.int .u32 0)).setCell ⟨w.heap.size, 4, none⟩ (.int .u32 0)).setCell ⟨w.heap.size, 5, none⟩ (.int .u32 0)).setCell ⟨w.heap.size, 6, none⟩ (.int .u32 0)) = w6 at *
        obtain ⟨z0, z1, z2, z3, z4, z5, z6, _⟩ := cells7 qA
        refine bodyPost_ret (v := .tuple #[.agg #[.slice none 0 0, .slice none 0 0, .int .u32 0, .int .u32 0, .int .u32 0, .int .u32 0, .int .u32 0], .int .i64 (code50 (soaB l))]) ?_ rfl ⟨hbF, _, rfl, fun _ => rfl, (fun h => by rw [hso] at h; cases h)⟩
        simp [results, Tryz.results77, go_sem, z0, z1, z2, z3, z4, z5, z6, hso, code50]
      · subst hbad
        have hne : ((l.length : Int) != (i : Int) + (K : Int) + 20) = true := by simp; omega
        go_wp2_with fail
        obtain ⟨qA, hkA⟩ := set7 HQ.out.1 (.slice none 0 0) (.slice none 0 0) (.int .u32 0) (.int .u32 0) (.int .u32 0) (.int .u32 0) (.int .u32 0) rfl
        have hbF := HQ.out.2.trans (hkA.below (B := w.heap.size) (Nat.le_trans (by omega) (lt_block HQ.out.1)) (fun k hk => by omega))
        generalize (((((((w4.setCell ⟨w.heap.size, 0, none⟩ (.slice none 0 0)).setCell ⟨w.heap.size, 1, none⟩ (.slice none 0 0)).setCell ⟨w.heap.size, 2, none⟩ (.int .u32 0)).setCell ⟨w.heap.size, 3, none⟩ (.int .u32 0)).setCell ⟨w.heap.size, 4, none⟩ (.int .u32 0)).setCell ⟨w.heap.size, 5, none⟩ (.int .u32 0)).setCell ⟨w.heap.size, 6, none⟩ (.int .u32 0)) = w6 at *
        obtain ⟨z0, z1, z2, z3, z4, z5, z6, _⟩ := cells7 qA
        refine bodyPost_ret (v := .tuple #[.agg #[.slice none 0 0, .slice none 0 0, .int .u32 0, .int .u32 0, .int .u32 0, .int .u32 0, .int .u32 0], .int .i64 (code50 (soaB l))]) ?_ rfl ⟨hbF, _, rfl, fun _ => rfl, (fun h => by rw [hso] at h; cases h)⟩
        simp [results, Tryz.results77, go_sem, z0, z1, z2, z3, z4, z5, z6, hso, code50]
  · obtain ⟨q4, hbw4⟩ := HB.out w3 hb3
    generalize hw43 : w3 = w4 at *
    clear hw43
    obtain ⟨u0, u1, u2, u3, u4, u5, u6, uf⟩ := cells7 q4
    have uf0 := uf 0
    have uf1 := uf 1
    have uf2 := uf 2
    have uf3 := uf 3
    have uf4 := uf 4
    have uf5 := uf 5
    have uf6 := uf 6
    have HQ := Lib.hid (And.intro q4 hbw4)
    clear q4 hbw4 hown1
    generalize openE l = E at *
    go_wp2_with fail
    obtain ⟨qA, hkA⟩ := set7 HQ.out.1 (.slice none 0 0) (.slice none 0 0) (.int .u32 0) (.int .u32 0) (.int .u32 0) (.int .u32 0) (.int .u32 0) rfl
    have hbF := HQ.out.2.trans (hkA.below (B := w.heap.size) (Nat.le_trans (by omega) (lt_block HQ.out.1)) (fun k hk => by omega))
    generalize (((((((w4.setCell ⟨w.heap.size, 0, none⟩ (.slice none 0 0)).setCell ⟨w.heap.size, 1, none⟩ (.slice none 0 0)).setCell ⟨w.heap.size, 2, none⟩ (.int .u32 0)).setCell ⟨w.heap.size, 3, none⟩ (.int .u32 0)).setCell ⟨w.heap.size, 4, none⟩ (.int .u32 0)).setCell ⟨w.heap.size, 5, none⟩ (.int .u32 0)).setCell ⟨w.heap.size, 6, none⟩ (.int .u32 0)) = w6 at *
    obtain ⟨z0, z1, z2, z3, z4, z5, z6, _⟩ := cells7 qA
    refine bodyPost_ret (v := .tuple #[.agg #[.slice none 0 0, .slice none 0 0, .int .u32 0, .int .u32 0, .int .u32 0, .int .u32 0, .int .u32 0], .int .i64 (code50 (soaB l))]) ?_ rfl ⟨hbF, _, rfl, fun _ => rfl, (fun h => by rw [hso] at h; cases h)⟩
    simp [results, Tryz.results77, go_sem, z0, z1, z2, z3, z4, z5, z6, hso, code50]
end Nm
end Go.Proofs.YthogembgndkmpaaGreatDoor
