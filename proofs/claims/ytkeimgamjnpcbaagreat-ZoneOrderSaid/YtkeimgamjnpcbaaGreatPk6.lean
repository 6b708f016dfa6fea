/-
  Texts merged by a program (Counted, Sort1, Zst, Ins, PutT, Names, Types, Types2).
-/
import Derived.Maps.RangeWalk
import Derived.RangeFuncBox
import Derived.RangeFuncLeaves
import Derived.Shelf.Abstract
import Derived.WalkKit
import Derived.OwnWalkIn
import Derived.TacticsInMore
import Derived.LoopNIn
import Derived.LoopIn
import Derived.RegionIn
import Derived.Maps.AppendAt
import Derived.Sort.MapsRangeIn
import Derived.RangeFuncSeq
import Derived.Test.YtkeimgamjnpcbaaGreatPk4
import Derived.Test.YtkeimgamjnpcbaaGreatPk5
set_option linter.unusedSimpArgs false
set_option linter.unusedVariables false
/- Contracts of package zone: counted. -/
namespace Go.Proofs.YtkeimgamjnpcbaaGreat
open Go.RowKit
set_option linter.unusedVariables false
namespace Nm
set_option maxRecDepth 100000 in
theorem look_int {w : World} {b n : Nat} {E : DataW Unit} {f : Lab → Int} (h : w.ownsMap Tryz.prog 9 (plainElem Tryz.prog 3) b n E) (hs : Seen E f) (k : Lab) (hk : k.length ≤ maxLen) :
    (Instr.lookup 98 (.map (some b)) (strV k) false).run Tryz.prog w = .ok (.int .i64 (f k)) w := by
  obtain ⟨c, hrun, hat, _⟩ := h.lookup_int keyS Tryz.underlying98 Tryz.underlying3 (Tryz.zeroValue3 w) (keyOf_str k hk)
  have h1 := (hs k).symm.trans hat
  injection h1 with h1
  injection h1 with _ h1
  rw [h1]
  exact hrun
def CountR (bb la N : Nat) (n : List Lab) (d : Int) (f : Lab → Int) (w : World) (i : Value) (wr : World) : Prop :=
  ∃ j : Nat, j ≤ n.length - la + 1 ∧ i = .int .i64 j ∧ Kept (fun k => k = bb) w wr ∧ ∃ E, wr.ownsMap Tryz.prog 9 (plainElem Tryz.prog 3) bb (N + j) E ∧ Seen E (cnt f n d j)
set_option maxRecDepth 100000 in
set_option maxHeartbeats 4000000 in
theorem Counted (z bn bb : Nat) (fr : Nat × Nat) (Aa : Option Addr) (la ca : Nat) (c : Int) (A : Option Addr) (n : List Lab) (cap : Nat) (d : Int) (N : Nat) (E : DataW Unit) (f : Lab → Int) (w : World)
    (hz : w.heap[z]? = some (.cells #[.slice Aa la ca, .map (some bn), .map (some bb), .int .i64 c] 100 fr))
    (hE : w.ownsMap Tryz.prog 9 (plainElem Tryz.prog 3) bb N E) (hs : Seen E f) (hN : N ≤ 1000000) (hf : ∀ m, -1000000 ≤ f m ∧ f m ≤ 1000000) (hd : d = 1 ∨ d = -1)
    (hA : Cs w A (n.map strV)) (hn : Small n) (hcap : n.length ≤ cap) (hcap2 : cap ≤ maxLen) (hla : la ≤ n.length) (hla1 : 1 ≤ la) :
    Calls Tryz.prog 72 #[.pointer (some ⟨z, 0, none⟩), .slice A n.length cap, .int .i64 d] w fun e w' => e = .returned (.tuple #[]) ∧ Kept (fun k => k = bb) w w' ∧
      ∃ E' N', w'.ownsMap Tryz.prog 9 (plainElem Tryz.prog 3) bb N' E' ∧ N' ≤ N + n.length + 1 ∧ Seen E' (cnt f n d (n.length - la + 1)) := by
  unfold maxLen at hcap2
  have hn1 := hn.1
  have hne : z ≠ bb := by
    obtain ⟨es, cl, hb, _⟩ := hE
    intro h
    subst h
    rw [hz] at hb
    cases hb
  have hzl := lt_block hz
  have z0 : w.cell? ⟨z, 0, none⟩ = some (.slice Aa la ca) := by rw [cell_of_row _ _ 0 _ _ _ hz]; rfl
  have z2 : w.cell? ⟨z, 2, none⟩ = some (.map (some bb)) := by rw [cell_of_row _ _ 2 _ _ _ hz]; rfl
  have hbl := hE.lt
  have hAB : ∀ a, A = some a → n.map strV ≠ [] → ¬ a.block = bb := by
    intro a ha hx h
    obtain ⟨es, cl, hb, _⟩ := hE
    cases hnn : n.map strV with
    | nil => exact hx hnn
    | cons x xs =>
      rw [hnn] at hA
      obtain ⟨b, off, e, hlt, hcell⟩ := hA 0 x rfl
      rw [ha] at e
      cases e
      subst h
      simp [World.cell?, hb] at hcell
  have HST := Lib.hid (show CountR bb la N n d f w (.int .i64 0) w from ⟨0, Nat.zero_le _, rfl, Kept.refl _ _, E, hE, by rw [cnt_zero]; exact hs⟩)
  have HA := Lib.hid hA
  have HAB := Lib.hid hAB
  have HF := Lib.hid hf
  have HS := Lib.hid hn
  have HD := Lib.hid hd
  clear hA hAB hf hn hE hs hz
  go_enter Tryz.func72, Tryz.ntmps72
  go_wp2_with fail
  go_loopw [6] (CountR bb la N n d f w) (fun i _ => n.length + 2 - (intOf i).toNat)
  case atStart => exact HST.out
  case round =>
    obtain ⟨j, hj, rfl, hkept, E1, hE1, hs1⟩ := hrel
    have y0 := (hkept.cell (o := 0) hzl hne).trans z0
    have y2 := (hkept.cell (o := 2) hzl hne).trans z2
    have hzr := Nat.lt_of_lt_of_le hzl hkept.size
    by_cases hlt : j ≤ n.length - la
    · have hcj : ¬ cap = j := by omega
      have hdl : (n.drop j).length = n.length - j := List.length_drop
      have hcs := (Kept.cs HA.out hkept HAB.out).drop' j cap (by simpa using hcap)
      rw [← List.map_drop] at hcs
      have HK : Hid (∀ A' c' W, Below wr.heap.size wr W → Cs wr A' ((n.drop j).map strV) → Calls Tryz.prog 71 #[.slice A' (n.length - j) c'] W fun e w' => e = .returned (strV (zkey (n.drop j))) ∧ Below W.heap.size W w') := Lib.hid fun A' c' W hW hA' => by
        have := ZKey A' (n.drop j) c' W (hA'.below hW) (HS.out.drop j)
        rw [hdl] at this
        exact this
      have hkl := zkey_len (HS.out.drop j)
      have HSTEP := Lib.hid (cnt_step f n d j)
      have HB := Lib.hid (cnt_le (n := n) HD.out (HF.out (zkey (n.drop j))) j)
      have HC := Lib.hid hcs
      clear hcs hdl
      generalize zkey (n.drop j) = k at *
      obtain ⟨c0, hc0⟩ : ∃ c0, cnt f n d j k = c0 := ⟨_, rfl⟩
      have hb0 : -1001000 ≤ c0 ∧ c0 ≤ 1001000 := by have := HB.out; rw [hc0] at this; omega
      have HD1 := hb0.1
      have HD2 := hb0.2
      have HC0 := Lib.hid hc0
      have hKey := keyOf_str k hkl
      have hval : plainElem (H := Unit) Tryz.prog 3 (.int .i64 (c0 + d)) = some (.lit (.int .i64 (c0 + d)), []) := plainElem_int Tryz.underlying3 (by
        rcases HD.out with rfl | rfl <;> (simp [Lit.wf, IntKind.min, IntKind.max, IntKind.signed, IntKind.bits]; omega))
      have hd2 : -1 ≤ d ∧ d ≤ 1 := by rcases HD.out with h | h <;> omega
      have hd3 := hd2.1
      have hd4 := hd2.2
      clear hc0 hb0 hd2
      have hmid : ∀ W, Below wr.heap.size wr W → (Instr.lookup 98 (.map (some bb)) (strV k) false).run Tryz.prog W = .ok (.int .i64 c0) W ∧ W.ownsMap Tryz.prog 9 (plainElem Tryz.prog 3) bb (N + j) E1 := fun W hW => by
        have hm := hE1.kept (row := none) ⟨hW.os, hW.tape, hW.output, hW.size, fun k hk _ => hW.block k hk⟩ (by simp)
        have := look_int hm hs1 k hkl
        rw [HC0.out] at this
        exact ⟨this, hm⟩
      have HM := Lib.hid hmid
      have HE1 := Lib.hid (And.intro hs1 hE1)
      clear hmid hE1 hs1
      go_wp2_with fail
      all_goals
        have HC2 := HC.out
        rw [if_neg hcj] at HC2
        refine (HK.out _ _ _ (Below.refl _ _) HC2).mono ?_
        rintro e w2 ⟨rfl, hb2⟩
        have x2 := (bcl (o := 2) hb2 hzr).trans y2
        have hz2 := Nat.lt_of_lt_of_le hzr hb2.size
        obtain ⟨l1, hown1⟩ := HM.out w2 hb2
        have hs1 := HE1.out.1
        have hk2 := hkept.trans ((Kept.of_ext hb2).mono (fun _ _ h => h.elim))
        have HM1 := hown1.isMap
        have tok : True := trivial
        clear HC HC2 HK HM HE1 y0 y2 hkept hb2
        have HV := Lib.hid hval
        have HCS := Lib.hid (HSTEP.out)
        clear hval
        rw [HC0.out] at HCS
        obtain ⟨s, hss⟩ : ∃ s, c0 + d = s := ⟨_, rfl⟩
        rw [hss] at HV HCS
        by_cases h0 : s = 0
        · subst h0
          go_wp2_with (first
            | (at_mapUpdate; refine wpList_mapUpdate_own _ rfl _ _ _ 98 rfl 9 3 keyS Tryz.underlying98 _ bb (N + j) E1 rfl hown1 (by unfold maxLen; omega) (strV k) (.int .i64 0) (.string k) rfl rfl hKey (.lit (.int .i64 0)) [] HV.out ?_; intro w3 hown3 hg3; have hs3 := hs1.put HM1 k 0; have l3 := look_int hown3 hs3 k hkl; rw [if_pos rfl] at l3; have x3 := (World.cell?_of_block (a := ⟨z, 2, none⟩) (hg3.block z hz2 (by intro h; cases h; exact hne rfl))).trans x2; have hk3 := hk2.trans ((Kept.of_grown hg3).mono (fun k _ h => by cases h; rfl)))
            | (at_delete; refine wpList_delete_own _ rfl _ _ 98 9 rfl 3 keyS Tryz.underlying98 _ bb (N + j + 1) _ rfl hown3 (strV k) (.string k) rfl hKey ?_; intro w4 hown4 ht4; have hk4 := hk3.trans ((Kept.of_grown ht4.grown).mono (fun k _ h => by cases h; rfl)); have hs4 := hs3.del k (if_pos rfl)))
          exact ⟨⟨j + 1, by omega, by go_num, hk4, _, hown4, by rw [← HCS.out]; exact hs4⟩, by simp [intOf]; omega⟩
        · have h0' : (s == 0) = false := by simpa using h0
          go_wp2_with (first
            | (at_mapUpdate; refine wpList_mapUpdate_own _ rfl _ _ _ 98 rfl 9 3 keyS Tryz.underlying98 _ bb (N + j) E1 rfl hown1 (by unfold maxLen; omega) (strV k) (.int .i64 s) (.string k) rfl rfl hKey (.lit (.int .i64 s)) [] HV.out ?_; intro w3 hown3 hg3; have hs3 := hs1.put HM1 k s; have l3 := look_int hown3 hs3 k hkl; rw [if_pos rfl] at l3; have x3 := (World.cell?_of_block (a := ⟨z, 2, none⟩) (hg3.block z hz2 (by intro h; cases h; exact hne rfl))).trans x2; have hk3 := hk2.trans ((Kept.of_grown hg3).mono (fun k _ h => by cases h; rfl)))
            | (at_delete; refine wpList_delete_own _ rfl _ _ 98 9 rfl 3 keyS Tryz.underlying98 _ bb (N + j + 1) _ rfl hown3 (strV k) (.string k) rfl hKey ?_; intro w4 hown4 ht4; have hk4 := hk3.trans ((Kept.of_grown ht4.grown).mono (fun k _ h => by cases h; rfl)); have hs4 := hs3.del k (if_pos rfl)))
          exact ⟨⟨j + 1, by omega, by go_num, hk3, _, hown3, by rw [← HCS.out]; exact hs3⟩, by simp [intOf]; omega⟩
    · have hjl : j = n.length - la + 1 := by omega
      subst hjl
      go_wp2_with fail
      refine bodyPost_end (results_none rfl _ _ _) rfl ?_
      exact ⟨rfl, hkept, E1, _, hE1, by omega, hs1⟩
end Nm
end Go.Proofs.YtkeimgamjnpcbaaGreat

/- Sorts of one element: nothing turns. -/
namespace Go.Proofs.YtkeimgamjnpcbaaGreat
open Go.RowKit
set_option linter.unusedVariables false
namespace Nm
theorem insN1 (v f : Value) (w : World) : Calls Tryz.prog 153 #[v, .int .i64 0, .int .i64 1, f] w fun e w' => e = .returned (.tuple #[]) ∧ w = w' := by
  go_enter Tryz.func153, Tryz.ntmps153
  go_wp2_with fail
  refine wp_loop_rounds 2 ?_
  rw [rounds_succ]
  go_wp2_with fail
  refine bodyPost_end (results_none rfl _ _ _) rfl ?_
  exact ⟨rfl, rfl⟩
theorem pdqN1 (v f l : Value) (w : World) : Calls Tryz.prog 118 #[v, .int .i64 0, .int .i64 1, l, f] w fun e w' => e = .returned (.tuple #[]) ∧ w = w' := by
  have HI := Lib.hid (insN1 v f w)
  go_enter Tryz.func118, Tryz.ntmps118
  go_wp2_with fail
  refine wp_loop_rounds 2 ?_
  rw [rounds_succ]
  go_wp2_with fail
  refine HI.out.mono ?_
  rintro e w2 ⟨rfl, rfl⟩
  go_wp2_with fail
  refine bodyPost_ret (results_none rfl _ _ _) rfl ?_
  exact ⟨rfl, rfl⟩
theorem len641 (w : World) : Calls Tryz.prog 162 #[.int .u64 1] w fun e w' => e = .returned (.int .i64 1) ∧ w = w' := by
  go_enter Tryz.func162, Tryz.ntmps162
  go_wp2_with fail
  go_ret
  refine ⟨?_, rfl⟩
  show Ending.returned (.int .i64 (wrap64 (wrap64 (Lib.len8 1)))) = _
  have h : Lib.len8 1 = 1 := by decide +kernel
  rw [h, show wrap64 1 = 1 from by decide +kernel, show wrap64 1 = 1 from by decide +kernel]
theorem len1 (w : World) : Calls Tryz.prog 119 #[.int .u64 1] w fun e w' => e = .returned (.int .i64 1) ∧ w = w' := by
  have HI := Lib.hid (len641 w)
  go_enter Tryz.func119, Tryz.ntmps119
  go_wp2_with fail
  refine HI.out.mono ?_
  rintro e w2 ⟨rfl, rfl⟩
  go_wp2_with fail
  go_ret
  exact ⟨rfl, rfl⟩
theorem SortN1 (A : Option Addr) (c : Nat) (f : Value) (w : World) : Calls Tryz.prog 76 #[.slice A 1 c, f] w fun e w' => e = .returned (.tuple #[]) ∧ w = w' := by
  have HL := Lib.hid (len1 w)
  have HI := Lib.hid (pdqN1 (.slice A 1 c) f (.int .i64 1) w)
  go_enter Tryz.func76, Tryz.ntmps76
  go_wp2_with fail
  refine HL.out.mono ?_
  rintro e w2 ⟨rfl, rfl⟩
  go_wp2_with fail
  refine HI.out.mono ?_
  rintro e w2 ⟨rfl, rfl⟩
  go_wp2_with fail
  refine bodyPost_end (results_none rfl _ _ _) rfl ?_
  exact ⟨rfl, rfl⟩
theorem insT1 (v : Value) (w : World) : Calls Tryz.prog 200 #[v, .int .i64 0, .int .i64 1] w fun e w' => e = .returned (.tuple #[]) ∧ w = w' := by
  go_enter Tryz.func200, Tryz.ntmps200
  go_wp2_with fail
  refine wp_loop_rounds 2 ?_
  rw [rounds_succ]
  go_wp2_with fail
  refine bodyPost_end (results_none rfl _ _ _) rfl ?_
  exact ⟨rfl, rfl⟩
theorem pdqT1 (v l : Value) (w : World) : Calls Tryz.prog 172 #[v, .int .i64 0, .int .i64 1, l] w fun e w' => e = .returned (.tuple #[]) ∧ w = w' := by
  have HI := Lib.hid (insT1 v w)
  go_enter Tryz.func172, Tryz.ntmps172
  go_wp2_with fail
  refine wp_loop_rounds 2 ?_
  rw [rounds_succ]
  go_wp2_with fail
  refine HI.out.mono ?_
  rintro e w2 ⟨rfl, rfl⟩
  go_wp2_with fail
  refine bodyPost_ret (results_none rfl _ _ _) rfl ?_
  exact ⟨rfl, rfl⟩
theorem SortT1 (A : Option Addr) (c : Nat) (w : World) : Calls Tryz.prog 126 #[.slice A 1 c] w fun e w' => e = .returned (.tuple #[]) ∧ w = w' := by
  have HL := Lib.hid (len1 w)
  have HI := Lib.hid (pdqT1 (.slice A 1 c) (.int .i64 1) w)
  go_enter Tryz.func126, Tryz.ntmps126
  go_wp2_with fail
  refine HL.out.mono ?_
  rintro e w2 ⟨rfl, rfl⟩
  go_wp2_with fail
  refine HI.out.mono ?_
  rintro e w2 ⟨rfl, rfl⟩
  go_wp2_with fail
  refine bodyPost_end (results_none rfl _ _ _) rfl ?_
  exact ⟨rfl, rfl⟩
end Nm
end Go.Proofs.YtkeimgamjnpcbaaGreat

/- A zone in memory: what turns as it is written; the empty zone, the zone of one set. -/
namespace Go.Proofs.YtkeimgamjnpcbaaGreat
open Go.RowKit
set_option linter.unusedVariables false
namespace Nm
/-- the types of the blocks that are written -/
def zT (T : TypeId) : Prop := T = 100 ∨ T = 110 ∨ T = 119
/-- nothing that was there has turned but maps and a zone's records, from B on -/
structure Turn (B : Nat) (w w' : World) : Prop where
  below : Below B w w'
  rest : ∀ (g : Nat) (cs : Array Value) (T : TypeId) (fr : Nat × Nat), w.heap[g]? = some (.cells cs T fr) → ¬ zT T → w'.heap[g]? = some (.cells cs T fr)
section
variable {B : Nat} {w w' w'' : World}
theorem Turn.refl (B : Nat) (w : World) : Turn B w w := ⟨Below.refl _ _, fun _ _ _ _ h _ => h⟩
theorem Turn.of_ext (h : Below w.heap.size w w') (hB : B ≤ w.heap.size) : Turn B w w' := ⟨h.mono hB, fun g cs T fr hg _ => (h.block g (lt_block hg)).trans hg⟩
theorem Turn.trans (h : Turn B w w') (k : Turn B w' w'') : Turn B w w'' := ⟨h.below.trans k.below, fun g cs T fr hg hT => k.rest g cs T fr (h.rest g cs T fr hg hT) hT⟩
theorem Turn.mono {B' : Nat} (h : Turn B w w') (hB : B' ≤ B) : Turn B' w w' := ⟨h.below.mono hB, h.rest⟩
theorem Turn.kept {S : Nat → Prop} (h : Kept S w w') (hB : B ≤ w.heap.size) (hS : ∀ k, S k → B ≤ k ∧ ∀ (cs : Array Value) (T : TypeId) (fr : Nat × Nat), w.heap[k]? = some (.cells cs T fr) → zT T) : Turn B w w' :=
  ⟨h.below hB (fun k hk hs => by have := (hS k hs).1; omega), fun g cs T fr hg hT => (h.block g (lt_block hg) (fun hs => hT ((hS g hs).2 cs T fr hg))).trans hg⟩
theorem Turn.map {b : Nat} {es : Array MapEntry} {c : Nat} (h : w.grownBy w' (some b)) (hm : w.heap[b]? = some (.map es c)) (hB : B ≤ b) : Turn B w w' :=
  Turn.kept (Kept.of_grown h) (Nat.le_trans hB (Nat.le_of_lt (lt_block hm))) (fun k hk => by
    cases hk
    exact ⟨hB, fun cs T fr he => by rw [hm] at he; cases he⟩)
theorem Turn.set {g o : Nat} {cs : Array Value} {T : TypeId} {fr : Nat × Nat} (hg : w.heap[g]? = some (.cells cs T fr)) (hT : zT T) (hB : B ≤ g) (u : Value) : Turn B w (w.setCell ⟨g, o, none⟩ u) :=
  Turn.kept ((Kept.refl (fun k => k = g) w).setCell (fun _ => rfl) u) (Nat.le_trans hB (Nat.le_of_lt (lt_block hg))) (fun k hk => by
    cases hk
    exact ⟨hB, fun cs T fr he => by rw [hg] at he; cases he; exact hT⟩)
theorem Turn.row {B' : Nat} {e : TypeId} {size : Nat} {v : Value} {n : Nat} {xs : List Value} (h : Turn B w w') (hr : w.ownsRow B' e size v n xs) (he : ¬ zT e) : w'.ownsRow B' e size v n xs := by
  refine ⟨hr.1, ?_⟩
  rcases hr.2 with hn | ⟨g, cap, cur, hv, hg, hh, rest⟩
  · exact .inl hn
  · exact .inr ⟨g, cap, cur, hv, hg, h.rest _ _ _ _ hh he, rest⟩
theorem Turn.size (h : Turn B w w') : w.heap.size ≤ w'.heap.size := h.below.size
end
theorem zT_str : ¬ zT 9 := by unfold zT; decide
theorem zT_u8 : ¬ zT 5 := by unfold zT; decide
theorem zT_node : ¬ zT 115 := by unfold zT; decide
theorem zT_rec : ¬ zT 51 := by unfold zT; decide
theorem zT_bytes : ¬ zT 31 := by unfold zT; decide
theorem cs_own {w : World} {B : Nat} {e : TypeId} {A : Option Addr} {m c n : Nat} {xs : List Value} (h : w.ownsRow B e 1 (.slice A m c) n xs) : m = n ∧ Cs w A xs := by
  obtain ⟨A', c', he, _, hcs⟩ := Cs.of_own h
  cases he
  exact ⟨rfl, hcs⟩
/-- bytes that stand in a row of their own -/
def BlobOwn (w : World) (B : Nat) (b : Blob) : Prop := w.ownsRow B 5 1 b.v b.l.length (b.l.map byteV)
def DatOwn (w : World) (B : Nat) (ds : List (Blob × Blob)) : Prop := ∀ d ∈ ds, BlobOwn w B d.1 ∧ BlobOwn w B d.2
theorem BlobOwn.ok {w : World} {B : Nat} {b : Blob} (h : BlobOwn w B b) : b.ok w := (cs_own h).2
theorem DatOwn.ok {w : World} {B : Nat} {ds : List (Blob × Blob)} (h : DatOwn w B ds) : DatOk w ds := fun d hd => ⟨(h d hd).1.ok, (h d hd).2.ok⟩
theorem DatOwn.turn {w w' : World} {B B' : Nat} {ds : List (Blob × Blob)} (h : DatOwn w B ds) (ht : Turn B' w w') : DatOwn w' B ds := fun d hd => ⟨ht.row (h d hd).1 zT_u8, ht.row (h d hd).2 zT_u8⟩
/-- a zone: its block, its apex, its names, how many stand where -/
structure Zn (w : World) (B z bn bb : Nat) (ap : List Lab) (c : Int) (D : DataW Unit) (f : Lab → Int) (N : Nat) : Prop where
  blk : ∃ A ca, w.heap[z]? = some (.cells #[.slice A ap.length ca, .map (some bn), .map (some bb), .int .i64 c] 100 (0, 0)) ∧ w.ownsRow B 9 1 (.slice A ap.length ca) ap.length (ap.map strV)
  nodes : w.ownsMap Tryz.prog 9 ptrR bn N D
  below : ∃ E, w.ownsMap Tryz.prog 9 (plainElem Tryz.prog 3) bb N E ∧ Seen E f
  ne : bn ≠ bb
  h1 : B ≤ z
  h2 : B ≤ bn
  h3 : B ≤ bb
/-- a name's node, its one set, the set's data -/
structure St (w : World) (B x bs s : Nat) (n : List Lab) (t ttl : Int) (v : Value) (ds : List (Blob × Blob)) : Prop where
  node : ∃ A c, w.heap[x]? = some (.cells #[.slice A n.length c, .map (some bs)] 115 (0, 0)) ∧ w.ownsRow B 9 1 (.slice A n.length c) n.length ((lower n).map strV)
  sets : w.ownsMap Tryz.prog 24 ptrR bs 9 (.map [(.int .u16 t, .lit (.int .i64 (s : Int)))])
  set : w.heap[s]? = some (.cells #[.int .u32 ttl, v] 110 (0, 0))
  row : w.ownsRow B 119 2 v ds.length (datC ds)
  dat : DatOwn w B ds
  h1 : B ≤ bs
  h2 : B ≤ s
/-- a zone of one set -/
structure One (w : World) (B z bn bb x bs s : Nat) (ap n : List Lab) (t ttl : Int) (v : Value) (ds : List (Blob × Blob)) (f : Lab → Int) (N : Nat) : Prop where
  zn : Zn w B z bn bb ap ds.length (.map [(.string (zkey n), .lit (.int .i64 (x : Int)))]) f N
  st : St w B x bs s n t ttl v ds
  n1 : bs ≠ bn
  n2 : bs ≠ bb
/-- an empty zone -/
def Emp (w : World) (B z bn bb : Nat) (ap : List Lab) (f : Lab → Int) (N : Nat) : Prop := Zn w B z bn bb ap 0 (.map []) f N
/-- memory that is new turns nothing -/
theorem Zn.ext {w w' : World} {B z bn bb : Nat} {ap : List Lab} {c : Int} {D : DataW Unit} {f : Lab → Int} {N : Nat} (h : Zn w B z bn bb ap c D f N) (hb : Below w.heap.size w w') : Zn w' B z bn bb ap c D f N := by
  have hg : w.grownBy w' none := ⟨hb.os, hb.tape, hb.output, hb.size, fun k hk _ => hb.block k hk⟩
  obtain ⟨A, ca, h1, h2⟩ := h.blk
  obtain ⟨E, h3, h4⟩ := h.below
  exact ⟨⟨A, ca, (hb.block _ (lt_block h1)).trans h1, own_below h2 hb⟩, h.nodes.kept hg (by simp), ⟨E, h3.kept hg (by simp), h4⟩, h.ne, h.h1, h.h2, h.h3⟩
theorem St.ext {w w' : World} {B x bs s : Nat} {n : List Lab} {t ttl : Int} {v : Value} {ds : List (Blob × Blob)} (h : St w B x bs s n t ttl v ds) (hB : B ≤ w.heap.size) (hb : Below w.heap.size w w') : St w' B x bs s n t ttl v ds := by
  have hg : w.grownBy w' none := ⟨hb.os, hb.tape, hb.output, hb.size, fun k hk _ => hb.block k hk⟩
  obtain ⟨A, c, h1, h2⟩ := h.node
  exact ⟨⟨A, c, (hb.block _ (lt_block h1)).trans h1, own_below h2 hb⟩, h.sets.kept hg (by simp), (hb.block _ (lt_block h.set)).trans h.set, own_below h.row hb, h.dat.turn (Turn.of_ext hb hB), h.h1, h.h2⟩
theorem One.ext {w w' : World} {B z bn bb x bs s : Nat} {ap n : List Lab} {t ttl : Int} {v : Value} {ds : List (Blob × Blob)} {f : Lab → Int} {N : Nat} (h : One w B z bn bb x bs s ap n t ttl v ds f N) (hb : Below w.heap.size w w') : One w' B z bn bb x bs s ap n t ttl v ds f N :=
  ⟨h.zn.ext hb, h.st.ext (Nat.le_trans h.st.h2 (Nat.le_of_lt (lt_block h.st.set))) hb, h.n1, h.n2⟩
theorem ownsMap_block {w w' : World} {P : Program} {k : TypeId} {R : Value → Option (DataW Unit × List MemPlace)} {b n : Nat} {D : DataW Unit} (h : w.ownsMap P k R b n D) (e : w'.heap[b]? = w.heap[b]?) : w'.ownsMap P k R b n D := by
  obtain ⟨es, cl, hb, r⟩ := h
  exact ⟨es, cl, e.trans hb, r⟩
theorem ne_cells {w : World} {g h : Nat} {cs cs' : Array Value} {T T' : TypeId} {fr fr' : Nat × Nat} (hg : w.heap[g]? = some (.cells cs T fr)) (hh : w.heap[h]? = some (.cells cs' T' fr')) (hT : T ≠ T') : g ≠ h := by
  intro e
  subst e
  rw [hg] at hh
  cases hh
  exact hT rfl
theorem ne_map {w : World} {P : Program} {k : TypeId} {R : Value → Option (DataW Unit × List MemPlace)} {b n : Nat} {D : DataW Unit} {g : Nat} {cs : Array Value} {T : TypeId} {fr : Nat × Nat} (h : w.ownsMap P k R b n D) (hg : w.heap[g]? = some (.cells cs T fr)) : b ≠ g := by
  intro e
  subst e
  obtain ⟨es, cl, hb, _⟩ := h
  rw [hg] at hb
  cases hb
theorem row_block {w : World} {B : Nat} {e : TypeId} {size : Nat} {v : Value} {n : Nat} {xs : List Value} (h : w.ownsRow B e size v n xs) {b : Nat} (hb : v.ownBlock = some b) : ∃ cs, w.heap[b]? = some (.cells cs e (0, 0)) ∧ B ≤ b := by
  rcases h.2 with ⟨rfl, _⟩ | ⟨g, cap, cur, rfl, hg, hh, _⟩
  · cases hb
  · cases hb
    exact ⟨_, hh, hg⟩
/-- the blocks of S are maps, or a zone's records -/
def Zonal (S : Nat → Prop) (w : World) : Prop := ∀ k, S k → ∀ (cs : Array Value) (T : TypeId) (fr : Nat × Nat), w.heap[k]? = some (.cells cs T fr) → zT T
theorem Zonal.cells {w : World} {g : Nat} {cs : Array Value} {T : TypeId} {fr : Nat × Nat} (hg : w.heap[g]? = some (.cells cs T fr)) (hT : zT T) : Zonal (fun k => k = g) w := by
  rintro k rfl cs' T' fr' he
  rw [hg] at he
  cases he
  exact hT
theorem Zonal.map {w : World} {P : Program} {k : TypeId} {R : Value → Option (DataW Unit × List MemPlace)} {b n : Nat} {D : DataW Unit} (h : w.ownsMap P k R b n D) : Zonal (fun k => k = b) w := by
  rintro k rfl cs' T' fr' he
  exact absurd rfl (ne_map h he)
theorem Zonal.row {w : World} {B : Nat} {size : Nat} {v : Value} {n : Nat} {xs : List Value} (h : w.ownsRow B 119 size v n xs) : Zonal (fun k => some k = v.ownBlock) w := by
  intro k hk cs T fr he
  obtain ⟨cs', h1, _⟩ := row_block h hk.symm
  rw [h1] at he
  cases he
  exact .inr (.inr rfl)
theorem row_zonal {S : Nat → Prop} {w w' : World} {B : Nat} {e : TypeId} {size : Nat} {v : Value} {n : Nat} {xs : List Value} (hr : w.ownsRow B e size v n xs) (hk : Kept S w w') (hZ : Zonal S w) (he : ¬ zT e) : w'.ownsRow B e size v n xs :=
  Kept.row hr hk fun k hkb hs => by
    obtain ⟨cs, h1, _⟩ := row_block hr hkb
    exact he (hZ k hs _ _ _ h1)
theorem cells_zonal {S : Nat → Prop} {w w' : World} {g : Nat} {cs : Array Value} {T : TypeId} {fr : Nat × Nat} (hg : w.heap[g]? = some (.cells cs T fr)) (hk : Kept S w w') (hZ : Zonal S w) (hT : ¬ zT T) : w'.heap[g]? = some (.cells cs T fr) :=
  (hk.block g (lt_block hg) (fun hs => hT (hZ g hs _ _ _ hg))).trans hg
theorem Turn.zonal {S : Nat → Prop} {B : Nat} {w w' : World} (hk : Kept S w w') (hZ : Zonal S w) (hB : B ≤ w.heap.size) (hS : ∀ k, S k → B ≤ k) : Turn B w w' := Turn.kept hk hB fun k hs => ⟨hS k hs, hZ k hs⟩
theorem DatOwn.zonal {S : Nat → Prop} {w w' : World} {B : Nat} {ds : List (Blob × Blob)} (h : DatOwn w B ds) (hk : Kept S w w') (hZ : Zonal S w) : DatOwn w' B ds := fun d hd => ⟨row_zonal (h d hd).1 hk hZ zT_u8, row_zonal (h d hd).2 hk hZ zT_u8⟩
theorem Zn.kept {S : Nat → Prop} {w w' : World} {B z bn bb : Nat} {ap : List Lab} {c : Int} {D : DataW Unit} {f : Lab → Int} {N : Nat} (h : Zn w B z bn bb ap c D f N) (hk : Kept S w w') (hZ : Zonal S w) (h1 : ¬ S z) (h2 : ¬ S bn) (h3 : ¬ S bb) : Zn w' B z bn bb ap c D f N := by
  obtain ⟨A, ca, g1, g2⟩ := h.blk
  obtain ⟨E, g3, g4⟩ := h.below
  exact ⟨⟨A, ca, (hk.block _ (lt_block g1) h1).trans g1, row_zonal g2 hk hZ zT_str⟩, ownsMap_block h.nodes (hk.block _ h.nodes.lt h2), ⟨E, ownsMap_block g3 (hk.block _ g3.lt h3), g4⟩, h.ne, h.h1, h.h2, h.h3⟩
theorem St.kept {S : Nat → Prop} {w w' : World} {B x bs s : Nat} {n : List Lab} {t ttl : Int} {v : Value} {ds : List (Blob × Blob)} (h : St w B x bs s n t ttl v ds) (hk : Kept S w w') (hZ : Zonal S w) (h1 : ¬ S bs) (h2 : ¬ S s) (h3 : ∀ b, v.ownBlock = some b → ¬ S b) : St w' B x bs s n t ttl v ds := by
  obtain ⟨A, c, g1, g2⟩ := h.node
  exact ⟨⟨A, c, cells_zonal g1 hk hZ zT_node, row_zonal g2 hk hZ zT_str⟩, ownsMap_block h.sets (hk.block _ h.sets.lt h1), (hk.block _ (lt_block h.set) h2).trans h.set, Kept.row h.row hk h3, h.dat.zonal hk hZ, h.h1, h.h2⟩
theorem One.size {w : World} {B z bn bb x bs s : Nat} {ap n : List Lab} {t ttl : Int} {v : Value} {ds : List (Blob × Blob)} {f : Lab → Int} {N : Nat} (h : One w B z bn bb x bs s ap n t ttl v ds f N) : B ≤ w.heap.size := Nat.le_trans h.st.h2 (Nat.le_of_lt (lt_block h.st.set))
/-- the set's time to live, or its data, are laid anew -/
theorem One.put {w w' : World} {B z bn bb x bs s : Nat} {ap n : List Lab} {t ttl ttl2 : Int} {v : Value} {ds : List (Blob × Blob)} {f : Lab → Int} {N : Nat} (h : One w B z bn bb x bs s ap n t ttl v ds f N) (hk : Kept (fun k => k = s) w w') (hs : w'.heap[s]? = some (.cells #[.int .u32 ttl2, v] 110 (0, 0))) :
    One w' B z bn bb x bs s ap n t ttl2 v ds f N ∧ Turn B w w' := by
  have hZ : Zonal (fun k => k = s) w := Zonal.cells h.st.set (.inr (.inl rfl))
  obtain ⟨A, ca, g1, g2⟩ := h.zn.blk
  obtain ⟨A', c', g5, g6⟩ := h.st.node
  obtain ⟨E, g3, g4⟩ := h.zn.below
  refine ⟨⟨h.zn.kept hk hZ (ne_cells g1 h.st.set (by decide)) (ne_map h.zn.nodes h.st.set) (ne_map g3 h.st.set), ⟨⟨A', c', cells_zonal g5 hk hZ zT_node, row_zonal g6 hk hZ zT_str⟩, ownsMap_block h.st.sets (hk.block _ h.st.sets.lt (ne_map h.st.sets h.st.set)), hs, ?_, h.st.dat.zonal hk hZ, h.st.h1, h.st.h2⟩, h.n1, h.n2⟩, Turn.zonal hk hZ h.size (fun k e => by rw [e]; exact h.st.h2)⟩
  refine Kept.row h.st.row hk fun k hkb e => ?_
  obtain ⟨cs, h1, _⟩ := row_block h.st.row hkb
  exact ne_cells h1 h.st.set (by decide) e
theorem Zn.setN {w : World} {B z bn bb : Nat} {ap : List Lab} {c c' : Int} {D : DataW Unit} {f : Lab → Int} {N : Nat} (h : Zn w B z bn bb ap c D f N) : Zn (w.setCell ⟨z, 3, none⟩ (.int .i64 c')) B z bn bb ap c' D f N ∧ Kept (fun k => k = z) w (w.setCell ⟨z, 3, none⟩ (.int .i64 c')) ∧ Zonal (fun k => k = z) w ∧ Turn B w (w.setCell ⟨z, 3, none⟩ (.int .i64 c')) := by
  have hk : Kept (fun k => k = z) w (w.setCell ⟨z, 3, none⟩ (.int .i64 c')) := (Kept.refl (fun k => k = z) w).setCell (fun _ => rfl) _
  obtain ⟨A, ca, g1, g2⟩ := h.blk
  obtain ⟨E, g3, g4⟩ := h.below
  have hZ : Zonal (fun k => k = z) w := Zonal.cells g1 (.inl rfl)
  exact ⟨⟨⟨A, ca, heap_set g1, row_zonal g2 hk hZ zT_str⟩, ownsMap_block h.nodes (hk.block _ h.nodes.lt (ne_map h.nodes g1)), ⟨E, ownsMap_block g3 (hk.block _ g3.lt (ne_map g3 g1)), g4⟩, h.ne, h.h1, h.h2, h.h3⟩, hk, hZ,
    Turn.zonal hk hZ (Nat.le_trans h.h1 (Nat.le_of_lt (lt_block g1))) (fun k e => by rw [e]; exact h.h1)⟩
theorem datC_snoc (ds : List (Blob × Blob)) (d : Blob × Blob) : datC (ds ++ [d]) = datC ds ++ [d.1.v, d.2.v] := by simp [datC]
/-- one datum more, at the end -/
theorem One.more {w W : World} {B z bn bb x bs s : Nat} {ap n : List Lab} {t ttl : Int} {v v2 : Value} {ds : List (Blob × Blob)} {f : Lab → Int} {N : Nat} {b1 b2 : Blob} (h : One w B z bn bb x bs s ap n t ttl v ds f N) (hk : Kept (fun k => k = s ∨ some k = v.ownBlock) w W)
    (hs : W.heap[s]? = some (.cells #[.int .u32 ttl, v2] 110 (0, 0))) (hr : W.ownsRow B 119 2 v2 (ds.length + 1) (datC ds ++ [b1.v, b2.v])) (h1 : BlobOwn W B b1) (h2 : BlobOwn W B b2) :
    One (W.setCell ⟨z, 3, none⟩ (.int .i64 ((ds.length + 1 : Nat) : Int))) B z bn bb x bs s ap n t ttl v2 (ds ++ [(b1, b2)]) f N ∧ Turn B w (W.setCell ⟨z, 3, none⟩ (.int .i64 ((ds.length + 1 : Nat) : Int))) := by
  have hZ : Zonal (fun k => k = s ∨ some k = v.ownBlock) w := by
    intro k hk2
    rcases hk2 with e | e
    · exact Zonal.cells h.st.set (.inr (.inl rfl)) k e
    · exact Zonal.row h.st.row k e
  obtain ⟨A, ca, g1, g2⟩ := h.zn.blk
  obtain ⟨A', c', g5, g6⟩ := h.st.node
  obtain ⟨E, g3, g4⟩ := h.zn.below
  have hrow : ∀ k, some k = v.ownBlock → ∃ cs, w.heap[k]? = some (.cells cs 119 (0, 0)) ∧ B ≤ k := fun k e => row_block h.st.row e.symm
  have hnz : ¬ (z = s ∨ some z = v.ownBlock) := by
    rintro (e | e)
    · exact ne_cells g1 h.st.set (by decide) e
    · obtain ⟨cs, e1, _⟩ := hrow z e
      exact ne_cells g1 e1 (by decide) rfl
  have hnm : ∀ {k : TypeId} {R : Value → Option (DataW Unit × List MemPlace)} {b n : Nat} {D : DataW Unit}, w.ownsMap Tryz.prog k R b n D → ¬ (b = s ∨ some b = v.ownBlock) := by
    rintro k R b n D hm (e | e)
    · exact ne_map hm h.st.set e
    · obtain ⟨cs, e1, _⟩ := hrow b e
      exact ne_map hm e1 rfl
  have hzn := h.zn.kept hk hZ hnz (hnm h.zn.nodes) (hnm g3)
  have hT : Turn B w W := Turn.zonal hk hZ h.size (fun k e => by
    rcases e with e | e
    · rw [e]; exact h.st.h2
    · exact (hrow k e).choose_spec.2)
  obtain ⟨q1, q2, q3, q4⟩ := hzn.setN (c' := ((ds.length + 1 : Nat) : Int))
  have hsz := (heap_set (i := 3) (v := .int .i64 ((ds.length + 1 : Nat) : Int)) ((hk.block z (lt_block g1) hnz).trans g1))
  have hzW := (hk.block z (lt_block g1) hnz).trans g1
  have hms := ownsMap_block h.st.sets (hk.block _ h.st.sets.lt (hnm h.st.sets))
  have hd1 : BlobOwn (W.setCell ⟨z, 3, none⟩ (.int .i64 ((ds.length + 1 : Nat) : Int))) B b1 := row_zonal h1 q2 q3 zT_u8
  have hd2 : BlobOwn (W.setCell ⟨z, 3, none⟩ (.int .i64 ((ds.length + 1 : Nat) : Int))) B b2 := row_zonal h2 q2 q3 zT_u8
  have hd := (h.st.dat.zonal hk hZ).zonal q2 q3
  refine ⟨⟨by rw [List.length_append]; exact q1, ⟨⟨A', c', cells_zonal (cells_zonal g5 hk hZ zT_node) q2 q3 zT_node, row_zonal (row_zonal g6 hk hZ zT_str) q2 q3 zT_str⟩, ownsMap_block hms (q2.block _ hms.lt (ne_map hms hzW)), (q2.block s (lt_block hs) (ne_cells hs hzW (by decide))).trans hs, ?_, ?_, h.st.h1, h.st.h2⟩, h.n1, h.n2⟩, hT.trans q4⟩
  · rw [datC_snoc, List.length_append]
    refine Kept.row hr q2 fun k hkb e => ?_
    obtain ⟨cs, e1, _⟩ := row_block hr hkb
    exact ne_cells e1 hzW (by decide) e
  · intro d hdm
    rcases List.mem_append.1 hdm with hdm | hdm
    · exact hd d hdm
    · rcases List.mem_cons.1 hdm with rfl | hdm
      · exact ⟨hd1, hd2⟩
      · cases hdm
/-- the names are laid anew -/
theorem Zn.setNodes {w w' : World} {B z bn bb : Nat} {ap : List Lab} {c : Int} {D D' : DataW Unit} {f : Lab → Int} {N N' : Nat} (h : Zn w B z bn bb ap c D f N) (hg : w.grownBy w' (some bn)) (hm : w'.ownsMap Tryz.prog 9 ptrR bn N' D') (hN : N ≤ N') :
    Zn w' B z bn bb ap c D' f N' ∧ Kept (fun k => k = bn) w w' ∧ Zonal (fun k => k = bn) w ∧ Turn B w w' := by
  have hk : Kept (fun k => k = bn) w w' := (Kept.of_grown hg).mono (fun k _ h => by cases h; rfl)
  have hZ : Zonal (fun k => k = bn) w := Zonal.map h.nodes
  obtain ⟨A, ca, g1, g2⟩ := h.blk
  obtain ⟨E, g3, g4⟩ := h.below
  exact ⟨⟨⟨A, ca, (hk.block _ (lt_block g1) (Ne.symm (ne_map h.nodes g1))).trans g1, row_zonal g2 hk hZ zT_str⟩, hm, ⟨E, (ownsMap_block g3 (hk.block _ g3.lt (Ne.symm h.ne))).mono hN, g4⟩, h.ne, h.h1, h.h2, h.h3⟩, hk, hZ,
    Turn.zonal hk hZ (Nat.le_trans h.h1 (Nat.le_of_lt (lt_block g1))) (fun k e => by rw [e]; exact h.h2)⟩
/-- how many stand where is laid anew -/
theorem Zn.setBelow {w w' : World} {B z bn bb : Nat} {ap : List Lab} {c : Int} {D E' : DataW Unit} {f f' : Lab → Int} {N N' : Nat} (h : Zn w B z bn bb ap c D f N) (hk : Kept (fun k => k = bb) w w') (hm : w'.ownsMap Tryz.prog 9 (plainElem Tryz.prog 3) bb N' E') (hs : Seen E' f') (hN : N ≤ N') :
    Zn w' B z bn bb ap c D f' N' ∧ Zonal (fun k => k = bb) w ∧ Turn B w w' := by
  obtain ⟨A, ca, g1, g2⟩ := h.blk
  obtain ⟨E, g3, g4⟩ := h.below
  have hZ : Zonal (fun k => k = bb) w := Zonal.map g3
  exact ⟨⟨⟨A, ca, (hk.block _ (lt_block g1) (Ne.symm (ne_map g3 g1))).trans g1, row_zonal g2 hk hZ zT_str⟩, (ownsMap_block h.nodes (hk.block _ h.nodes.lt h.ne)).mono hN, ⟨E', hm, hs⟩, h.ne, h.h1, h.h2, h.h3⟩, hZ,
    Turn.zonal hk hZ (Nat.le_trans h.h1 (Nat.le_of_lt (lt_block g1))) (fun k e => by rw [e]; exact h.h3)⟩
/-- zone.New's -/
theorem Emp.of_made {w : World} {B z bn bb : Nat} {ap : List Lab} (h : Made w B z bn bb ap) : Emp w B z bn bb ap (fun _ => 0) 0 := by
  obtain ⟨A, ca, h1, h2⟩ := h.blk
  have e1 : w.ownsMap Tryz.prog 9 ptrR bn 0 (.map []) := ⟨#[], 0, h.nodes, ⟨by simp, MapKept.stamped_empty 0, by simp⟩, Nat.le_refl _, rfl⟩
  have e2 : w.ownsMap (H := Unit) Tryz.prog 9 (plainElem Tryz.prog 3) bb 0 (.map []) := ⟨#[], 0, h.below, ⟨by simp, MapKept.stamped_empty 0, by simp⟩, Nat.le_refl _, rfl⟩
  have := h.h1
  have := h.h2
  have := h.h3
  exact ⟨⟨A, ca, h1, h2⟩, e1, ⟨_, e2, seen_empty⟩, by omega, by omega, h.h1, by omega⟩
end Nm
end Go.Proofs.YtkeimgamjnpcbaaGreat

/- slices.Insert at the end of a zone's data. -/
namespace Go.Proofs.YtkeimgamjnpcbaaGreat
open Go.RowKit
set_option linter.unusedVariables false
namespace Nm
theorem info_datum : (Tryz.prog.info? 119).map (fun i => (i.zero, i.size, i.bytes)) = some (some (.agg #[.slice none 0 0, .slice none 0 0]), 2, 48) := by kernel_rfl
set_option maxRecDepth 100000 in
set_option maxHeartbeats 4000000 in
theorem InsertEnd (B : Nat) (v : Value) (n : Nat) (xs : List Value) (ub : Nat) (u1 u2 : Value) (fr : Nat × Nat) (w : World) (hown : w.ownsRow B 119 2 v n xs) (hB : B ≤ w.heap.size) (hu : w.heap[ub]? = some (.cells #[u1, u2] 119 fr))
    (hub : v.ownBlock ≠ some ub) (h1 : u1.oneCell' = true) (h2 : u2.oneCell' = true) (hn : n ≤ 1000000) :
    Calls Tryz.prog 73 #[v, .int .i64 n, .slice (some ⟨ub, 0, none⟩) 1 1] w fun e w' => ∃ v', e = .returned v' ∧ w'.ownsRow B 119 2 v' (n + 1) (xs ++ [u1, u2]) ∧ Moved v w v' w' := by
  obtain ⟨i0, hi, hz0, hz1, hz2⟩ := info_parts info_datum
  have hus : ∀ j u, ([u1, u2] : List Value)[j]? = some u → w.cell? ((⟨ub, 0, none⟩ : Addr).add j) = some u := by
    intro j u hj
    rw [add_plain, cell_of_row _ _ _ _ _ _ hu, Nat.zero_add]
    simpa using hj
  have HUS := Lib.hid hus
  have H1 : Hid (∀ u ∈ ([u1, u2] : List Value), u.oneCell' = true) := Lib.hid (by intro u hu; rcases List.mem_cons.1 hu with rfl | hu; exact h1; rcases List.mem_cons.1 hu with rfl | hu; exact h2; cases hu)
  clear hus h1 h2 hu
  have hKey : ∀ (A : Option Addr) (cap : Nat), v = .slice A n cap → n ≤ cap → cap ≤ maxLen → Calls Tryz.prog 73 #[.slice A n cap, .int .i64 n, .slice (some ⟨ub, 0, none⟩) 1 1] w fun e w' => ∃ v', e = .returned v' ∧ w'.ownsRow B 119 2 v' (n + 1) (xs ++ [u1, u2]) ∧ Moved v w v' w' := by
    intro A cap hv hc1 hc2
    unfold maxLen at hc2
    go_enter Tryz.func73, Tryz.ntmps73
    go_wp2_with (first | (at_builtin; refine wpList_append_own_at _ rfl (.tmp 23) (.tmp 24) 108 rfl B 119 i0 _ 2 48 Tryz.underlying108 hi hz0 hz1 hz2 rfl (by decide) v n xs hv.symm hown ⟨ub, 0, none⟩ 1 1 [u1, u2] rfl rfl HUS.out H1.out (by unfold maxLen; omega) (by omega) hB ?_; intro v4 w4 hown4 hg4 _ hat4))
    all_goals
      have hmv : Moved v w v4 w4 := ⟨Kept.of_grown hg4, fun b hb => by
        rcases hat4 with h | h
        · exact .inl (h ▸ hb)
        · rw [h] at hb; cases hb; exact .inr (Nat.le_refl _)⟩
      rw [hv] at hmv
      go_ret
      first
        | exact ⟨_, rfl, hown4, hmv⟩
        | (have h5 : cap = n := by assumption
           rw [h5] at hmv
           exact ⟨_, rfl, hown4, hmv⟩)
  rcases hown.2 with ⟨rfl, rfl⟩ | ⟨g, cap, cur, rfl, hg, hh, hc1, hc2, _⟩
  · exact hKey none 0 rfl (Nat.le_refl _) (by unfold maxLen; omega)
  · exact hKey _ cap rfl hc1 hc2
end Nm
end Go.Proofs.YtkeimgamjnpcbaaGreat

/- Contracts of package zone: Put, the record is there. -/
namespace Go.Proofs.YtkeimgamjnpcbaaGreat
open Go.RowKit
set_option linter.unusedVariables false
namespace Nm
theorem cells5 {w : World} {g : Nat} {T : TypeId} {c0 c1 c2 c3 c4 : Value} (h : w.heap[g]? = some (.cells #[c0, c1, c2, c3, c4] T (0, 0))) :
    w.cell? ⟨g, 0, none⟩ = some c0 ∧ w.cell? ⟨g, 1, none⟩ = some c1 ∧ w.cell? ⟨g, 2, none⟩ = some c2 ∧ w.cell? ⟨g, 3, none⟩ = some c3 ∧ w.cell? ⟨g, 4, none⟩ = some c4 ∧ ∀ i, w.frozen? ⟨g, i, none⟩ = false := by
  refine ⟨?_, ?_, ?_, ?_, ?_, fun i => by simp [World.frozen?, h]⟩ <;> (rw [cell_of_row w g _ _ _ _ h]; rfl)
theorem cells4 {w : World} {g : Nat} {T : TypeId} {c0 c1 c2 c3 : Value} (h : w.heap[g]? = some (.cells #[c0, c1, c2, c3] T (0, 0))) :
    w.cell? ⟨g, 0, none⟩ = some c0 ∧ w.cell? ⟨g, 1, none⟩ = some c1 ∧ w.cell? ⟨g, 2, none⟩ = some c2 ∧ w.cell? ⟨g, 3, none⟩ = some c3 ∧ ∀ i, w.frozen? ⟨g, i, none⟩ = false := by
  refine ⟨?_, ?_, ?_, ?_, fun i => by simp [World.frozen?, h]⟩ <;> (rw [cell_of_row w g _ _ _ _ h]; rfl)
theorem cells2 {w : World} {g : Nat} {T : TypeId} {c0 c1 : Value} (h : w.heap[g]? = some (.cells #[c0, c1] T (0, 0))) :
    w.cell? ⟨g, 0, none⟩ = some c0 ∧ w.cell? ⟨g, 1, none⟩ = some c1 ∧ ∀ i, w.frozen? ⟨g, i, none⟩ = false := by
  refine ⟨?_, ?_, fun i => by simp [World.frozen?, h]⟩ <;> (rw [cell_of_row w g _ _ _ _ h]; rfl)
theorem own_form {w : World} {B : Nat} {e : TypeId} {size : Nat} {v : Value} {n : Nat} {xs : List Value} (h : w.ownsRow B e size v n xs) : ∃ A c, v = .slice A n c ∧ n ≤ c ∧ c ≤ maxLen := by
  rcases h.2 with ⟨rfl, rfl⟩ | ⟨g, cap, cur, rfl, hg, hh, hc1, hc2, _⟩
  · exact ⟨none, 0, rfl, Nat.le_refl _, by unfold maxLen; omega⟩
  · exact ⟨_, cap, rfl, hc1, hc2⟩
/-- a row's cells, whatever its elements' size -/
theorem cs_own2 {w : World} {B : Nat} {e : TypeId} {size : Nat} {A : Option Addr} {m c n : Nat} {xs : List Value} (h : w.ownsRow B e size (.slice A m c) n xs) : Cs w A xs := by
  rcases h.2 with ⟨hn, h0⟩ | ⟨g, cap, cur, hv, hg, hh, hc1, hc2, hrest⟩
  · have hx : xs = [] := by
      have := h.1
      rw [h0] at this
      exact List.length_eq_zero_iff.1 (by simpa using this)
    subst hx
    exact Cs.nil _ _
  · cases hv
    obtain ⟨hsz, htake⟩ := hrest
    intro i u hu
    refine ⟨g, 0, rfl, lt_block hh, ?_⟩
    rw [Nat.zero_add, cell_of_row _ _ _ _ _ _ hh]
    rw [← htake, List.getElem?_take] at hu
    split at hu
    · simpa using hu
    · cases hu
theorem at_one (k : Lit) (hk : WideAt.IsKeyLit k) (d z : DataW Unit) : (DataW.map [(k, d)]).atKey k z = d := Maps.atKey_put_same (D := .map []) Maps.isMap_empty hk d z
theorem key_int (q : IntKind) (i : Int) : WideAt.IsKeyLit (.int q i) := by first | exact trivial | (simp [WideAt.IsKeyLit])
/-- a record that may be put -/
structure Rec (n ap : List Lab) (t : Int) (d : Lab) (cn cd : Nat) : Prop where
  small : Small n
  name : nameE n = 0
  inn : within n ap = true
  easy : easyT t
  wf : (Lit.int .u16 t).wf = true
  data : code50 (chk t d) = 0
  len : d.length ≤ 100000
  cap1 : n.length ≤ cn
  cap2 : cn ≤ maxLen
  cap3 : d.length ≤ cd
  cap4 : cd ≤ maxLen
set_option maxRecDepth 100000 in
set_option maxHeartbeats 20000000 in
theorem PutSame (w : World) (B z bn bb x bs s : Nat) (ap n : List Lab) (t ttl : Int) (v : Value) (ds : List (Blob × Blob)) (f : Lab → Int) (N : Nat) (h : One w B z bn bb x bs s ap n t ttl v ds f N) (An : Option Addr) (cn : Nat) (Ad : Option Addr) (d : Lab) (cd : Nat) (ttl2 : Int) (hAn : Cs w An (n.map strV)) (hAd : w.ownsRow 0 5 1 (.slice Ad d.length cd) d.length (d.map byteV)) (hr : Rec n ap t d cn cd) (hap : Small ap) (p : Nat) (hp : FindAt ds (canonD t d) p) (hds : ds.length ≤ 1000000) (hhit : hitB ds (canonD t d) p = true) (hsame : ttl = ttl2) :
    Calls Tryz.prog 27 #[.pointer (some ⟨z, 0, none⟩), .agg #[.slice An n.length cn, .int .u16 t, .int .u16 1, .int .u32 ttl2, .slice Ad d.length cd]] w fun e w' => e = .returned (.tuple #[.bool false, .int .i64 0]) ∧ One w' B z bn bb x bs s ap n t ttl v ds f N ∧ Turn B w w' := by
  subst hsame
  have hsame : True := trivial
  have hb1 : Below w.heap.size w (w.alloc (.cells #[.slice An n.length cn, .int .u16 t, .int .u16 1, .int .u32 ttl, .slice Ad d.length cd] 51)) := (Below.refl _ _).alloc (Nat.le_refl _) _
  have hblk := heap_alloc_new w (.cells #[.slice An n.length cn, .int .u16 t, .int .u16 1, .int .u32 ttl, .slice Ad d.length cd] 51)
  obtain ⟨k0, k1, k2, k3, k4, kf⟩ := cells5 hblk
  have hsz : (w.alloc (.cells #[.slice An n.length cn, .int .u16 t, .int .u16 1, .int .u32 ttl, .slice Ad d.length cd] 51)).heap.size = w.heap.size + 1 := by simp
  have hO := h.ext hb1
  have hAn1 := hAn.below hb1
  have hAd1 := own_below hAd hb1
  go_enter Tryz.func27, Tryz.ntmps27
  go_wp2_with fail
  generalize w.alloc (.cells #[.slice An n.length cn, .int .u16 t, .int .u16 1, .int .u32 ttl, .slice Ad d.length cd] 51) = w1 at *
  have hrl : w.heap.size < w1.heap.size := by omega
  obtain ⟨Aa, ca, hzb, hza⟩ := hO.zn.blk
  have hzl := lt_block hzb
  obtain ⟨z0, z1, z2, z3, zf⟩ := cells4 hzb
  have hcs_ap := (cs_own hza).2
  obtain ⟨hr1, hr2, hr3, hr4, hr5, hr6, hr7, hr8, hr9, hr10, hr11⟩ := hr
  have HCk : Hid (∀ W, Below w1.heap.size w1 W → Calls Tryz.prog 65 #[.slice An n.length cn] W fun e w' => e = .returned (.int .i64 0) ∧ W = w') := Lib.hid fun W hW => by
    have := Check An n cn W (hAn1.below hW) hr1.few
    rw [hr2] at this
    exact this
  have HWi : Hid (∀ W, Below w1.heap.size w1 W → Calls Tryz.prog 66 #[.slice An n.length cn, .slice Aa ap.length ca] W fun e w' => Below W.heap.size W w' ∧ e = .returned (.bool true)) := Lib.hid fun W hW => by
    have := Within An Aa n ap cn ca W (hAn1.below hW) (hcs_ap.below hW) hr1.few hap.few hr8 hr9
    rw [hr3] at this
    exact this
  have HRc : Hid (∀ W, Below w1.heap.size w1 W → Calls Tryz.prog 67 #[.int .u16 t, .slice Ad d.length cd] W fun e w' => Below W.heap.size W w' ∧ e = .returned (.int .i64 0)) := Lib.hid fun W hW => by
    have := CheckE t hr4 Ad d cd W ((cs_own hAd1).2.below hW) hr7 hr10 hr11
    rw [hr6] at this
    exact this
  have HCa : Hid (∀ W, Below w1.heap.size w1 W → Calls Tryz.prog 68 #[.int .u16 t, .slice Ad d.length cd] W fun e w' => Below W.heap.size W w' ∧ ∃ v, e = .returned v ∧ w'.ownsRow W.heap.size 5 1 v (canonD t d).length ((canonD t d).map byteV)) := Lib.hid fun W hW =>
    ZCanon t hr4 Ad d cd W ((cs_own hAd1).2.below hW) hr7 hr10 hr11
  have hsv : ∃ A c, v = .slice A ds.length c := by
    obtain ⟨A, c, hv, _⟩ := own_form hO.st.row
    exact ⟨A, c, hv⟩
  obtain ⟨Av, cv, rfl⟩ := hsv
  have hsl := lt_block hO.st.set
  obtain ⟨s0, s1, sf⟩ := cells2 hO.st.set
  obtain ⟨An2, cn2, hxb, hxn⟩ := hO.st.node
  have hxl := lt_block hxb
  obtain ⟨x0, x1, xf⟩ := cells2 hxb
  have HAt : Hid (∀ W, Below w1.heap.size w1 W → Calls Tryz.prog 69 #[.pointer (some ⟨z, 0, none⟩), .slice An n.length cn, .int .u16 t] W fun e w' => e = .returned (.pointer (some ⟨s, 0, none⟩)) ∧ Below W.heap.size W w') := Lib.hid fun W hW => by
    have hOW := hO.ext hW
    have := ZAt z bn An n cn t N 9 _ _ (some x) (some s) W ((bcl (o := 1) hW hzl).trans z1) (Nat.lt_of_lt_of_le hzl hW.size) hOW.zn.nodes (hAn1.below hW) hr1 hr5 (at_one _ (key_lit _) _ _) (fun x' hx' => by
      cases hx'
      exact ⟨Nat.lt_of_lt_of_le hxl hW.size, bs, (bcl (o := 1) hW hxl).trans x1, hOW.st.sets, at_one _ (key_int _ _) _ _⟩)
    exact this
  have HFi : Hid (∀ A' c' W, Below w1.heap.size w1 W → Cs W A' ((canonD t d).map byteV) → Calls Tryz.prog 70 #[.pointer (some ⟨s, 0, none⟩), .slice A' (canonD t d).length c'] W fun e w' => e = .returned (.tuple #[.int .i64 p, .bool (hitB ds (canonD t d) p)]) ∧ Below W.heap.size W w') := Lib.hid fun A' c' W hW hA' => by
    have hOW := hO.ext hW
    exact ZFind s Av A' ds cv (canonD t d) c' p W ((bcl (o := 1) hW hsl).trans s1) (cs_own2 hOW.st.row) hOW.st.dat.ok hA' hds hp
  have HK : Hid (∀ W, Below w1.heap.size w1 W → Calls Tryz.prog 71 #[.slice An n.length cn] W fun e w' => e = .returned (strV (zkey n)) ∧ Below W.heap.size W w') := Lib.hid fun W hW => ZKey An n cn W (hAn1.below hW) hr1
  have hnl := hr1.1
  have HR : Hid (Rec n ap t d cn cd) := Lib.hid ⟨hr1, hr2, hr3, hr4, hr5, hr6, hr7, hr8, hr9, hr10, hr11⟩
  have HAn := Lib.hid hAn1
  have HAd := Lib.hid hAd1
  have HO := Lib.hid hO
  have HB : Hid (B ≤ w1.heap.size) := Lib.hid (Nat.le_trans hO.st.h2 (Nat.le_of_lt hsl))
  have HTu : Hid (Turn B w w1) := Lib.hid (Turn.of_ext hb1 (Nat.le_trans h.st.h2 (Nat.le_of_lt (lt_block h.st.set))))
  clear h hAn hAd hAn1 hAd1 hza hcs_ap hr1 hr2 hr3 hr4 hr5 hr6 hap
  generalize hcd : canonD t d = c at *
  have HCD := Lib.hid hcd
  clear hcd
  refine wp_region_mono mixed0 (by kernel_rfl) [.is (.pointer (some ⟨w.heap.size, 0, none⟩)), .is (.slice An n.length cn), .is (.int .i64 0), .is (.bool false), .is (.bool false), .is (.pointer (some ⟨w.heap.size, 0, none⟩)), .is (.slice An n.length cn), .is (.pointer (some ⟨z, 0, none⟩)), .is (.pointer (some ⟨z, 0, none⟩)), .is (.pointer (some ⟨z, 0, none⟩)), .is (.slice Aa ap.length ca), .is (.bool true), .is (.bool false), .is (.bool false), .is (.bool false)] rfl ?_ ?_
  · intro i q hio vals W hE haf
    have e0 := (bcl (o := 0) hE hrl).trans k0
    have y0 := (bcl (o := 0) hE hzl).trans z0
    rcases i with _ | _ | _ | _ | _ | _ | _ | _ | _ | _ | _ | _ | _ | _ | _ | i
    all_goals first
      | (exfalso; simp at hio; done)
      | (simp at hio; subst hio; simp [bindD, rdB, Region.binds, factAt] at haf; simp [opYield_def, yieldUpon, yielded, relAct, dstAt, Act.put, Region.wanted, go_sem, haf, e0, y0, Ext.refl, factAt]; done)
      | skip
    all_goals
      simp at hio
      subst hio
      simp [bindD, rdB, Region.binds, factAt] at haf
    · simp [opYield_def, yieldUpon, yielded, relAct, dstAt, Act.put, Region.wanted, go_sem, haf, factAt]
      refine (HCk.out W hE).mono fun e W' h => ?_
      obtain ⟨h1, h2⟩ := h
      subst h2
      exact ⟨h1, Below.refl _ _⟩
    · simp [opYield_def, yieldUpon, yielded, relAct, dstAt, Act.put, Region.wanted, go_sem, haf, factAt]
      refine (HWi.out W hE).mono fun e W' h => ?_
      exact ⟨h.2, h.1⟩
  · intro vals W hE hF
    simp only [facts] at hF
    obtain ⟨_, _, _, _, _, _, _, _, _, _, _, _, _, _, h14, _⟩ := hF
    have e14 : vals 14 = .bool false := h14
    simp [relAct, dstAt, Act.put]
    rw [e14]
    clear e14 h14
    generalize vals 0 = j0
    generalize vals 1 = j1
    generalize vals 2 = j2
    generalize vals 3 = j3
    generalize vals 4 = j4
    generalize vals 5 = j5
    generalize vals 6 = j6
    generalize vals 7 = j7
    generalize vals 8 = j8
    generalize vals 9 = j9
    generalize vals 10 = j10
    generalize vals 11 = j11
    generalize vals 12 = j12
    generalize vals 13 = j13
    have hE : Below w1.heap.size w1 W := hE
    have e1 := (bcl (o := 1) hE hrl).trans k1
    have e2 := (bcl (o := 2) hE hrl).trans k2
    have e4 := (bcl (o := 4) hE hrl).trans k4
    go_wp2_with fail
    refine (HRc.out W hE).mono ?_
    rintro e w2 ⟨hb2, rfl⟩
    have hE2 := hE.trans (hb2.mono hE.size)
    clear e1 e2 e4 hb2 hE
    have e1 := (bcl (o := 1) hE2 hrl).trans k1
    have e4 := (bcl (o := 4) hE2 hrl).trans k4
    go_wp2_with fail
    refine (HCa.out w2 hE2).mono ?_
    rintro e w3 ⟨hb3, vc, rfl, hown3⟩
    have hE3 := hE2.trans (hb3.mono hE2.size)
    have ho3 := own_base hown3 hE2.size
    obtain ⟨Ac, cc, rfl, _, hcc⟩ := Cs.of_own hown3
    clear e1 e4 hb3 hE2 hown3 w2
    have e0 := (bcl (o := 0) hE3 hrl).trans k0
    have e1 := (bcl (o := 1) hE3 hrl).trans k1
    go_wp2_with fail
    refine (HAt.out w3 hE3).mono ?_
    rintro e w4 ⟨rfl, hb4⟩
    have hE4 := hE3.trans (hb4.mono hE3.size)
    have ho4 := own_below ho3 hb4
    have hc4 := hcc.below hb4
    clear e0 e1 hb4 hE3 ho3 hcc w3
    go_wp2_with fail
    refine (HFi.out _ _ w4 hE4 hc4).mono ?_
    rintro e w5 ⟨rfl, hb5⟩
    have hE5 := hE4.trans (hb5.mono hE4.size)
    have ho5 := own_below ho4 hb5
    have hc5 := hc4.below hb5
    clear hb5 hE4 ho4 hc4 w4
    rw [hhit]
    go_wp2_with fail
    refine wp_region_mono mixed0 (by kernel_rfl) [.is (.bool true), .is (.bool true), .is (.pointer (some ⟨s, 0, none⟩)), .is (.pointer (some ⟨s, 0, none⟩)), .is (.pointer (some ⟨s, 0, none⟩)), .is (.int .u32 ttl), .is (.pointer (some ⟨w.heap.size, 3, none⟩)), .is (.int .u32 ttl), .is (.bool true), .is (.bool true), .is (.bool true)] rfl ?_ ?_
    · intro i q hio vals W hE haf
      have e3 := (bcl (o := 3) (hE5.trans (Below.mono (show Below w5.heap.size w5 W from hE) hE5.size)) hrl).trans k3
      have y0 := (bcl (o := 0) (hE5.trans (Below.mono (show Below w5.heap.size w5 W from hE) hE5.size)) hsl).trans s0
      rcases i with _ | _ | _ | _ | _ | _ | _ | _ | _ | _ | _ | i
      all_goals first
        | (exfalso; simp at hio; done)
        | (simp at hio; subst hio; simp [bindD, rdB, Region.binds, factAt] at haf; simp [opYield_def, yieldUpon, yielded, relAct, dstAt, Act.put, Region.wanted, go_sem, haf, e3, y0, hsame, Ext.refl, factAt]; done)
        | skip
    · intro vals W hE hF
      simp only [facts] at hF
      obtain ⟨_, _, _, _, _, _, _, _, _, _, h10, _⟩ := hF
      have e10 : vals 10 = .bool true := h10
      simp [relAct, dstAt, Act.put]
      rw [e10]
      clear e10 h10
      generalize vals 0 = g0
      generalize vals 1 = g1
      generalize vals 2 = g2
      generalize vals 3 = g3
      generalize vals 4 = g4
      generalize vals 5 = g5
      generalize vals 6 = g6
      generalize vals 7 = g7
      generalize vals 8 = g8
      generalize vals 9 = g9
      have hE6 := hE5.trans (hE.mono hE5.size)
      have ho6 := own_below ho5 hE
      go_wp2_with fail
      go_ret2
      exact ⟨rfl, HO.out.ext hE6, HTu.out.trans (Turn.of_ext (hE6) HB.out)⟩
set_option maxRecDepth 100000 in
set_option maxHeartbeats 20000000 in
theorem PutTtl (w : World) (B z bn bb x bs s : Nat) (ap n : List Lab) (t ttl : Int) (v : Value) (ds : List (Blob × Blob)) (f : Lab → Int) (N : Nat) (h : One w B z bn bb x bs s ap n t ttl v ds f N) (An : Option Addr) (cn : Nat) (Ad : Option Addr) (d : Lab) (cd : Nat) (ttl2 : Int) (hAn : Cs w An (n.map strV)) (hAd : w.ownsRow 0 5 1 (.slice Ad d.length cd) d.length (d.map byteV)) (hr : Rec n ap t d cn cd) (hap : Small ap) (p : Nat) (hp : FindAt ds (canonD t d) p) (hds : ds.length ≤ 1000000) (hhit : hitB ds (canonD t d) p = true) (hne : ttl ≠ ttl2) :
    Calls Tryz.prog 27 #[.pointer (some ⟨z, 0, none⟩), .agg #[.slice An n.length cn, .int .u16 t, .int .u16 1, .int .u32 ttl2, .slice Ad d.length cd]] w fun e w' => e = .returned (.tuple #[.bool true, .int .i64 0]) ∧ One w' B z bn bb x bs s ap n t ttl2 v ds f N ∧ Turn B w w' := by
  have hsame : (ttl == ttl2) = false := by simpa using hne
  have hb1 : Below w.heap.size w (w.alloc (.cells #[.slice An n.length cn, .int .u16 t, .int .u16 1, .int .u32 ttl2, .slice Ad d.length cd] 51)) := (Below.refl _ _).alloc (Nat.le_refl _) _
  have hblk := heap_alloc_new w (.cells #[.slice An n.length cn, .int .u16 t, .int .u16 1, .int .u32 ttl2, .slice Ad d.length cd] 51)
  obtain ⟨k0, k1, k2, k3, k4, kf⟩ := cells5 hblk
  have hsz : (w.alloc (.cells #[.slice An n.length cn, .int .u16 t, .int .u16 1, .int .u32 ttl2, .slice Ad d.length cd] 51)).heap.size = w.heap.size + 1 := by simp
  have hO := h.ext hb1
  have hAn1 := hAn.below hb1
  have hAd1 := own_below hAd hb1
  go_enter Tryz.func27, Tryz.ntmps27
  go_wp2_with fail
  generalize w.alloc (.cells #[.slice An n.length cn, .int .u16 t, .int .u16 1, .int .u32 ttl2, .slice Ad d.length cd] 51) = w1 at *
  have hrl : w.heap.size < w1.heap.size := by omega
  obtain ⟨Aa, ca, hzb, hza⟩ := hO.zn.blk
  have hzl := lt_block hzb
  obtain ⟨z0, z1, z2, z3, zf⟩ := cells4 hzb
  have hcs_ap := (cs_own hza).2
  obtain ⟨hr1, hr2, hr3, hr4, hr5, hr6, hr7, hr8, hr9, hr10, hr11⟩ := hr
  have HCk : Hid (∀ W, Below w1.heap.size w1 W → Calls Tryz.prog 65 #[.slice An n.length cn] W fun e w' => e = .returned (.int .i64 0) ∧ W = w') := Lib.hid fun W hW => by
    have := Check An n cn W (hAn1.below hW) hr1.few
    rw [hr2] at this
    exact this
  have HWi : Hid (∀ W, Below w1.heap.size w1 W → Calls Tryz.prog 66 #[.slice An n.length cn, .slice Aa ap.length ca] W fun e w' => Below W.heap.size W w' ∧ e = .returned (.bool true)) := Lib.hid fun W hW => by
    have := Within An Aa n ap cn ca W (hAn1.below hW) (hcs_ap.below hW) hr1.few hap.few hr8 hr9
    rw [hr3] at this
    exact this
  have HRc : Hid (∀ W, Below w1.heap.size w1 W → Calls Tryz.prog 67 #[.int .u16 t, .slice Ad d.length cd] W fun e w' => Below W.heap.size W w' ∧ e = .returned (.int .i64 0)) := Lib.hid fun W hW => by
    have := CheckE t hr4 Ad d cd W ((cs_own hAd1).2.below hW) hr7 hr10 hr11
    rw [hr6] at this
    exact this
  have HCa : Hid (∀ W, Below w1.heap.size w1 W → Calls Tryz.prog 68 #[.int .u16 t, .slice Ad d.length cd] W fun e w' => Below W.heap.size W w' ∧ ∃ v, e = .returned v ∧ w'.ownsRow W.heap.size 5 1 v (canonD t d).length ((canonD t d).map byteV)) := Lib.hid fun W hW =>
    ZCanon t hr4 Ad d cd W ((cs_own hAd1).2.below hW) hr7 hr10 hr11
  have hsv : ∃ A c, v = .slice A ds.length c := by
    obtain ⟨A, c, hv, _⟩ := own_form hO.st.row
    exact ⟨A, c, hv⟩
  obtain ⟨Av, cv, rfl⟩ := hsv
  have hsl := lt_block hO.st.set
  obtain ⟨s0, s1, sf⟩ := cells2 hO.st.set
  obtain ⟨An2, cn2, hxb, hxn⟩ := hO.st.node
  have hxl := lt_block hxb
  obtain ⟨x0, x1, xf⟩ := cells2 hxb
  have HAt : Hid (∀ W, Below w1.heap.size w1 W → Calls Tryz.prog 69 #[.pointer (some ⟨z, 0, none⟩), .slice An n.length cn, .int .u16 t] W fun e w' => e = .returned (.pointer (some ⟨s, 0, none⟩)) ∧ Below W.heap.size W w') := Lib.hid fun W hW => by
    have hOW := hO.ext hW
    have := ZAt z bn An n cn t N 9 _ _ (some x) (some s) W ((bcl (o := 1) hW hzl).trans z1) (Nat.lt_of_lt_of_le hzl hW.size) hOW.zn.nodes (hAn1.below hW) hr1 hr5 (at_one _ (key_lit _) _ _) (fun x' hx' => by
      cases hx'
      exact ⟨Nat.lt_of_lt_of_le hxl hW.size, bs, (bcl (o := 1) hW hxl).trans x1, hOW.st.sets, at_one _ (key_int _ _) _ _⟩)
    exact this
  have HFi : Hid (∀ A' c' W, Below w1.heap.size w1 W → Cs W A' ((canonD t d).map byteV) → Calls Tryz.prog 70 #[.pointer (some ⟨s, 0, none⟩), .slice A' (canonD t d).length c'] W fun e w' => e = .returned (.tuple #[.int .i64 p, .bool (hitB ds (canonD t d) p)]) ∧ Below W.heap.size W w') := Lib.hid fun A' c' W hW hA' => by
    have hOW := hO.ext hW
    exact ZFind s Av A' ds cv (canonD t d) c' p W ((bcl (o := 1) hW hsl).trans s1) (cs_own2 hOW.st.row) hOW.st.dat.ok hA' hds hp
  have HK : Hid (∀ W, Below w1.heap.size w1 W → Calls Tryz.prog 71 #[.slice An n.length cn] W fun e w' => e = .returned (strV (zkey n)) ∧ Below W.heap.size W w') := Lib.hid fun W hW => ZKey An n cn W (hAn1.below hW) hr1
  have hnl := hr1.1
  have HR : Hid (Rec n ap t d cn cd) := Lib.hid ⟨hr1, hr2, hr3, hr4, hr5, hr6, hr7, hr8, hr9, hr10, hr11⟩
  have HAn := Lib.hid hAn1
  have HAd := Lib.hid hAd1
  have HO := Lib.hid hO
  have HB : Hid (B ≤ w1.heap.size) := Lib.hid (Nat.le_trans hO.st.h2 (Nat.le_of_lt hsl))
  have HTu : Hid (Turn B w w1) := Lib.hid (Turn.of_ext hb1 (Nat.le_trans h.st.h2 (Nat.le_of_lt (lt_block h.st.set))))
  clear h hAn hAd hAn1 hAd1 hza hcs_ap hr1 hr2 hr3 hr4 hr5 hr6 hap
  generalize hcd : canonD t d = c at *
  have HCD := Lib.hid hcd
  clear hcd
  refine wp_region_mono mixed0 (by kernel_rfl) [.is (.pointer (some ⟨w.heap.size, 0, none⟩)), .is (.slice An n.length cn), .is (.int .i64 0), .is (.bool false), .is (.bool false), .is (.pointer (some ⟨w.heap.size, 0, none⟩)), .is (.slice An n.length cn), .is (.pointer (some ⟨z, 0, none⟩)), .is (.pointer (some ⟨z, 0, none⟩)), .is (.pointer (some ⟨z, 0, none⟩)), .is (.slice Aa ap.length ca), .is (.bool true), .is (.bool false), .is (.bool false), .is (.bool false)] rfl ?_ ?_
  · intro i q hio vals W hE haf
    have e0 := (bcl (o := 0) hE hrl).trans k0
    have y0 := (bcl (o := 0) hE hzl).trans z0
    rcases i with _ | _ | _ | _ | _ | _ | _ | _ | _ | _ | _ | _ | _ | _ | _ | i
    all_goals first
      | (exfalso; simp at hio; done)
      | (simp at hio; subst hio; simp [bindD, rdB, Region.binds, factAt] at haf; simp [opYield_def, yieldUpon, yielded, relAct, dstAt, Act.put, Region.wanted, go_sem, haf, e0, y0, Ext.refl, factAt]; done)
      | skip
    all_goals
      simp at hio
      subst hio
      simp [bindD, rdB, Region.binds, factAt] at haf
    · simp [opYield_def, yieldUpon, yielded, relAct, dstAt, Act.put, Region.wanted, go_sem, haf, factAt]
      refine (HCk.out W hE).mono fun e W' h => ?_
      obtain ⟨h1, h2⟩ := h
      subst h2
      exact ⟨h1, Below.refl _ _⟩
    · simp [opYield_def, yieldUpon, yielded, relAct, dstAt, Act.put, Region.wanted, go_sem, haf, factAt]
      refine (HWi.out W hE).mono fun e W' h => ?_
      exact ⟨h.2, h.1⟩
  · intro vals W hE hF
    simp only [facts] at hF
    obtain ⟨_, _, _, _, _, _, _, _, _, _, _, _, _, _, h14, _⟩ := hF
    have e14 : vals 14 = .bool false := h14
    simp [relAct, dstAt, Act.put]
    rw [e14]
    clear e14 h14
    generalize vals 0 = j0
    generalize vals 1 = j1
    generalize vals 2 = j2
    generalize vals 3 = j3
    generalize vals 4 = j4
    generalize vals 5 = j5
    generalize vals 6 = j6
    generalize vals 7 = j7
    generalize vals 8 = j8
    generalize vals 9 = j9
    generalize vals 10 = j10
    generalize vals 11 = j11
    generalize vals 12 = j12
    generalize vals 13 = j13
    have hE : Below w1.heap.size w1 W := hE
    have e1 := (bcl (o := 1) hE hrl).trans k1
    have e2 := (bcl (o := 2) hE hrl).trans k2
    have e4 := (bcl (o := 4) hE hrl).trans k4
    go_wp2_with fail
    refine (HRc.out W hE).mono ?_
    rintro e w2 ⟨hb2, rfl⟩
    have hE2 := hE.trans (hb2.mono hE.size)
    clear e1 e2 e4 hb2 hE
    have e1 := (bcl (o := 1) hE2 hrl).trans k1
    have e4 := (bcl (o := 4) hE2 hrl).trans k4
    go_wp2_with fail
    refine (HCa.out w2 hE2).mono ?_
    rintro e w3 ⟨hb3, vc, rfl, hown3⟩
    have hE3 := hE2.trans (hb3.mono hE2.size)
    have ho3 := own_base hown3 hE2.size
    obtain ⟨Ac, cc, rfl, _, hcc⟩ := Cs.of_own hown3
    clear e1 e4 hb3 hE2 hown3 w2
    have e0 := (bcl (o := 0) hE3 hrl).trans k0
    have e1 := (bcl (o := 1) hE3 hrl).trans k1
    go_wp2_with fail
    refine (HAt.out w3 hE3).mono ?_
    rintro e w4 ⟨rfl, hb4⟩
    have hE4 := hE3.trans (hb4.mono hE3.size)
    have ho4 := own_below ho3 hb4
    have hc4 := hcc.below hb4
    clear e0 e1 hb4 hE3 ho3 hcc w3
    go_wp2_with fail
    refine (HFi.out _ _ w4 hE4 hc4).mono ?_
    rintro e w5 ⟨rfl, hb5⟩
    have hE5 := hE4.trans (hb5.mono hE4.size)
    have ho5 := own_below ho4 hb5
    have hc5 := hc4.below hb5
    clear hb5 hE4 ho4 hc4 w4
    rw [hhit]
    go_wp2_with fail
    refine wp_region_mono mixed0 (by kernel_rfl) [.is (.bool true), .is (.bool true), .is (.pointer (some ⟨s, 0, none⟩)), .is (.pointer (some ⟨s, 0, none⟩)), .is (.pointer (some ⟨s, 0, none⟩)), .is (.int .u32 ttl), .is (.pointer (some ⟨w.heap.size, 3, none⟩)), .is (.int .u32 ttl2), .is (.bool false), .is (.bool false), .is (.bool false)] rfl ?_ ?_
    · intro i q hio vals W hE haf
      have e3 := (bcl (o := 3) (hE5.trans (Below.mono (show Below w5.heap.size w5 W from hE) hE5.size)) hrl).trans k3
      have y0 := (bcl (o := 0) (hE5.trans (Below.mono (show Below w5.heap.size w5 W from hE) hE5.size)) hsl).trans s0
      rcases i with _ | _ | _ | _ | _ | _ | _ | _ | _ | _ | _ | i
      all_goals first
        | (exfalso; simp at hio; done)
        | (simp at hio; subst hio; simp [bindD, rdB, Region.binds, factAt] at haf; simp [opYield_def, yieldUpon, yielded, relAct, dstAt, Act.put, Region.wanted, go_sem, haf, e3, y0, hsame, Ext.refl, factAt]; done)
        | skip
    · intro vals W hE hF
      simp only [facts] at hF
      obtain ⟨_, _, _, _, _, _, _, _, _, _, h10, _⟩ := hF
      have e10 : vals 10 = .bool false := h10
      simp [relAct, dstAt, Act.put]
      rw [e10]
      clear e10 h10
      generalize vals 0 = g0
      generalize vals 1 = g1
      generalize vals 2 = g2
      generalize vals 3 = g3
      generalize vals 4 = g4
      generalize vals 5 = g5
      generalize vals 6 = g6
      generalize vals 7 = g7
      generalize vals 8 = g8
      generalize vals 9 = g9
      have hE6 := hE5.trans (hE.mono hE5.size)
      have ho6 := own_below ho5 hE
      have hO6 := HO.out.ext hE6
      have e3 := (bcl (o := 3) hE6 hrl).trans k3
      have y0 := (bcl (o := 0) hE6 hsl).trans s0
      have yf := (bfr (o := 0) hE6 hsl).trans (sf 0)
      have hkp : Kept (fun k => k = s) W (W.setCell ⟨s, 0, none⟩ (.int .u32 ttl2)) := (Kept.refl (fun k => k = s) W).setCell (fun _ => rfl) _
      have hps := hO6.put hkp (heap_set hO6.st.set)
      have HPS := Lib.hid hps
      clear hps hkp hO6
      go_wp2_with fail
      go_ret2
      exact ⟨rfl, HPS.out.1, (HTu.out.trans (Turn.of_ext hE6 HB.out)).trans HPS.out.2⟩
end Nm
end Go.Proofs.YtkeimgamjnpcbaaGreat

/- Contracts of package zone: Names, of one name. -/
namespace Go.Proofs.YtkeimgamjnpcbaaGreat
open Go.RowKit
set_option linter.unusedVariables false
set_option linter.unusedSimpArgs false
namespace Nm
theorem info_name : (Tryz.prog.info? 23).map (fun i => (i.zero, i.size, i.bytes)) = some (some (.slice none 0 0), 1, 24) := by kernel_rfl
theorem keyS_inv (key : Value) (kl : Lit) (h : keyOf Tryz.prog 9 key = some kl) : ∃ x : ByteArray, key = .string x := by
  cases key <;> simp [keyOf, Tryz.underlying9, mapKey] at h
  exact ⟨_, rfl⟩
theorem ptrV_inv (v : Value) (y : DataW Unit × List MemPlace) (h : ptrR v = some y) : ∃ c, v = ptrV c := by
  rcases ptrR_inv h with ⟨rfl, _⟩ | ⟨b, rfl, _⟩
  · exact ⟨none, rfl⟩
  · exact ⟨some b, rfl⟩
/-- the one element of a map of one -/
theorem one_elem {k0 : Lit} {x : Nat} {kl : Lit} {c : Option Nat} {y : DataW Unit × List MemPlace} (hl : Maps.has (DataW.map [(k0, DataW.lit (.int .i64 (x : Int)))] : DataW Unit) kl = true) (hR : ptrR (ptrV c) = some y) (hat : ∀ zd, (DataW.map [(k0, DataW.lit (.int .i64 (x : Int)))] : DataW Unit).atKey kl zd = y.1) (hk0 : WideAt.IsKeyLit k0) : kl = k0 ∧ c = some x := by
  rw [Maps.has_eq] at hl
  simp at hl
  have e := WideAt.sameKey_eq hl
  subst e
  have h1 := hat .nil
  rw [at_one _ hk0] at h1
  obtain ⟨y1, y2⟩ := y
  simp only at h1
  subst h1
  have h2 := ptr_of (o := some x) hR
  refine ⟨rfl, ?_⟩
  cases c with
  | none => cases h2
  | some b => cases h2; rfl
set_option maxRecDepth 100000 in
set_option maxHeartbeats 20000000 in
theorem ZNames (w : World) (B z bn bb x bs s : Nat) (ap n : List Lab) (t ttl : Int) (v : Value) (ds : List (Blob × Blob)) (f : Lab → Int) (N : Nat) (h : One w B z bn bb x bs s ap n t ttl v ds f N) (hn : Small n) :
    Calls Tryz.prog 34 #[.pointer (some ⟨z, 0, none⟩)] w fun e w' => Below w.heap.size w w' ∧ ∃ v A c, e = .returned v ∧ w'.ownsRow w.heap.size 23 1 v 1 [.slice A n.length c] ∧ w'.ownsRow w.heap.size 9 1 (.slice A n.length c) n.length ((lower n).map strV) := by
  obtain ⟨i0, hi, hz0, hz1, hz2⟩ := info_parts info_name
  obtain ⟨Aa, ca, hzb, hza⟩ := h.zn.blk
  obtain ⟨z0, z1, z2, z3, _⟩ := cells4 hzb
  have hzl := lt_block hzb
  obtain ⟨An2, cn2, hxb, hxn⟩ := h.st.node
  have hM := h.zn.nodes
  have HXB := Lib.hid hxb
  have HXN := Lib.hid hxn
  have hx1 := lt_block hxb
  have hml := hM.lt
  have HNE : Hid (x ≠ bn) := Lib.hid (Ne.symm (ne_map hM hxb))
  have hll := lower_len n
  have HL := Lib.hid hll
  clear h hza hzb hxb hxn hll
  go_enter Tryz.func34, Tryz.ntmps34
  go_wp2_with (first | (at_range; refine wpList_range_own _ rfl _ 97 rfl 9 112 keyS Tryz.underlying97 ptrR bn N _ rfl hM ?_; intro w0 hrg0 hg0 hs0))
  refine wp_loop_rounds 2 ?_
  rw [rounds_succ]
  go_wp2_with (first | (at_next; refine wpList_next_ranges _ rfl _ rfl 9 keyS ptrR Value.string ptrV keyS_inv ptrV_inv bn w.heap.size N _ _ _ rfl hrg0 ?_ ?_))
  · intro hc0 _
    exact absurd hc0 (by simp [Maps.size])
  · intro kk c kl ya yb w1 cnt1 hkey hlk hR hat hrg1 hlt hg1 hs1 hen
    obtain ⟨rfl, rfl⟩ := one_elem (y := (ya, yb)) hlk hR hat (key_lit _)
    have hc1 : cnt1 = 0 := by simp [Maps.size] at hlt; exact hlt
    subst hc1
    have hb1 : Below w.heap.size w w1 := ⟨hg1.os.trans hg0.os, hg1.tape.trans hg0.tape, hg1.output.trans hg0.output, by omega, fun k hk => (hg1.block k (by omega) (by intro e; cases e; omega)).trans (hg0.block k hk (by simp))⟩
    have hx := (hb1.block x hx1).trans HXB.out
    obtain ⟨x0, _, _⟩ := cells2 hx
    have hxr := own_below HXN.out hb1
    have hen2 : (Instr.entry (.pointer (some ⟨w.heap.size, 0, none⟩))).run Tryz.prog w1 = .ok (.tuple #[.string kk, .pointer (some ⟨x, 0, none⟩)]) w1 := hen
    have hcl := CloneN An2 (lower n) cn2 w1 (cs_own hxr).2 (by rw [HL.out]; have := hn.1; omega)
    rw [HL.out] at hcl
    have HC := Lib.hid hcl
    have HRG := Lib.hid hrg1
    clear hrg1 hcl hen hR hat hlk hkey hxr hx hrg0 hM
    go_wp2_with fail
    refine HC.out.mono ?_
    rintro e w2 ⟨v2, rfl, hown2, hb2⟩
    obtain ⟨A2, c2, rfl, _⟩ := own_form hown2
    have hb12 := hb1.trans (hb2.mono hb1.size)
    have ho0 : w2.ownsRow w.heap.size 23 1 (.slice none 0 0) 0 [] := World.ownsRow_nil _ _ _ _
    have hB2 := hb12.size
    have hs12 := hb2.size
    go_wp2_with (first | (at_builtin; refine wpList_push3 ho0 hB2 [.slice A2 n.length c2] rfl (by simp [Value.oneCell']) hi hz0 hz1 hz2 rfl (by decide) rfl (.tmp 15) _ 65 Tryz.underlying65 rfl rfl rfl (by unfold maxLen; omega) (by omega) ?_; intro v4 w4 hown4 hmv4))
    obtain ⟨A4, c4, rfl, _⟩ := own_form hown4
    have hb24 : Below w2.heap.size w2 w4 := hmv4.kept.below (Nat.le_refl _) (fun k hk e => by cases e)
    have hb14 := hb2.trans (hb24.mono hs12)
    have hrg4 := HRG.out.kept (row := none) ⟨hb14.os, hb14.tape, hb14.output, hb14.size, fun k hk _ => hb14.block k hk⟩ (by simp) (by simp)
    have hstr4 := own_base (own_below hown2 hb24) hb1.size
    have hW := hb1.trans (hb14.mono hb1.size)
    have HOUT := Lib.hid (And.intro hown4 (And.intro hstr4 hW))
    clear hown4 hstr4 hW hb24 hb14 hmv4 hown2 hb2 hb12 hb1 ho0
    rw [rounds_succ]
    go_wp2_with (first | (at_next; go_loud (refine wpList_next_ranges _ rfl _ rfl 9 keyS ptrR Value.string ptrV keyS_inv ptrV_inv bn w.heap.size N _ _ _ rfl hrg4 ?_ ?_)))
    · intro _
      go_wp2_with fail
      refine (SortN1 A4 c4 _ w4).mono ?_
      rintro e w5 ⟨rfl, rfl⟩
      go_wp2_with fail
      go_ret
      exact ⟨HOUT.out.2.2, _, A2, c2, rfl, HOUT.out.1, HOUT.out.2.1⟩
end Nm
end Go.Proofs.YtkeimgamjnpcbaaGreat

/- Contracts of package zone: Types, of one type (maps.Keys, slices.Sorted at a map of one entry). -/
namespace Go.Proofs.YtkeimgamjnpcbaaGreat
open Go.RowKit Go.Maps Go.Sort Go.Shelf Go.Proofs
set_option linter.unusedVariables false
attribute [local go_sem] Oper.semAt_some
namespace Nm
theorem keyT_inv (key : Value) (kl : Lit) (h : keyOf Tryz.prog 24 key = some kl) : ∃ x : Int, key = .int .u16 x := by
  obtain ⟨x, h, _⟩ := Maps.keyOf_int_inv Tryz.underlying24 h
  exact ⟨x, h⟩
theorem info_u16 : (Tryz.prog.info? 24).map (fun i => (i.zero, i.size, i.bytes)) = some (some (.int .u16 0), 1, 2) := by kernel_rfl
set_option maxRecDepth 100000 in
set_option maxHeartbeats 1000000 in
theorem keys1T_in (F : Fence) (n : Nat) (hf : F.fn 127) (hro : F.round = none) (hn : 1 ≤ n) (l Bm b nn s : Nat) (t : Int) (J Jx : List Int → World → Prop)
    (hY : ∀ pre x W, J pre W → pre.length < 1 → YieldAt F (n - 1) Tryz.prog l #[.int .u16 x] W fun e W' => (e = .returned (.bool true) ∧ J (pre ++ [x]) W' ∧ KeepsWalks W W') ∨ (e = .returned (.bool false) ∧ Jx (pre ++ [x]) W'))
    (W : World) (hJ : AbidesFrom W.heap.size J) (hm : W.cell? ⟨Bm, 0, none⟩ = some (.map (some b))) (hown : W.ownsMap Tryz.prog 24 ptrR b nn (.map [(.int .u16 t, .lit (.int .i64 (s : Int)))])) (h0 : J [] W) :
    CallsIn F n Tryz.prog 127 #[.func (.yield l) #[] #[], .pointer (some ⟨Bm, 0, none⟩)] W fun e W' => (∃ v, e = .returned v) ∧ ((∃ ss : List Int, ss = [t] ∧ J ss W') ∨ (∃ pre, pre = [t] ∧ Jx pre W')) := by
  refine callsIn_of_wp Tryz.func127 rfl hf ?_ hro
  simp only [Tryz.ntmps127, List.size_toArray, List.length_cons, List.length_nil, Nat.reduceAdd, Nat.reduceSub, Array.replicate_succ, Array.replicate_zero, List.push_toArray, List.append_toArray, List.nil_append, List.cons_append]
  gi_wp2_with (first
    | (gi_at_range; refine wpListIn_range_own _ rfl _ 113 rfl 24 104 keyT Tryz.underlying113 ptrR b nn _ rfl hown ?_; intro w0 hrg0 hg0 hs0)
    | gi_in)
  go_frame
  gi_loopw [3] (fun _ wr => ∃ (left : Lit → Bool) (cnt : Nat) (ss : List Int), wr.ranges Tryz.prog 24 ptrR b W.heap.size nn (.map [(.int .u16 t, .lit (.int .i64 (s : Int)))]) left cnt ∧ ((cnt = 1 ∧ left = Maps.has (DataW.map [(.int .u16 t, DataW.lit (.int .i64 (s : Int)))] : DataW Unit) ∧ ss = []) ∨ (cnt = 0 ∧ ss = [t])) ∧ J ss wr)
    (fun _ wr => wr.rangeLeft b W.heap.size)
  case atStart =>
    exact ⟨_, _, [], hrg0, .inl ⟨rfl, rfl, rfl⟩, hJ [] W w0 none h0 hg0 (fun r e => by cases e)⟩
  case round =>
    obtain ⟨left, cnt, ss, hrg, hcs, hJs⟩ := hrel
    gi_wp2_with (first
      | (gi_at_next; refine wpListIn_next_ranges _ rfl _ rfl 24 keyT ptrR (fun x : Int => Value.int .u16 x) ptrV keyT_inv ptrV_inv b W.heap.size nn _ _ _ rfl hrg ?_ ?_)
      | gi_in)
    · intro hc0 hl0
      gi_wp2
      go_end0
      rcases hcs with ⟨h1, _⟩ | ⟨_, h2⟩
      · omega
      · exact ⟨⟨_, rfl⟩, .inl ⟨ss, h2, hJs⟩⟩
    · intro x c kl yd yp w2 cnt2 hkey hlk hv hat hrg2 hlt hg2 hs2 hen
      rcases hcs with ⟨h1, h2, h3⟩ | ⟨h1, _⟩
      · subst h2 h3
        obtain ⟨rfl, rfl⟩ := one_elem (y := (yd, yp)) hlk hv hat (key_int _ _)
        obtain ⟨x', ex, e2, _⟩ := Maps.keyOf_int_inv Tryz.underlying24 hkey
        have hxt : x = t := by
          cases ex
          injection e2 with _ e2
          exact e2.symm
        subst hxt
        have hJ2 : J [] w2 := hJ [] wr w2 (some W.heap.size) hJs hg2 (fun r e => by cases e; exact ⟨Nat.le_refl _, hrg.iter_walk⟩)
        obtain ⟨fn, tmps, assign, body, hy, hR⟩ := hY [] x w2 hJ2 (by simp)
        clear hs2
        gi_wp2
        refine hR.mono ?_
        rintro e W3 (⟨rfl, hJ3, hk3⟩ | ⟨rfl, hJx3⟩)
        · gi_wp2
          have hrg3 := hrg2.of_walks hk3
          go_roundw
          case rel => exact ⟨_, cnt2, [x], hrg3, .inr ⟨by omega, rfl⟩, hJ3⟩
          case measure => rw [hrg3.left_eq, hrg.left_eq]; exact hlt
        · gi_wp2
          refine bodyPost_ret (results_none rfl _ _ _) rfl ?_
          exact ⟨⟨_, rfl⟩, .inr ⟨[x], rfl, hJx3⟩⟩
      · omega
theorem KeysT (b : Nat) (w : World) : Calls Tryz.prog 90 #[.map (some b)] w fun e w' => e = .returned (.func (.func 127) #[] #[.pointer (some ⟨w.heap.size, 0, none⟩)]) ∧ w' = w.alloc (.cells #[.map (some b)] 113) := by
  go_enter Tryz.func90, Tryz.ntmps90
  go_wp2_with fail
  go_ret
  exact ⟨rfl, rfl⟩
theorem keysT_stops (F : Fence) (n : Nat) (hf : F.fn 127) (hro : F.round = none) (hn : 1 ≤ n) (Bm b nn s : Nat) (t : Int) (w : World) (hBm : Bm < w.heap.size)
    (hm : w.cell? ⟨Bm, 0, none⟩ = some (.map (some b))) (hown : w.ownsMap Tryz.prog 24 ptrR b nn (.map [(.int .u16 t, .lit (.int .i64 (s : Int)))])) :
    SeqStopsK F n Tryz.prog 127 #[.pointer (some ⟨Bm, 0, none⟩)] (fun x : Int => #[Value.int .u16 x]) KeepsWalks (fun ys => ys = [t]) (fun pre => pre = [t]) 1 w := fun l J Jx W hW hJ _ hY h0 =>
  keys1T_in F n hf hro hn l Bm b nn s t J Jx hY W hJ ((hW.cell (p := ⟨Bm, 0, none⟩) hBm).trans hm) (ownsMap_block hown (hW.block b hown.lt)) h0
set_option maxRecDepth 100000 in
set_option maxHeartbeats 2000000 in
theorem AppendSeqT (Bm b nn s : Nat) (t : Int) (w : World) (hBm : Bm < w.heap.size) (hm : w.cell? ⟨Bm, 0, none⟩ = some (.map (some b))) (hown : w.ownsMap Tryz.prog 24 ptrR b nn (.map [(.int .u16 t, .lit (.int .i64 (s : Int)))])) :
    Calls Tryz.prog 171 #[.slice none 0 0, .func (.func 127) #[] #[.pointer (some ⟨Bm, 0, none⟩)]] w fun e W' => ∃ v, e = .returned v ∧ W'.ownsRow w.heap.size 24 1 v 1 [.int .u16 t] ∧ Below w.heap.size w W' := by
  refine (callsIn_wide (n := 6)).1 ?_
  obtain ⟨i0, hi, hz0, hz1, hz2⟩ := info_parts info_u16
  refine callsIn_of_wp_marks Tryz.func171 rfl trivial ?_ rfl
  simp only [Tryz.ntmps171, List.size_toArray, List.length_cons, List.length_nil, Nat.reduceAdd, Nat.reduceSub, Array.replicate_succ, Array.replicate_zero, List.push_toArray, List.append_toArray, List.nil_append, List.cons_append]
  gi_wp2
  have bO := Boxed.new w 81 (.slice none 0 0)
  have hB0 : Below w.heap.size w (w.alloc (.cells #[.slice none 0 0] 81)) := (Below.refl _ w).alloc (Nat.le_refl _) _
  refine wpIn_rangeFunc_ownG rfl (by omega) (gf := 127) (lb := #[.pointer (some ⟨Bm, 0, none⟩)]) rfl trivial (enters_of Tryz.func127 (by kernel_rfl) rfl)
    (keysT_stops Fence.wide (6 - 1) trivial rfl (by omega) Bm b nn s t w hBm hm hown) walksK_t walksK_b hB0 (fun _ => rfl)
    (fun pre W => (∃ v, Boxed W w.heap.size 81 v ∧ W.ownsRow w.heap.size 24 1 v pre.length (pre.map (Value.int .u16)) ∧ (v = .slice none 0 0 ↔ pre = [])) ∧ Below w.heap.size w W)
    (fun _ _ _ => False)
    (OwnFrom.and (Own.from (holdsRow_own w.heap.size w.heap.size 81 24 1 (fun pre => pre.length) (fun pre => pre.map (Value.int .u16)) (fun pre v => v = .slice none 0 0 ↔ pre = [])) _) (ownFrom_below (Nat.le_refl _) (by simp)))
    (fun _ _ _ _ _ hs _ _ => hs)
    ⟨⟨_, bO, World.ownsRow_nil _ _ _ _, by simp⟩, hB0⟩
    (fun x => { tmps := #[.slice none 0 0, .func (.func 127) #[] #[.pointer (some ⟨Bm, 0, none⟩)], .pointer (some ⟨w.heap.size, 0, none⟩), undef, .slice none 0 0, .int .u16 x, .func (.func 127) #[] #[.pointer (some ⟨Bm, 0, none⟩)], .int .u16 x, undef, undef, undef, undef, undef], defers := [] }) ?assign ?body ?done ?stop
  case assign =>
    intro l x W K hK
    gi_wp2
    exact hK
  case body =>
    rintro l pre x W ⟨⟨v, hv, hrow, hnil⟩, hB⟩ hlt
    have hc := hv.cell
    gi_wp2_with (gi_at_builtin; refine wpListIn_append_own _ rfl _ _ 81 rfl w.heap.size 24 i0 (.int .u16 0) 1 2 Tryz.underlying81 hi hz0 hz1 hz2 rfl (by decide) _ _ _ rfl (hrow.alloc _) ⟨W.heap.size, 0, none⟩ 1 1 [.int .u16 x] rfl rfl (cell_one_new _ _ _) (by simp [Value.oneCell']) (by unfold maxLen; omega) (by omega) (by have := hB.size; simp; omega) ?_; intro v' w1 hown' hgrow _; obtain ⟨g', cap', rfl⟩ := ownsRow_succ hown'; obtain ⟨hv1, hv2, hr2, hk2, hb2⟩ := hv.appended (by decide) hrow hB.size (Nat.le_refl _) hown' hgrow; have hc1 := hv1.cell; have hf1 := hv1.frozen)
    exact ⟨hk2.from _, hk2.walks, ⟨_, hv2, by simpa using hr2, by simp⟩, hB.trans hb2⟩
  case done =>
    rintro D ys W hD rfl ⟨⟨v, hv, hrow, hnil⟩, hB⟩ hK
    have hc := hv.cell
    gi_wp2
    refine ⟨by simp, .inl ⟨_, _, rfl, run_takeDeferred hK, ?_⟩⟩
    exact ⟨_, results_tmp rfl _ _ _, v, rfl, ownsRow_putObj hrow _ hK rfl, hB.trans (belowK_b (w := w) (Nat.le_refl _) W D _ _ (by simp at hD; omega) hK rfl rfl)⟩
  case stop =>
    rintro D c pre W _ _ h _
    exact h.elim
end Nm
end Go.Proofs.YtkeimgamjnpcbaaGreat

/- Contracts of package zone: Types, of one type, of none. -/
namespace Go.Proofs.YtkeimgamjnpcbaaGreat
open Go.RowKit
set_option linter.unusedVariables false
set_option linter.unusedSimpArgs false
namespace Nm
theorem CollectT (Bm b nn s : Nat) (t : Int) (w : World) (hBm : Bm < w.heap.size) (hm : w.cell? ⟨Bm, 0, none⟩ = some (.map (some b))) (hown : w.ownsMap Tryz.prog 24 ptrR b nn (.map [(.int .u16 t, .lit (.int .i64 (s : Int)))])) :
    Calls Tryz.prog 125 #[.func (.func 127) #[] #[.pointer (some ⟨Bm, 0, none⟩)]] w fun e W' => ∃ v, e = .returned v ∧ W'.ownsRow w.heap.size 24 1 v 1 [.int .u16 t] ∧ Below w.heap.size w W' := by
  have H := Lib.hid (AppendSeqT Bm b nn s t w hBm hm hown)
  clear hown hm
  go_enter Tryz.func125, Tryz.ntmps125
  go_wp2_with fail
  refine H.out.mono ?_
  rintro e w2 ⟨v, rfl, ho, hb⟩
  have HH := Lib.hid ho
  clear ho
  go_wp2_with fail
  go_ret
  exact ⟨_, rfl, HH.out, hb⟩
theorem SortedT (Bm b nn s : Nat) (t : Int) (w : World) (hBm : Bm < w.heap.size) (hm : w.cell? ⟨Bm, 0, none⟩ = some (.map (some b))) (hown : w.ownsMap Tryz.prog 24 ptrR b nn (.map [(.int .u16 t, .lit (.int .i64 (s : Int)))])) :
    Calls Tryz.prog 89 #[.func (.func 127) #[] #[.pointer (some ⟨Bm, 0, none⟩)]] w fun e W' => ∃ v, e = .returned v ∧ W'.ownsRow w.heap.size 24 1 v 1 [.int .u16 t] ∧ Below w.heap.size w W' := by
  have H := Lib.hid (CollectT Bm b nn s t w hBm hm hown)
  clear hown hm
  go_enter Tryz.func89, Tryz.ntmps89
  go_wp2_with fail
  refine H.out.mono ?_
  rintro e w2 ⟨v, rfl, ho, hb⟩
  obtain ⟨A, c, rfl, _⟩ := own_form ho
  have HH := Lib.hid ho
  clear ho
  go_wp2_with fail
  refine (SortT1 A c w2).mono ?_
  rintro e w3 ⟨rfl, rfl⟩
  go_wp2_with fail
  go_ret
  exact ⟨_, rfl, HH.out, hb⟩
set_option maxRecDepth 100000 in
set_option maxHeartbeats 20000000 in
theorem ZTypes (w : World) (B z bn bb x bs s : Nat) (ap n : List Lab) (t ttl : Int) (v : Value) (ds : List (Blob × Blob)) (f : Lab → Int) (N : Nat) (h : One w B z bn bb x bs s ap n t ttl v ds f N) (An : Option Addr) (m : List Lab) (cn : Nat) (hAn : Cs w An (m.map strV)) (hm : Small m) (hmn : zkey m = zkey n) :
    Calls Tryz.prog 50 #[.pointer (some ⟨z, 0, none⟩), .slice An m.length cn] w fun e w' => ∃ v, e = .returned v ∧ w'.ownsRow w.heap.size 24 1 v 1 [.int .u16 t] ∧ Below w.heap.size w w' := by
  obtain ⟨Aa, ca, hzb, hza⟩ := h.zn.blk
  obtain ⟨z0, z1, z2, z3, _⟩ := cells4 hzb
  have hzl := lt_block hzb
  obtain ⟨An2, cn2, hxb, hxn⟩ := h.st.node
  have hxl := lt_block hxb
  obtain ⟨x0, x1, _⟩ := cells2 hxb
  have HK : Hid (∀ W, Below w.heap.size w W → Calls Tryz.prog 71 #[.slice An m.length cn] W fun e w' => e = .returned (strV (zkey m)) ∧ Below W.heap.size W w') := Lib.hid fun W hW => ZKey An m cn W (hAn.below hW) hm
  have HL : Hid (∀ W, Below w.heap.size w W → (Instr.lookup 97 (.map (some bn)) (strV (zkey m)) false).run Tryz.prog W = .ok (.pointer (some ⟨x, 0, none⟩)) W) := Lib.hid fun W hW => look_ptr (h.ext hW).zn.nodes keyS Tryz.underlying97 rfl (keyOf_str _ (zkey_len hm)) (o := some x) (by rw [hmn]; exact at_one _ (key_lit _) _ _)
  have HS : Hid (∀ W, Below w.heap.size w W → W.ownsMap Tryz.prog 24 ptrR bs 9 (.map [(.int .u16 t, .lit (.int .i64 (s : Int)))])) := Lib.hid fun W hW => (h.ext hW).st.sets
  clear h hAn hzb hza hxb hxn
  go_enter Tryz.func50, Tryz.ntmps50
  go_wp2_with fail
  refine wp_region_mono mixed0 (by kernel_rfl) [.is (.pointer (some ⟨z, 0, none⟩)), .is (.pointer (some ⟨z, 0, none⟩)), .is (.pointer (some ⟨z, 1, none⟩)), .is (.map (some bn)), .is (.slice An m.length cn), .is (strV (zkey m)), .is (.pointer (some ⟨x, 0, none⟩)), .is (.pointer (some ⟨x, 0, none⟩))] rfl ?_ ?_
  · intro i q hio vals W hE haf
    have e1 := (bcl (o := 1) hE hzl).trans z1
    have hl := HL.out W hE
    rcases i with _ | _ | _ | _ | _ | _ | _ | _ | i
    all_goals first
      | (exfalso; simp at hio; done)
      | (simp at hio; subst hio; simp [bindD, rdB, Region.binds, factAt] at haf; simp [opYield_def, yieldUpon, relAct, dstAt, Act.put, Region.wanted, go_sem, haf, e1, hl, Ext.refl, factAt]; done)
      | skip
    all_goals
      simp at hio
      subst hio
      simp [bindD, rdB, Region.binds, factAt] at haf
    · simp [opYield_def, yieldUpon, relAct, dstAt, Act.put, Region.wanted, go_sem, haf, factAt]
      refine (HK.out W hE).mono fun e W' h => ?_
      exact ⟨h.1, h.2⟩
  · intro vals W hE hF
    have hE : Below w.heap.size w W := hE
    simp only [facts] at hF
    obtain ⟨_, _, _, _, _, _, _, h7, _⟩ := hF
    have e7 : vals 7 = .pointer (some ⟨x, 0, none⟩) := h7
    simp [relAct, dstAt, Act.put]
    rw [e7]
    clear e7 h7
    have q1 := (bcl (o := 1) hE hxl).trans x1
    have hs0 := hE.size
    have HW := Lib.hid (HS.out W hE)
    go_wp2_with fail
    refine (KeysT bs W).mono ?_
    rintro e w2 ⟨rfl, rfl⟩
    have hb2 : Below W.heap.size W (W.alloc (.cells #[.map (some bs)] 113)) := (Below.refl _ _).alloc (Nat.le_refl _) _
    have hS := SortedT W.heap.size bs 9 s t (W.alloc (.cells #[.map (some bs)] 113)) (by simp) (by rw [cell_of_row _ _ 0 _ _ _ (heap_alloc_new W _)]; rfl) (HW.out.alloc _)
    have HSo := Lib.hid hS
    clear hS
    go_wp2_with fail
    refine HSo.out.mono ?_
    rintro e w3 ⟨v3, rfl, ho3, hb3⟩
    have HO := Lib.hid ho3
    clear ho3
    go_wp2_with fail
    go_ret
    exact ⟨_, rfl, own_base HO.out (Nat.le_trans hs0 hb2.size), (hE.trans (hb2.mono hs0)).trans (hb3.mono (Nat.le_trans hs0 hb2.size))⟩
end Nm
end Go.Proofs.YtkeimgamjnpcbaaGreat
