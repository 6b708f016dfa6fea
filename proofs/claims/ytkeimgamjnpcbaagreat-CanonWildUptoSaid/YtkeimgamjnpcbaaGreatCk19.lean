/-
  Texts merged by a program (Right, WWild, OpenN).
-/
import Derived.Test.YtkeimgamjnpcbaaGreatCk16
import Derived.Test.YtkeimgamjnpcbaaGreatCk18
set_option linter.unusedSimpArgs false
set_option linter.unusedVariables false
/- Contracts of the reference's helpers: a right name. -/
namespace Go.Proofs.YtkeimgamjnpcbaaGreat
open Go.RowKit
set_option linter.unusedVariables false
set_option linter.unusedSimpArgs false
namespace Nm
def RightR (n : List Lab) (w : World) (vs vi : Value) (wr : World) : Prop := ∃ k s : Nat, k ≤ n.length ∧ vi = .int .i64 k ∧ vs = .int .i64 s ∧ s ≤ 1 + 64 * k ∧ (∀ l ∈ n.take k, l.length ≤ 63) ∧ w = wr
set_option maxRecDepth 100000 in
set_option maxHeartbeats 8000000 in
theorem Right (A : Option Addr) (n : List Lab) (cap : Nat) (w : World) (hc : Cs w A (n.map strV)) (hs : ∀ l ∈ n, l.length ≤ maxLen) (hl : n.length ≤ maxLen) :
    Calls Tryz.prog 21 #[.slice A n.length cap] w fun e w' => ∃ b : Bool, e = .returned (.bool b) ∧ w = w' ∧ (b = true → n.length ≤ 127 ∧ ∀ l ∈ n, l.length ≤ 63) := by
  have HS := Lib.hid hs
  have HC := Lib.hid hc
  unfold maxLen at hl
  clear hs hc
  by_cases h127 : 127 < n.length
  · have hi : (127 : Int) < (n.length : Int) := by omega
    go_enter Tryz.func21, Tryz.ntmps21
    go_wp2_with fail
    go_ret
    exact ⟨false, rfl, rfl, fun h => by cases h⟩
  · have hi : ¬ (127 : Int) < (n.length : Int) := by omega
    go_enter Tryz.func21, Tryz.ntmps21
    go_wp2_with fail
    go_loopw [3, 4] (RightR n w) (fun _ i _ => n.length - (intOf i).toNat)
    case atStart => exact ⟨0, 1, by omega, rfl, rfl, by omega, (fun l hl => by simp at hl), rfl⟩
    case round =>
      obtain ⟨k, s, hk, rfl, rfl, hs, hall, rfl⟩ := hrel
      have HA := Lib.hid hall
      clear hall
      by_cases hlt : k < n.length
      · obtain ⟨bk, off, hA, hbl, hc0⟩ := Cs.str HC.out hlt
        subst hA
        have hlm : n[k].length ≤ maxLen := HS.out n[k] (List.getElem_mem hlt)
        have HT : Hid (∀ l ∈ n.take (k + 1), l ∈ n.take k ∨ l = n[k]) := Lib.hid (by
          intro l hl
          rw [List.take_succ_eq_append_getElem hlt, List.mem_append] at hl
          simpa only [List.mem_singleton] using hl)
        unfold maxLen at hlm
        generalize n[k] = l at *
        have hki : (k : Int) < (n.length : Int) := by omega
        cases hbe : (strB l).toList.isEmpty
        · by_cases h63 : 63 < l.length
          · have h63i : (63 : Int) < ((strB l).size : Int) := by rw [strB_size]; omega
            go_wp2_with fail
            go_ret
            exact ⟨false, rfl, rfl, fun h => by cases h⟩
          · have h63i : ¬ (63 : Int) < ((strB l).size : Int) := by rw [strB_size]; omega
            have hszl := strB_size l
            have r1 : IntKind.i64.wrap ((l.length : Int) + 1) = (l.length : Int) + 1 := IntWalk.i64_in _ (by omega)
            go_wp2_with fail
            refine ⟨⟨k + 1, s + (l.length + 1), by omega, by go_num, by go_num, by omega, ?_, rfl⟩, by simp [intOf]; omega⟩
            intro x hx
            rcases HT.out x hx with h | h
            · exact HA.out x h
            · rw [h]; omega
        · go_wp2_with fail
          go_ret
          exact ⟨false, rfl, rfl, fun h => by cases h⟩
      · have hki : ¬ (k : Int) < (n.length : Int) := by omega
        have hkn : k = n.length := by omega
        have hfin : n.length ≤ 127 ∧ ∀ l ∈ n, l.length ≤ 63 := by
          have := HA.out
          rw [hkn, List.take_length] at this
          exact ⟨by omega, this⟩
        have HFin := Lib.hid hfin
        clear hfin
        by_cases h255 : (s : Int) ≤ 255
        · go_wp2_with fail
          go_ret
          exact .inr ⟨rfl, rfl, HFin.out⟩
        · go_wp2_with fail
          go_ret
          exact .inl ⟨rfl, rfl⟩
end Nm
end Go.Proofs.YtkeimgamjnpcbaaGreat

/- The walk of CanonWild, of a name of at most a million labels. -/
namespace Go.Proofs.YtkeimgamjnpcbaaGreat
open Go.RowKit
set_option linter.unusedVariables false
set_option linter.unusedSimpArgs false
namespace Nm
def wwL : Lab := [119]
def exxL : Lab := [101, 120, 97, 109, 112, 108, 101]
theorem ownN_star : ownN [star, wwL, exxL] 2 = [star, wwL, exxL] := by decide
theorem ownN_below {n : List Lab} (h : n ≠ []) : ownN (n ++ [wwL, exxL]) 2 = [star, wwL, exxL] := by
  have hl : 1 ≤ n.length := List.length_pos_iff.2 h
  unfold ownN
  rw [if_neg (by simp; omega)]
  have e : (lower (n ++ [wwL, exxL])).drop ((n ++ [wwL, exxL]).length - 2) = lower [wwL, exxL] := by
    unfold lower
    rw [List.map_append, List.drop_append_of_le_length (by simp), List.drop_eq_nil_of_le (by simp)]
    rfl
  rw [e]
  rfl
theorem labels_star : labels [star, wwL, exxL] = 2 := by decide
/-- append of texts, at an operation that is guarded and wanted -/
theorem wpList_namesG {ops : Array Oper} {rest : List Oper} {o : Oper} {a : Act} {Q : Exit → Act → World → Prop} {w : World} {B : Nat} {v : Value} {n : Nat} {xs : List Lab}
    (hown : w.ownsRow B 9 1 v n (xs.map strV)) (hB : B ≤ w.heap.size) {b : Addr} {s : List Lab} {c : Nat} (hs2 : Cs w (some b) (s.map strV)) (hw : Region.wanted o (yielded ops a.tmps) = true) (sl x : Operand) {t : TypeId} (ht : Tryz.prog.underlying t = some (.slice 9))
    (ho : o.op = .call { callee := .builtin .append, args := #[sl, x], argTypes := #[t, t] }) (hs : a.eval sl = v) (hx : a.eval x = .slice (some b) s.length c) (hn : n + s.length ≤ 1000000000)
    (h : ∀ v' w', w'.ownsRow B 9 1 v' (n + s.length) ((xs ++ s).map strV) → Below B w w' → wpList Tryz.prog ops Q rest (a.put o.dst v') w') : wpList Tryz.prog ops Q (o :: rest) a w := by
  obtain ⟨i0, hi, hz0, hz1, hz2⟩ := info_parts info_str
  refine wpList_step fun K hK => ?_
  rw [if_pos hw]
  obtain ⟨v', w', hr, h2, h3, _⟩ := run_append_own (P := Tryz.prog) w B t o.type 9 i0 _ 1 16 ht hi hz0 hz1 hz2 rfl (by decide) v n (xs.map strV) hown b s.length c (s.map strV) (by simp) hs2.cells (strV_one s) (by unfold maxLen; omega) (by omega) hB
  unfold Oper.wp execOp
  simp only [ho, resolve, invoke, builtin, Sem.run_bind, Sem.run_pure, Result.andThen_ok, List.map_toArray, List.map_cons, List.map_nil, hs, hx, hr]
  refine hK _ _ (h v' w' ?_ ((Below.refl _ _).grown h3 hB (fun k hk => (hown.lt k hk).1)))
  rw [List.map_append]
  exact h2
set_option maxRecDepth 100000 in
set_option maxHeartbeats 20000000 in
theorem WWild (A : Option Addr) (n : List Lab) (cap : Nat) (D : Option Addr) (ds : List Blob) (dcap T : Nat) (hT : T < 65536) (g : SigM) (SA SS : Option Addr) (sc ssc : Nat) (w : World) (hA : Cs w A (n.map strV)) (hn : n.length ≤ 1048576) (hnl : ∀ l ∈ n, l.length ≤ maxLen) (hncap : n.length ≤ cap)
    (hD : Cs w D (ds.map Blob.v)) (hds : Blobs w ds) (hdl : ds.length ≤ maxLen) (hdc : ∀ d ∈ ds, d.l.length ≤ d.cap ∧ d.cap ≤ maxLen) (hSA : Cs w SA (g.n.map strV)) (hgs : g.small) (hl3 : g.n.length ≤ maxLen) (hl4 : ∀ l ∈ g.n, l.length ≤ maxLen) (hl7 : g.s.length ≤ maxLen) :
    Calls Tryz.prog 5 #[.slice A n.length cap, .slice D ds.length dcap, .int .u16 T, g.v SA sc SS ssc] w fun e w' =>
      e = .returned (.bool true) ∧ Below w.heap.size w w' := by
  generalize hw2 : w.alloc (.cells #[.int .u16 g.t, .int .u8 g.al, .int .u8 g.lb, .int .u32 g.ttl, .int .u32 g.ex, .int .u32 g.bg, .int .u16 g.tg, .slice SA g.n.length sc, .slice SS g.s.length ssc] 33) = w2
  have hb2 : Below w.heap.size w w2 := by rw [← hw2]; exact (Below.refl _ _).alloc (Nat.le_refl _) _
  have hsz2 : w2.heap.size = w.heap.size + 1 := by rw [← hw2]; simp
  have hgq : w2.heap[w.heap.size]? = some (.cells #[.int .u16 g.t, .int .u8 g.al, .int .u8 g.lb, .int .u32 g.ttl, .int .u32 g.ex, .int .u32 g.bg, .int .u16 g.tg, .slice SA g.n.length sc, .slice SS g.s.length ssc] 33 (0, 0)) := by rw [← hw2]; exact heap_alloc_new w _
  have HA := Lib.hid (hA.below hb2)
  have HD0 := Lib.hid hD
  have HDs0 := Lib.hid hds
  have HSA0 := Lib.hid hSA
  have HD := Lib.hid (hD.below hb2)
  have HDs := Lib.hid (hds.below hb2)
  have HSA := Lib.hid (hSA.below hb2)
  have HGQ := Lib.hid hgq
  have HGS := Lib.hid hgs
  have HDc := Lib.hid hdc
  have HNl := Lib.hid hnl
  have HLL := Lib.hid (fun W hW => LightG g.t g.al g.lb g.ttl g.ex g.bg g.tg SS g.s.length ssc ⟨none, [], 0, 0, 0, D, ds, dcap⟩ SA g.n sc W ⟨Cs.nil _ _, Cs.below (w := w2) HD.out hW, Blobs.below (w := w2) HDs.out hW⟩ (Cs.below (w := w2) HSA.out hW) (by simp) (fun l hl => by simp at hl) hl3 hl4 (fun d hd => Nat.le_trans (hdc d hd).1 (hdc d hd).2) hdl)
  unfold SetV.v at HLL
  unfold SigM.v
  clear hA hD hds hSA hgq hgs hl3 hl4 hdc hnl
  go_enter Tryz.func5, Tryz.ntmps5
  go_wp2_with fail
  refine (Known w2).mono ?_
  rintro e w3 ⟨rfl, hb3⟩
  clear hw2
  have hz3 := hb3.size
  unfold maxLen at hdl hl7
  by_cases h5 : 5 < ds.length
  · have h5i : (5 : Int) < (ds.length : Int) := by omega
    have hbF := hb2.trans (hb3.mono (by omega))
    clear HLL
    go_wp2_with fail
    go_ret
    exact ⟨rfl, hbF⟩
  · have h5i : ¬ (5 : Int) < (ds.length : Int) := by omega
    by_cases hn0 : n.length = 0
    · have hnb : ((n.length : Int) == 0) = true := by rw [hn0]; rfl
      have hbF := hb2.trans (hb3.mono (by omega))
      clear HLL
      go_wp2_with fail
      go_ret
      exact ⟨rfl, hbF⟩
    · have hnb : ((n.length : Int) == 0) = false := by simpa using hn0
      have HA3 := Lib.hid (HA.out.below hb3)
      have hnil : w3.ownsRow w3.heap.size 9 1 (.slice none 0 0) 0 (([] : List Lab).map strV) := World.ownsRow_nil _ _ _ _
      obtain ⟨ba, oa, rfl, _, _⟩ := HA.out 0 _ (List.getElem?_eq_getElem (by rw [List.length_map]; omega))
      go_wp2_with (first | (at_builtin; have _t := hnil; refine wpList_namesG hnil (Nat.le_refl _) HA3.out (by simp [Region.wanted, yielded] <;> omega) _ (.tmp 22) Tryz.underlying23 rfl rfl rfl (by omega) ?_; intro v4 w4 hown4 hb4; rw [Nat.zero_add, List.nil_append] at hown4; clear hnil; obtain ⟨A4, c4, rfl, _, _⟩ := Cs.of_own hown4) | (at_builtin; have _t := hown4; (have hbn := (Below.refl w4.heap.size w4).alloc (Nat.le_refl _) (.cells #[strV wwL, strV exxL] 9); have hb45 := hb4.size; refine wpList_namesG (own_below hown4 hbn) (Nat.le_trans hb45 hbn.size) (cs_new w4 9 [strV wwL, strV exxL] (0, 0)) (by simp [Region.wanted, yielded] <;> omega) (.tmp 23) (.tmp 24) Tryz.underlying23 rfl rfl (s := [wwL, exxL]) (c := 2) rfl (by simp; omega) ?_; intro v5 w5 hown5 hb5; clear hown4; obtain ⟨A5, c5, rfl, _, hcs5⟩ := Cs.of_own hown5)))
      have hbn0 : Below w4.heap.size w4 (w4.alloc (.cells #[strV wwL, strV exxL] 9)) := (Below.refl _ _).alloc (Nat.le_refl _) _
      have hb35 : Below w3.heap.size w3 w5 := (hb4.trans (hbn0.mono hb4.size)).trans hb5
      have hz35 := hb35.size
      have hb25 := hb3.trans (hb35.mono hz3)
      have hl5 : (n ++ [wwL, exxL]).length = n.length + 2 := by rw [List.length_append]; rfl
      have HCN := Lib.hid hcs5
      have hlm : ∀ l ∈ n ++ [wwL, exxL], l.length ≤ maxLen := by
        intro l hl
        rcases List.mem_append.1 hl with h | h
        · exact HNl.out l h
        · simp at h
          rcases h with rfl | rfl <;> (unfold maxLen; decide)
      have hri := Right A5 (n ++ [wwL, exxL]) c5 w5 hcs5 hlm (by rw [hl5]; unfold maxLen; omega)
      rw [hl5] at hri
      have HRi := Lib.hid hri
      clear hown5 hb4 hb5 hbn0 hb45 hlm hri hcs5
      refine HRi.out.mono ?_
      rintro e w6 ⟨br, rfl, rfl, hbr⟩
      obtain ⟨k0', k1', k2', k3', k4', k5', k6', k7', k8', _⟩ := cells9 ((hb25.block _ (show w.heap.size < w2.heap.size by omega)).trans HGQ.out)
      simp only [List.length_nil] at HLL
      cases br with
      | false =>
        have hbF := hb2.trans (hb25.mono (by omega))
        clear HLL
        go_wp2_with fail
        go_ret
        exact ⟨rfl, hbF⟩
      | true =>
        obtain ⟨hn127, hn63⟩ := hbr rfl
        have HN63 := Lib.hid hn63
        clear hn63 hbr
        go_wp2_with fail
        refine (HLL.out w5 hb25).mono ?_
        rintro e w7 ⟨rfl, hb7⟩
        have hb27 := hb25.trans (hb7.mono (by omega))
        have hz7 := hb7.size
        clear k0' k1' k2' k3' k4' k5' k6' k7' k8'
        cases hli : (lightS ⟨none, [], 0, 0, 0, D, ds, dcap⟩ g.n && decide (g.s.length ≤ 1000)) with
        | false =>
          have hbF := hb2.trans (hb27.mono (by omega))
          clear HLL
          go_wp2_with fail
          go_ret
          exact ⟨rfl, hbF⟩
        | true =>
          simp only [Bool.and_eq_true, decide_eq_true_eq] at hli
          obtain ⟨hd10, _, hlg, hd500⟩ := lightS_parts hli.1
          have hgsl := hli.2
          have HLg := Lib.hid hlg
          have HD5 : Hid (∀ d ∈ ds, d.l.length ≤ 500) := Lib.hid hd500
          clear HLL hli hlg hd500 HA3
          go_upto_region 7 with fail
          obtain ⟨r, hr⟩ : ∃ r, w7.heap.size = r := ⟨_, rfl⟩
          generalize hw8 : ((w7.alloc (.cells #[.string { data := #[42] }, .string { data := #[119] }, .string { data := #[101, 120, 97, 109, 112, 108, 101] }] 9)).alloc (.cells #[.slice (some ⟨w7.heap.size, 0, none⟩) 3 3, .int .u16 T, .int .u32 5, .slice D ds.length dcap] 28)).alloc (.cells #[.slice (some ⟨w7.heap.size, 0, none⟩) 3 3, .int .u16 T, .int .u32 5, .slice D ds.length dcap] 28) = w8
          have hb78 : Below w7.heap.size w7 w8 := by rw [← hw8]; exact (((Below.refl _ _).alloc (Nat.le_refl _) _).alloc (by simp) _).alloc (by simp; omega) _
          have hz8 : w8.heap.size = r + 3 := by rw [← hw8]; simp; omega
          have hstar : Cs w8 (some ⟨r, 0, none⟩) ([star, wwL, exxL].map strV) := by
            have h1 := cs_new w7 9 [strV star, strV wwL, strV exxL] (0, 0)
            rw [hr] at h1
            rw [← hw8]
            exact Cs.below (w := w7.alloc (.cells #[.string { data := #[42] }, .string { data := #[119] }, .string { data := #[101, 120, 97, 109, 112, 108, 101] }] 9)) h1 (((Below.refl _ _).alloc (Nat.le_refl _) _).alloc (by simp) _)
          have hq9 : w8.heap[r + 1]? = some (.cells #[.slice (some ⟨r, 0, none⟩) 3 3, .int .u16 T, .int .u32 5, .slice D ds.length dcap] 28 (0, 0)) := by
            rw [← hw8]
            have h1 := heap_alloc_new (w7.alloc (.cells #[.string { data := #[42] }, .string { data := #[119] }, .string { data := #[101, 120, 97, 109, 112, 108, 101] }] 9)) (.cells #[.slice (some ⟨w7.heap.size, 0, none⟩) 3 3, .int .u16 T, .int .u32 5, .slice D ds.length dcap] 28)
            rw [World.size_alloc, hr] at h1
            rw [Below.heap_alloc _ _ _ (by simp; omega), hr]
            exact h1
          have hq10 : w8.heap[r + 1 + 1]? = some (.cells #[.slice (some ⟨r, 0, none⟩) 3 3, .int .u16 T, .int .u32 5, .slice D ds.length dcap] 28 (0, 0)) := by
            rw [← hw8]
            have h1 := heap_alloc_new ((w7.alloc (.cells #[.string { data := #[42] }, .string { data := #[119] }, .string { data := #[101, 120, 97, 109, 112, 108, 101] }] 9)).alloc (.cells #[.slice (some ⟨w7.heap.size, 0, none⟩) 3 3, .int .u16 T, .int .u32 5, .slice D ds.length dcap] 28)) (.cells #[.slice (some ⟨w7.heap.size, 0, none⟩) 3 3, .int .u16 T, .int .u32 5, .slice D ds.length dcap] 28)
            rw [World.size_alloc, World.size_alloc, hr] at h1
            rw [hr]
            exact h1
          have hb28 := hb27.trans (hb78.mono (by omega))
          have HA8 := Lib.hid (HA.out.below hb28)
          have hnil : w8.ownsRow w8.heap.size 9 1 (.slice none 0 0) 0 (([] : List Lab).map strV) := World.ownsRow_nil _ _ _ _
          have HStar := Lib.hid hstar
          have HR := Lib.hid hr
          clear hstar
          rw [hr]
          clear hr hw8
          go_upto_region 8 with (first | (at_builtin; have _t := hnil; refine wpList_names hnil (Nat.le_refl _) HA8.out rfl _ (.tmp 41) Tryz.underlying23 rfl rfl rfl (by omega) ?_; intro v4 w9 hown4 hb4; rw [Nat.zero_add, List.nil_append] at hown4; clear hnil; obtain ⟨A9, c9, rfl, _, _⟩ := Cs.of_own hown4) | (at_builtin; have _t := hown4; have hbn := (Below.refl w9.heap.size w9).alloc (Nat.le_refl _) (.cells #[strV wwL, strV exxL] 9); have hb45 := hb4.size; refine wpList_names (own_below hown4 hbn) (Nat.le_trans hb45 hbn.size) (cs_new w9 9 [strV wwL, strV exxL] (0, 0)) rfl (.tmp 42) (.tmp 43) Tryz.underlying23 rfl rfl (s := [wwL, exxL]) (c := 2) rfl (by simp; omega) ?_; intro v5 w10 hown10 hb10; clear hown4; obtain ⟨A10, c10, rfl, _, hcs10⟩ := Cs.of_own hown10; have hb810 : Below w8.heap.size w8 w10 := (hb4.trans (((Below.refl w9.heap.size w9).alloc (Nat.le_refl _) (.cells #[strV wwL, strV exxL] 9)).mono hb4.size)).trans hb10; have hqx := (hb810.block (r + 1 + 1) (by omega)).trans hq10; have t0 := (cellsS hqx).1; have tf0 : w10.frozen? ⟨r + 1 + 1, 0, none⟩ = false := by simp [World.frozen?, hqx]))
          have hk11 : Kept (fun b => b = r + 1 + 1) w10 (w10.setCell ⟨r + 1 + 1, 0, none⟩ (.slice A10 (n.length + 2) c10)) := (Kept.refl (fun b => b = r + 1 + 1) w10).setCell (p := ⟨r + 1 + 1, 0, none⟩) (fun _ => rfl) _
          have hq11 : (w10.setCell ⟨r + 1 + 1, 0, none⟩ (.slice A10 (n.length + 2) c10)).heap[r + 1 + 1]? = some (.cells #[.slice A10 (n.length + 2) c10, .int .u16 T, .int .u32 5, .slice D ds.length dcap] 28 (0, 0)) := heap_set hqx
          generalize w10.setCell ⟨r + 1 + 1, 0, none⟩ (.slice A10 (n.length + 2) c10) = w11 at *
          have hlt10 := hown10.lt
          have hz810 := hb810.size
          have hz11 := hk11.size
          have hr1 := HR.out
          have hC11 : Cs w11 A10 ((n ++ [wwL, exxL]).map strV) := Kept.cs hcs10 hk11 (fun a ha hx he => by have := (hlt10 a.block (by rw [ha]; rfl)).1; omega)
          have hb811 : Below w8.heap.size w8 w10 := hb810
          have hS11 : Cs w11 (some ⟨r, 0, none⟩) ([star, wwL, exxL].map strV) := Kept.cs (HStar.out.below hb810) hk11 (fun a ha hx he => by cases ha; have h' : r = r + 1 + 1 := he; omega)
          have hq911 := (hk11.block (r + 1) (by omega) (by omega)).trans ((hb810.block (r + 1) (by omega)).trans hq9)
          have hb211 : Below w2.heap.size w2 w11 := (hb28.trans (hb810.mono (by omega))).trans (hk11.below (B := w2.heap.size) (by omega) (fun k hk he => by omega))
          have hg11 := (hb211.block _ (show w.heap.size < w2.heap.size by omega)).trans HGQ.out
          have HC11 := Lib.hid hC11
          have HS11 := Lib.hid hS11
          have HLT := Lib.hid (fun kk hk => (by have := (hlt10 kk hk).1; omega : w.heap.size < kk))
          clear hown10 hcs10 hb10 hb4 hb45 hbn t0 tf0 hqx hk11 hq10 hlt10 hC11 hS11 hb811 hb810 hb78 hq9
          have hLb := Labels (some ⟨r, 0, none⟩) [star, wwL, exxL] 3 w11 HS11.out (by simp) (by simp) (by unfold maxLen; decide)
          rw [labels_star] at hLb
          have HLb := Lib.hid hLb
          clear hLb
          obtain ⟨t0, t1, t2, t3⟩ := cellsS hq911
          obtain ⟨k0', k1', k2', k3', k4', k5', k6', k7', k8', kf'⟩ := cells9 hg11
          have kf2 := kf' 2
          go_wp2_with fail
          refine HLb.out.mono ?_
          rintro e w12 ⟨rfl, rfl⟩
          go_upto_region 9 with fail
          have hk13 : Kept (fun b => b = w.heap.size) w11 (w11.setCell ⟨w.heap.size, 2, none⟩ (.int .u8 2)) := (Kept.refl (fun b => b = w.heap.size) w11).setCell (p := ⟨w.heap.size, 2, none⟩) (fun _ => rfl) _
          have hg13 : (w11.setCell ⟨w.heap.size, 2, none⟩ (.int .u8 2)).heap[w.heap.size]? = some (.cells #[.int .u16 g.t, .int .u8 g.al, .int .u8 2, .int .u32 g.ttl, .int .u32 g.ex, .int .u32 g.bg, .int .u16 g.tg, .slice SA g.n.length sc, .slice SS g.s.length ssc] 33 (0, 0)) := heap_set hg11
          generalize w11.setCell ⟨w.heap.size, 2, none⟩ (.int .u8 2) = w13 at *
          have hz13 := hk13.size
          have hq913 := (hk13.block (r + 1) (by omega) (by omega)).trans hq911
          have hq1013 := (hk13.block (r + 1 + 1) (lt_block hq11) (by omega)).trans hq11
          have hbw13 : Below w.heap.size w w13 := (hb2.trans (hb211.mono (by omega))).trans (hk13.below (B := w.heap.size) (by omega) (fun k hk he => by omega))
          have HC13 := Lib.hid (Kept.cs HC11.out hk13 (fun a ha hx he => by have := HLT.out a.block (by rw [ha]; rfl); omega))
          have HS13 : Hid (Cs w13 (some ⟨r, 0, none⟩) ([star, wwL, exxL].map strV)) := Lib.hid (Kept.cs HS11.out hk13 (fun a ha hx he => by cases ha; have h' : r = w.heap.size := he; omega))
          have hne : n ≠ [] := fun h => hn0 (by rw [h]; rfl)
          clear t0 t1 t2 t3 k0' k1' k2' k3' k4' k5' k6' k7' k8' kf' kf2 hg11 hq911 hq11 hk13 HC11 HS11 hb211
          have hfits : ({ g with lb := 2 } : SigM).fits := ⟨HGS.out.t, HGS.out.al, (by decide : (2 : Nat) < 256), HGS.out.ttl, HGS.out.ex, HGS.out.bg, HGS.out.tg, lightN_small HLg.out, (by omega : g.s.length ≤ 100000)⟩
          have hdcap : ∀ d ∈ ds, d.l.length ≤ 100000 ∧ d.l.length ≤ d.cap ∧ d.cap ≤ maxLen := fun d hd => ⟨by have := HD5.out d hd; omega, (HDc.out d hd).1, (HDc.out d hd).2⟩
          have hdcx : ∀ d ∈ ds, (canX T d.l).length ≤ 20000 := fun d hd => by have := canX_len T d.l; have := HD5.out d hd; omega
          have hgl : ({ g with lb := 2 } : SigM).low.bytes.length ≤ 10000 := low_bytes_len _ HLg.out
          have HM1 : Hid (∀ W, Ext w13 W → Calls Tryz.prog 20 #[.agg #[.slice (some ⟨r, 0, none⟩) 3 3, .int .u16 T, .int .u32 5, .slice D ds.length dcap], .agg #[.int .u16 g.t, .int .u8 g.al, .int .u8 2, .int .u32 g.ttl, .int .u32 g.ex, .int .u32 g.bg, .int .u16 g.tg, .slice SA g.n.length sc, .slice SS g.s.length ssc]] W fun e w' =>
              ∃ v ys, e = .returned v ∧ Told (ds.map fun d => canX T d.l) ys ∧ w'.ownsRow W.heap.size 5 1 v (msgL [star, wwL, exxL] T ys { g with lb := 2 }).length ((msgL [star, wwL, exxL] T ys { g with lb := 2 }).map byteV) ∧ Below W.heap.size W w') := Lib.hid (fun W hW => by
            have hb : Below w.heap.size w W := hbw13.trans (hW.mono hbw13.size)
            exact MessageG (some ⟨r, 0, none⟩) D [star, wwL, exxL] 3 dcap T 5 ds { g with lb := 2 } SA SS sc ssc W hT (HS13.out.below hW) ⟨by decide, by decide⟩ (HD0.out.below hb) (HDs0.out.below hb) (by omega) hdcap hdcx hfits (HSA0.out.below hb) hgl (by show (wire (ownN [star, wwL, exxL] 2)).length ≤ 10000; rw [ownN_star]; decide))
          have HM2 : Hid (∀ W, Ext w13 W → Calls Tryz.prog 20 #[.agg #[.slice A10 (n.length + 2) c10, .int .u16 T, .int .u32 5, .slice D ds.length dcap], .agg #[.int .u16 g.t, .int .u8 g.al, .int .u8 2, .int .u32 g.ttl, .int .u32 g.ex, .int .u32 g.bg, .int .u16 g.tg, .slice SA g.n.length sc, .slice SS g.s.length ssc]] W fun e w' =>
              ∃ v ys, e = .returned v ∧ Told (ds.map fun d => canX T d.l) ys ∧ w'.ownsRow W.heap.size 5 1 v (msgL [star, wwL, exxL] T ys { g with lb := 2 }).length ((msgL [star, wwL, exxL] T ys { g with lb := 2 }).map byteV) ∧ Below W.heap.size W w') := Lib.hid (fun W hW => by
            have hb : Below w.heap.size w W := hbw13.trans (hW.mono hbw13.size)
            have hm := MessageG A10 D (n ++ [wwL, exxL]) c10 dcap T 5 ds { g with lb := 2 } SA SS sc ssc W hT (HC13.out.below hW) ⟨by rw [hl5]; omega, fun l hl => by have := HN63.out l hl; omega⟩ (HD0.out.below hb) (HDs0.out.below hb) (by omega) hdcap hdcx hfits (HSA0.out.below hb) hgl (by show (wire (ownN (n ++ [wwL, exxL]) 2)).length ≤ 10000; rw [ownN_below hne]; decide)
            rw [hl5] at hm
            refine hm.mono fun e w' h => ?_
            obtain ⟨v, ys, h1, h2, h3, h4⟩ := h
            have hms : msgL (n ++ [wwL, exxL]) T ys { g with lb := 2 } = msgL [star, wwL, exxL] T ys { g with lb := 2 } := by
              have e1 : ownN (n ++ [wwL, exxL]) ({ g with lb := 2 } : SigM).lb = ownN [star, wwL, exxL] ({ g with lb := 2 } : SigM).lb := by
                show ownN (n ++ [wwL, exxL]) 2 = ownN [star, wwL, exxL] 2
                rw [ownN_below hne, ownN_star]
              unfold msgL
              rw [e1]
            rw [hms] at h3
            exact ⟨v, ys, h1, h2, h3, h4⟩)
          clear hfits hdcap hdcx hgl
          generalize (ds.map fun d => canX T d.l) = L1 at *
          generalize ({ g with lb := 2 } : SigM) = g2 at *
          refine wp_region_m2 mixed0 (by kernel_rfl) [.is (.pointer (some ⟨w.heap.size, 2, none⟩)), .is (.int .u8 2), .is (.bool true), .is (.bool true),
            .is (.agg #[.slice (some ⟨r, 0, none⟩) 3 3, .int .u16 T, .int .u32 5, .slice D ds.length dcap]), .is (.agg #[.int .u16 g.t, .int .u8 g.al, .int .u8 2, .int .u32 g.ttl, .int .u32 g.ex, .int .u32 g.bg, .int .u16 g.tg, .slice SA g.n.length sc, .slice SS g.s.length ssc]), msgF w13.heap.size [star, wwL, exxL] T L1 g2,
            .is (.agg #[.slice A10 (n.length + 2) c10, .int .u16 T, .int .u32 5, .slice D ds.length dcap]), .is (.agg #[.int .u16 g.t, .int .u8 g.al, .int .u8 2, .int .u32 g.ttl, .int .u32 g.ex, .int .u32 g.bg, .int .u16 g.tg, .slice SA g.n.length sc, .slice SS g.s.length ssc]), msgF w13.heap.size [star, wwL, exxL] T L1 g2, .is (.bool true), .is (.bool true), .is (.bool true)] ?_ ?_
          · intro ix o hio vals W hE haf
            obtain ⟨k0', k1', k2', k3', k4', k5', k6', k7', k8', _⟩ := cells9 ((hE.block _ (lt_block hg13)).trans hg13)
            obtain ⟨s0, s1, s2, s3⟩ := cellsS ((hE.block _ (lt_block hq913)).trans hq913)
            obtain ⟨t0, t1, t2, t3⟩ := cellsS ((hE.block _ (lt_block hq1013)).trans hq1013)
            have hzE := hE.size
            rcases ix with _ | _ | _ | _ | _ | _ | _ | _ | _ | _ | _ | _ | _ | ix
            all_goals first
              | (exfalso; simp at hio; done)
              | (simp at hio; subst hio; simp [bindD, rdB, Region.binds, factAt] at haf; simp [opYield_def, yieldUpon, yielded, relAct, dstAt, Act.put, Region.wanted, go_sem, haf, k0', k1', k2', k3', k4', k5', k6', k7', k8', s0, s1, s2, s3, t0, t1, t2, t3, Ext.refl, factAt]; done)
              | skip
            all_goals
              simp at hio
              subst hio
              simp [bindD, rdB, Region.binds, factAt] at haf
            · simp [opYield_def, yieldUpon, yielded, relAct, dstAt, Act.put, Region.wanted, go_sem, haf, factAt]
              refine (HM1.out W hE).mono fun e W' h => ?_
              obtain ⟨v, ys, h1, h2, h3, h4⟩ := h
              exact ⟨v, h1, h4, ys, h2, own_base h3 hzE⟩
            · simp [opYield_def, yieldUpon, yielded, relAct, dstAt, Act.put, Region.wanted, go_sem, haf, factAt]
              refine (HM2.out W hE).mono fun e W' h => ?_
              obtain ⟨v, ys, h1, h2, h3, h4⟩ := h
              exact ⟨v, h1, h4, ys, h2, own_base h3 hzE⟩
            · rw [msg_p, msg_p] at haf
              obtain ⟨⟨ys1, h1, h2⟩, ⟨ys2, h3, h4⟩, h5⟩ := haf
              have hys : ys1 = ys2 := told_same h1 h3 (fun _ => Iff.rfl)
              subst hys
              obtain ⟨Aa, ca, ea, _, hca⟩ := Cs.of_own h2
              obtain ⟨Ab, cb, eb, _, hcb⟩ := Cs.of_own h4
              simp [opYield_def, yieldUpon, yielded, relAct, dstAt, Act.put, Region.wanted, go_sem, ea, eb, h5, factAt]
              refine (HBytes Aa Ab _ _ ca cb W hca hcb).mono fun e W' h => ?_
              obtain ⟨h1, h2⟩ := h
              subst h2
              rw [decide_eq_true rfl] at h1
              exact ⟨h1, Ext.refl _⟩
          · intro vals W hE hF
            have h12 : vals 12 = .bool true := hF 12 (by show 12 < 13; omega)
            simp [relAct, dstAt, Act.put]
            rw [h12]
            clear hF h12
            have hbF := hbw13.trans (hE.mono hbw13.size)
            go_wp2_with fail
            go_ret
            exact ⟨rfl, hbF⟩
end Nm
end Go.Proofs.YtkeimgamjnpcbaaGreat

/- Parameters that are names: opened, and how many labels the reading holds. -/
namespace Go.Proofs.YtkeimgamjnpcbaaGreat
open Go.RowKit Go.ChangeShapes Go.WideShapes
set_option linter.unusedVariables false
section
variable {H : Type} {enc : TypeId × Value → H} {P : Program} {w : World} {base : Nat} {spare : Nat → Bool} {held : Bool}
theorem openNameB {t e : TypeId} {fuel : Nat} {cs : List Value} {x : DataW H × List MemPlace} (ht : P.underlying t = some (.slice e)) (he : P.underlying e = some .string) (hc : P.cellsOf e = 1)
    (h : DataW.trod enc P w base spare held fuel t cs = some x) :
    ∃ (A : Option Addr) (n : List Lab) (cap : Nat), cs = [.slice A n.length cap] ∧ Cs w A (n.map strV) ∧ n.length ≤ cap ∧ cap ≤ maxLen ∧ (∀ l ∈ n, l.length ≤ maxLen) ∧ (n = [] ∨ ∃ es sp, x.1 = .slice es sp ∧ n.length ≤ es.length) := by
  rcases open_strings ht he hc h with ⟨rfl, _⟩ | ⟨a, len, cap, ss, rfl, _, hl, hm, hz, hx, hcell, hsz⟩
  · exact ⟨none, [], 0, rfl, Cs.nil _ _, Nat.le_refl _, by unfold maxLen; omega, (fun l h => by cases h), .inl rfl⟩
  · have hlen : len ≤ ss.length := by rw [hz]; split <;> omega
    refine ⟨some a, (ss.take len).map (fun s => s.data.toList), cap, ?_, ?_, ?_, hm, ?_, .inr ⟨_, _, by rw [hx], ?_⟩⟩
    · simp [Nat.min_eq_left hlen]
    · refine cs_of_add ?_
      intro i u hu
      rw [List.getElem?_map, List.getElem?_map, List.getElem?_take] at hu
      by_cases hi : i < len
      · rw [if_pos hi, List.getElem?_eq_getElem (by omega)] at hu
        simp only [Option.map_some, Option.some.injEq] at hu
        rw [hcell i (by omega), ← hu]
        unfold strV
        rw [strB_of]
        simp [List.getD, List.getElem?_eq_getElem (show i < ss.length by omega)]
      · rw [if_neg hi] at hu; cases hu
    · simp [Nat.min_eq_left hlen]; exact hl
    · intro l hl2
      obtain ⟨s, hs, rfl⟩ := List.mem_map.1 hl2
      rw [← strB_size, strB_of]
      exact hsz s (List.mem_of_mem_take hs)
    · simp [strs]
end
end Go.Proofs.YtkeimgamjnpcbaaGreat
