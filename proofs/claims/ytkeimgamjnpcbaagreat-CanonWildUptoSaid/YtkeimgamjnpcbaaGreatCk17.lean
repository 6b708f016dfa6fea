/-
  Texts merged by a program (LightG, Seat, Known, WFresh, OpenP, OpenSig).
-/
import Derived.SliceStrings
import Derived.Deep.Slices
import Derived.ChangeSlices
import Derived.Test.YtkeimgamjnpcbaaGreatCk1
import Derived.Test.YtkeimgamjnpcbaaGreatCk2
import Derived.Test.YtkeimgamjnpcbaaGreatCk3
import Derived.Test.YtkeimgamjnpcbaaGreatCk4
import Derived.Test.YtkeimgamjnpcbaaGreatCk8
import Derived.Test.YtkeimgamjnpcbaaGreatCk16
set_option linter.unusedSimpArgs false
set_option linter.unusedVariables false
/- The walk of layer 19: light sets, under any signature. (Printed by a program: wip/gen_lightg.py.) -/
namespace Go.Proofs.YtkeimgamjnpcbaaGreat
open Go.RowKit
set_option linter.unusedVariables false
namespace Nm
set_option maxRecDepth 100000 in
set_option maxHeartbeats 20000000 in
theorem LightG (g0 g1 g2 g3 g4 g5 g6 : Int) (SA : Option Addr) (sl sc : Nat) (s : SetV) (A : Option Addr) (sn : List Lab) (cap : Nat) (w : World) (hs : s.ok w) (hc : Cs w A (sn.map strV)) (hl1 : s.n.length ≤ maxLen) (hl2 : ∀ l ∈ s.n, l.length ≤ maxLen) (hl3 : sn.length ≤ maxLen) (hl4 : ∀ l ∈ sn, l.length ≤ maxLen) (hl5 : ∀ d ∈ s.ds, d.l.length ≤ maxLen) (hl6 : s.ds.length ≤ maxLen) :
    Calls Tryz.prog 13 #[s.v, .agg #[.int .u16 g0, .int .u8 g1, .int .u8 g2, .int .u32 g3, .int .u32 g4, .int .u32 g5, .int .u16 g6, .slice A sn.length cap, .slice SA sl sc]] w fun e w' =>
      e = .returned (.bool (lightS s sn && decide (sl ≤ 1000))) ∧ Below w.heap.size w w' := by
  unfold SetV.v
  generalize hw2 : (w.alloc (.cells #[.slice s.A s.n.length s.cap, .int .u16 s.t, .int .u32 s.ttl, .slice s.D s.ds.length s.dcap] 28)).alloc (.cells #[.int .u16 g0, .int .u8 g1, .int .u8 g2, .int .u32 g3, .int .u32 g4, .int .u32 g5, .int .u16 g6, .slice A sn.length cap, .slice SA sl sc] 33) = w2
  have hb2 : Below w.heap.size w w2 := by rw [← hw2]; exact ((Below.refl _ _).alloc (Nat.le_refl _) _).alloc (by simp) _
  have hsz2 : w2.heap.size = w.heap.size + 2 := by rw [← hw2]; simp
  have hq : w2.heap[w.heap.size]? = some (.cells #[.slice s.A s.n.length s.cap, .int .u16 s.t, .int .u32 s.ttl, .slice s.D s.ds.length s.dcap] 28 (0, 0)) := by
    rw [← hw2]
    have := heap_alloc_new w (.cells #[.slice s.A s.n.length s.cap, .int .u16 s.t, .int .u32 s.ttl, .slice s.D s.ds.length s.dcap] 28)
    rw [Below.heap_alloc _ _ _ (by simp)]
    exact this
  have hgq : w2.heap[w.heap.size + 1]? = some (.cells #[.int .u16 g0, .int .u8 g1, .int .u8 g2, .int .u32 g3, .int .u32 g4, .int .u32 g5, .int .u16 g6, .slice A sn.length cap, .slice SA sl sc] 33 (0, 0)) := by
    have := heap_alloc_new (w.alloc (.cells #[.slice s.A s.n.length s.cap, .int .u16 s.t, .int .u32 s.ttl, .slice s.D s.ds.length s.dcap] 28)) (.cells #[.int .u16 g0, .int .u8 g1, .int .u8 g2, .int .u32 g3, .int .u32 g4, .int .u32 g5, .int .u16 g6, .slice A sn.length cap, .slice SA sl sc] 33)
    rw [World.size_alloc] at this
    rw [← hw2]; exact this
  have s0 : w2.cell? ⟨w.heap.size, 0, none⟩ = some (.slice s.A s.n.length s.cap) := by rw [cell_of_row _ _ 0 _ _ _ hq]; rfl
  have s3 : w2.cell? ⟨w.heap.size, 3, none⟩ = some (.slice s.D s.ds.length s.dcap) := by rw [cell_of_row _ _ 3 _ _ _ hq]; rfl
  obtain ⟨k0, k1, k2, k3, k4, k5, k6, k7, k8, kf⟩ := cells9 hgq
  have HN := Lib.hid (hs.1.below hb2)
  have HD := Lib.hid (hs.2.1.below hb2)
  have HC := Lib.hid (hc.below hb2)
  have HL1 := Lib.hid (HLight s.A s.n s.cap w2 HN.out hl1 hl2)
  have HL2 := Lib.hid (HLight A sn cap w2 HC.out hl3 hl4)
  have H5 := Lib.hid hl5
  have HV : Hid (∀ b c : Bool, lightN s.n = b → lightN sn = c → s.ds.length ≤ 10 → lightS s sn = (b && c && s.ds.all (fun d => decide (d.l.length ≤ 500)))) := Lib.hid (by
    intro b c h1 h2 h3
    unfold lightS
    rw [h1, h2, decide_eq_true h3, Bool.true_and])
  have HV2 : Hid (10 < s.ds.length → lightS s sn = false) := Lib.hid (by
    intro h
    unfold lightS
    rw [decide_eq_false (by omega)]
    rfl)
  generalize hln : lightN s.n = b1 at *
  generalize hls : lightN sn = b2 at *
  have hds : (s.ds.length : Int) ≤ 9223372036854775807 := by unfold maxLen at hl6; omega
  have HVV := Lib.hid (HV.out b1 b2 rfl rfl)
  clear hs hc hq hgq hl1 hl2 hl3 hl4 hl5 hl6 HV
  generalize hds2 : s.ds = ds at *
  by_cases hsl : sl ≤ 1000
  · rw [decide_eq_true hsl, Bool.and_true]
    have hd2 : decide (1000 < (sl : Int)) = false := decide_eq_false (by omega)
    by_cases h10 : 10 < ds.length
    · have hv := HV2.out h10
      have hd : decide (10 < (ds.length : Int)) = true := decide_eq_true (by omega)
      generalize lightS s sn = r at *
      subst hv
      go_enter Tryz.func13, Tryz.ntmps13
      go_wp2_with fail
      go_ret
      exact ⟨rfl, hb2⟩
    · have hvv := HVV.out (by omega)
      have hd : decide (10 < (ds.length : Int)) = false := decide_eq_false (by omega)
      generalize lightS s sn = r at *
      subst hvv
      cases b1
      · have hvf : (false && b2 && ds.all (fun d => decide (d.l.length ≤ 500))) = false := by simp
        rw [hvf]
        go_enter Tryz.func13, Tryz.ntmps13
        go_wp2_with fail
        refine HL1.out.mono ?_
        rintro e w3 ⟨rfl, rfl⟩
        clear hw2
        go_wp2_with fail
        go_ret
        exact ⟨rfl, hb2⟩
      · cases b2
        · have hvf : (true && false && ds.all (fun d => decide (d.l.length ≤ 500))) = false := by simp
          rw [hvf]
          go_enter Tryz.func13, Tryz.ntmps13
          go_wp2_with fail
          refine HL1.out.mono ?_
          rintro e w3 ⟨rfl, rfl⟩
          clear hw2
          go_wp2_with fail
          refine HL2.out.mono ?_
          rintro e w3 ⟨rfl, rfl⟩
          go_wp2_with fail
          go_ret
          exact ⟨rfl, hb2⟩
        · rw [Bool.true_and, Bool.true_and]
          obtain ⟨r, hr⟩ : ∃ r, r = ds.all (fun d => decide (d.l.length ≤ 500)) := ⟨_, rfl⟩
          rw [← hr]
          have HR := Lib.hid hr.symm
          clear hr
          go_enter Tryz.func13, Tryz.ntmps13
          go_wp2_with fail
          refine HL1.out.mono ?_
          rintro e w3 ⟨rfl, rfl⟩
          clear hw2
          go_wp2_with fail
          refine HL2.out.mono ?_
          rintro e w3 ⟨rfl, rfl⟩
          go_wp2_with fail
          go_loopw [5] (LightL ds w2) (fun i _ => ds.length - (intOf i).toNat)
          case atStart => exact ⟨0, Nat.zero_le _, rfl, by simp, rfl⟩
          case round =>
            obtain ⟨k, hk, rfl, hdk, rfl⟩ := hrel
            have HK := Lib.hid hdk
            clear hdk
            have hlD : ds.length ≤ 10 := by omega
            by_cases hlt : k < ds.length
            · obtain ⟨bk, off, hA, hbl, hc0⟩ := Cs.blob HD.out hlt
              have hl5' := H5.out ds[k] (List.getElem_mem hlt)
              have HM : Hid (ds[k] ∈ ds) := Lib.hid (List.getElem_mem hlt)
              have HN2 : Hid (∀ d ∈ ds.take (k + 1), d ∈ ds.take k ∨ d = ds[k]) := Lib.hid (by
                intro l hl
                rw [List.take_succ_eq_append_getElem hlt, List.mem_append] at hl
                simpa only [List.mem_singleton] using hl)
              generalize ds[k] = d at *
              unfold maxLen at hl5'
              rw [hA] at s3
              by_cases h3 : 500 < d.l.length
              · have hvf : r = false := by
                  rw [← HR.out]
                  rw [List.all_eq_false]
                  exact ⟨d, HM.out, by simp; omega⟩
                subst hvf
                have hdd : decide (500 < (d.l.length : Int)) = true := decide_eq_true (by omega)
                go_wp2_with fail
                go_ret
                exact ⟨rfl, hb2⟩
              · have hdd : decide (500 < (d.l.length : Int)) = false := decide_eq_false (by omega)
                go_wp2_with fail
                refine ⟨⟨k + 1, by omega, by go_num, ?_, rfl⟩, by simp [intOf]; omega⟩
                intro x hx
                rcases HN2.out x hx with h | h
                · exact HK.out x h
                · rw [h]; omega
            · have hkn : k = ds.length := by omega
              have hvt : r = true := by
                rw [← HR.out, List.all_eq_true]
                intro d hd2
                have := HK.out d (by rw [hkn, List.take_length]; exact hd2)
                simpa using this
              subst hvt
              rw [hkn]
              go_wp2_with fail
              go_ret
              exact ⟨rfl, hb2⟩
  · rw [decide_eq_false hsl, Bool.and_false]
    have hd2 : decide (1000 < (sl : Int)) = true := decide_eq_true (by omega)
    by_cases h10 : 10 < ds.length
    · have hd : decide (10 < (ds.length : Int)) = true := decide_eq_true (by omega)
      go_enter Tryz.func13, Tryz.ntmps13
      go_wp2_with fail
      go_ret
      exact ⟨rfl, hb2⟩
    · have hd : decide (10 < (ds.length : Int)) = false := decide_eq_false (by omega)
      clear HVV HV2
      cases b1
      · go_enter Tryz.func13, Tryz.ntmps13
        go_wp2_with fail
        refine HL1.out.mono ?_
        rintro e w3 ⟨rfl, rfl⟩
        clear hw2
        go_wp2_with fail
        go_ret
        exact ⟨rfl, hb2⟩
      · cases b2
        all_goals
          go_enter Tryz.func13, Tryz.ntmps13
          go_wp2_with fail
          refine HL1.out.mono ?_
          rintro e w3 ⟨rfl, rfl⟩
          clear hw2
          go_wp2_with fail
          refine HL2.out.mono ?_
          rintro e w3 ⟨rfl, rfl⟩
          go_wp2_with fail
          go_ret
          exact ⟨rfl, hb2⟩
end Nm
end Go.Proofs.YtkeimgamjnpcbaaGreat

/- Contracts of the laws' settings: Apex, Owner. -/
namespace Go.Proofs.YtkeimgamjnpcbaaGreat
open Go.RowKit
set_option linter.unusedVariables false
namespace Nm
def exL : Lab := [101, 120, 97, 109, 112, 108, 101]
theorem own_row (w : World) (B : Nat) (e : TypeId) (xs : List Value) (hB : B ≤ w.heap.size) (hl : xs.length ≤ 1000) : (w.alloc (.cells xs.toArray e)).ownsRow B e 1 (.slice (some ⟨w.heap.size, 0, none⟩) xs.length xs.length) xs.length xs :=
  ⟨by simp, .inr ⟨w.heap.size, xs.length, xs.toArray, rfl, hB, heap_alloc_new w _, Nat.le_refl _, by unfold maxLen; omega, by simp, by simp⟩⟩
theorem Apex (w : World) : Calls Tryz.prog 25 #[] w fun e w' => ∃ v, e = .returned v ∧ w'.ownsRow w.heap.size 9 1 v 1 ([exL].map strV) ∧ Below w.heap.size w w' := by
  go_enter Tryz.func25, Tryz.ntmps25
  go_wp2_with fail
  go_ret
  exact ⟨_, rfl, own_row w w.heap.size 9 ([exL].map strV) (Nat.le_refl _) (by simp), (Below.refl _ _).alloc (Nat.le_refl _) _⟩
/-- the owners of few numbers -/
def ownL : Nat → List Lab
  | 0 => []
  | 1 => [[97]]
  | 2 => [[98]]
  | 3 => [[99], [98]]
  | 4 => [[42], [119]]
  | 5 => [[120], [119]]
  | 6 => [[101], [102], [103]]
  | 7 => [[115, 117, 98]]
  | 8 => [[110, 115], [115, 117, 98]]
  | 9 => [[65]]
  | 10 => [[100, 101, 101, 112], [120], [119]]
  | 11 => [[122]]
  | _ => [[42]]
theorem ownL_len (m : Nat) : (ownL m).length ≤ 3 := by unfold ownL; split <;> decide
def owner (k : Nat) : List Lab := ownL (k % 13) ++ [exL]
theorem allocs_below : ∀ (os : List Obj) (w : World), Below w.heap.size w (os.foldl World.alloc w) ∧ (os.foldl World.alloc w).heap.size = w.heap.size + os.length
  | [], w => ⟨Below.refl _ _, rfl⟩
  | o :: os, w => by
    obtain ⟨h1, h2⟩ := allocs_below os (w.alloc o)
    rw [World.size_alloc] at h1 h2
    exact ⟨((Below.refl _ _).alloc (Nat.le_refl _) o).trans (h1.mono (by omega)), by rw [List.foldl_cons, h2, List.length_cons]; omega⟩
theorem allocs_cs : ∀ (os : List Obj) (w : World) (i : Nat) (xs : List Value) (T : TypeId), os[i]? = some (.cells xs.toArray T) → Cs (os.foldl World.alloc w) (some ⟨w.heap.size + i, 0, none⟩) xs
  | [], w, i, xs, T, h => by simp at h
  | o :: os, w, 0, xs, T, h => by
    simp at h
    subst h
    have := cs_new w T xs (0, 0)
    exact this.below (allocs_below os _).1
  | o :: os, w, i + 1, xs, T, h => by
    have := allocs_cs os (w.alloc o) i xs T (by simpa using h)
    rw [World.size_alloc, Nat.add_assoc, Nat.add_comm 1 i] at this
    exact this
set_option maxRecDepth 100000 in
set_option maxHeartbeats 4000000 in
theorem Owner (k : Nat) (hk : k < 256) (w : World) : Calls Tryz.prog 26 #[.int .u8 k] w fun e w' => ∃ v, e = .returned v ∧ w'.ownsRow w.heap.size 9 1 v (owner k).length ((owner k).map strV) ∧ Below w.heap.size w w' := by
  unfold owner
  obtain ⟨m, hm, hm2⟩ : ∃ m, k % 13 = m ∧ m < 13 := ⟨_, rfl, Nat.mod_lt _ (by omega)⟩
  have hrem : ((k : Int).tmod 13) = m := by rw [Int.tmod_eq_emod_of_nonneg (by omega)]; omega
  rw [hm]
  have HM := Lib.hid hm
  clear hm
  have htab : ([Value.slice (some ⟨w.heap.size, 0, none⟩) 0 0, Value.slice (some ⟨w.heap.size + 1, 0, none⟩) 1 1, Value.slice (some ⟨w.heap.size + 1 + 1, 0, none⟩) 1 1, Value.slice (some ⟨w.heap.size + 1 + 1 + 1, 0, none⟩) 2 2, Value.slice (some ⟨w.heap.size + 1 + 1 + 1 + 1, 0, none⟩) 2 2, Value.slice (some ⟨w.heap.size + 1 + 1 + 1 + 1 + 1, 0, none⟩) 2 2, Value.slice (some ⟨w.heap.size + 1 + 1 + 1 + 1 + 1 + 1, 0, none⟩) 3 3, Value.slice (some ⟨w.heap.size + 1 + 1 + 1 + 1 + 1 + 1 + 1, 0, none⟩) 1 1, Value.slice (some ⟨w.heap.size + 1 + 1 + 1 + 1 + 1 + 1 + 1 + 1, 0, none⟩) 2 2, Value.slice (some ⟨w.heap.size + 1 + 1 + 1 + 1 + 1 + 1 + 1 + 1 + 1, 0, none⟩) 1 1, Value.slice (some ⟨w.heap.size + 1 + 1 + 1 + 1 + 1 + 1 + 1 + 1 + 1 + 1, 0, none⟩) 3 3, Value.slice (some ⟨w.heap.size + 1 + 1 + 1 + 1 + 1 + 1 + 1 + 1 + 1 + 1 + 1, 0, none⟩) 1 1, Value.slice (some ⟨w.heap.size + 1 + 1 + 1 + 1 + 1 + 1 + 1 + 1 + 1 + 1 + 1 + 1, 0, none⟩) 1 1] : List Value)[m]'(by simpa using hm2) = .slice (some ⟨w.heap.size + m, 0, none⟩) (ownL m).length (ownL m).length := by
    match m, hm2 with
    | 0, _ => rfl
    | 1, _ => rfl
    | 2, _ => rfl
    | 3, _ => rfl
    | 4, _ => rfl
    | 5, _ => rfl
    | 6, _ => rfl
    | 7, _ => rfl
    | 8, _ => rfl
    | 9, _ => rfl
    | 10, _ => rfl
    | 11, _ => rfl
    | 12, _ => rfl
  have hcs := allocs_cs [Obj.cells #[] 9, Obj.cells #[Value.string { data := #[97] }] 9, Obj.cells #[Value.string { data := #[98] }] 9, Obj.cells #[Value.string { data := #[99] }, Value.string { data := #[98] }] 9, Obj.cells #[Value.string { data := #[42] }, Value.string { data := #[119] }] 9, Obj.cells #[Value.string { data := #[120] }, Value.string { data := #[119] }] 9, Obj.cells #[Value.string { data := #[101] }, Value.string { data := #[102] }, Value.string { data := #[103] }] 9, Obj.cells #[Value.string { data := #[115, 117, 98] }] 9, Obj.cells #[Value.string { data := #[110, 115] }, Value.string { data := #[115, 117, 98] }] 9, Obj.cells #[Value.string { data := #[65] }] 9, Obj.cells #[Value.string { data := #[100, 101, 101, 112] }, Value.string { data := #[120] }, Value.string { data := #[119] }] 9, Obj.cells #[Value.string { data := #[122] }] 9, Obj.cells #[Value.string { data := #[42] }] 9, .cells #[Value.slice (some ⟨w.heap.size, 0, none⟩) 0 0, Value.slice (some ⟨w.heap.size + 1, 0, none⟩) 1 1, Value.slice (some ⟨w.heap.size + 1 + 1, 0, none⟩) 1 1, Value.slice (some ⟨w.heap.size + 1 + 1 + 1, 0, none⟩) 2 2, Value.slice (some ⟨w.heap.size + 1 + 1 + 1 + 1, 0, none⟩) 2 2, Value.slice (some ⟨w.heap.size + 1 + 1 + 1 + 1 + 1, 0, none⟩) 2 2, Value.slice (some ⟨w.heap.size + 1 + 1 + 1 + 1 + 1 + 1, 0, none⟩) 3 3, Value.slice (some ⟨w.heap.size + 1 + 1 + 1 + 1 + 1 + 1 + 1, 0, none⟩) 1 1, Value.slice (some ⟨w.heap.size + 1 + 1 + 1 + 1 + 1 + 1 + 1 + 1, 0, none⟩) 2 2, Value.slice (some ⟨w.heap.size + 1 + 1 + 1 + 1 + 1 + 1 + 1 + 1 + 1, 0, none⟩) 1 1, Value.slice (some ⟨w.heap.size + 1 + 1 + 1 + 1 + 1 + 1 + 1 + 1 + 1 + 1, 0, none⟩) 3 3, Value.slice (some ⟨w.heap.size + 1 + 1 + 1 + 1 + 1 + 1 + 1 + 1 + 1 + 1 + 1, 0, none⟩) 1 1, Value.slice (some ⟨w.heap.size + 1 + 1 + 1 + 1 + 1 + 1 + 1 + 1 + 1 + 1 + 1 + 1, 0, none⟩) 1 1] 23] w m ((ownL m).map strV) 9 (by
    match m, hm2 with
    | 0, _ => rfl
    | 1, _ => rfl
    | 2, _ => rfl
    | 3, _ => rfl
    | 4, _ => rfl
    | 5, _ => rfl
    | 6, _ => rfl
    | 7, _ => rfl
    | 8, _ => rfl
    | 9, _ => rfl
    | 10, _ => rfl
    | 11, _ => rfl
    | 12, _ => rfl)
  have hbw := allocs_below [Obj.cells #[] 9, Obj.cells #[Value.string { data := #[97] }] 9, Obj.cells #[Value.string { data := #[98] }] 9, Obj.cells #[Value.string { data := #[99] }, Value.string { data := #[98] }] 9, Obj.cells #[Value.string { data := #[42] }, Value.string { data := #[119] }] 9, Obj.cells #[Value.string { data := #[120] }, Value.string { data := #[119] }] 9, Obj.cells #[Value.string { data := #[101] }, Value.string { data := #[102] }, Value.string { data := #[103] }] 9, Obj.cells #[Value.string { data := #[115, 117, 98] }] 9, Obj.cells #[Value.string { data := #[110, 115] }, Value.string { data := #[115, 117, 98] }] 9, Obj.cells #[Value.string { data := #[65] }] 9, Obj.cells #[Value.string { data := #[100, 101, 101, 112] }, Value.string { data := #[120] }, Value.string { data := #[119] }] 9, Obj.cells #[Value.string { data := #[122] }] 9, Obj.cells #[Value.string { data := #[42] }] 9, .cells #[Value.slice (some ⟨w.heap.size, 0, none⟩) 0 0, Value.slice (some ⟨w.heap.size + 1, 0, none⟩) 1 1, Value.slice (some ⟨w.heap.size + 1 + 1, 0, none⟩) 1 1, Value.slice (some ⟨w.heap.size + 1 + 1 + 1, 0, none⟩) 2 2, Value.slice (some ⟨w.heap.size + 1 + 1 + 1 + 1, 0, none⟩) 2 2, Value.slice (some ⟨w.heap.size + 1 + 1 + 1 + 1 + 1, 0, none⟩) 2 2, Value.slice (some ⟨w.heap.size + 1 + 1 + 1 + 1 + 1 + 1, 0, none⟩) 3 3, Value.slice (some ⟨w.heap.size + 1 + 1 + 1 + 1 + 1 + 1 + 1, 0, none⟩) 1 1, Value.slice (some ⟨w.heap.size + 1 + 1 + 1 + 1 + 1 + 1 + 1 + 1, 0, none⟩) 2 2, Value.slice (some ⟨w.heap.size + 1 + 1 + 1 + 1 + 1 + 1 + 1 + 1 + 1, 0, none⟩) 1 1, Value.slice (some ⟨w.heap.size + 1 + 1 + 1 + 1 + 1 + 1 + 1 + 1 + 1 + 1, 0, none⟩) 3 3, Value.slice (some ⟨w.heap.size + 1 + 1 + 1 + 1 + 1 + 1 + 1 + 1 + 1 + 1 + 1, 0, none⟩) 1 1, Value.slice (some ⟨w.heap.size + 1 + 1 + 1 + 1 + 1 + 1 + 1 + 1 + 1 + 1 + 1 + 1, 0, none⟩) 1 1] 23] w
  simp only [List.foldl_cons, List.foldl_nil] at hcs hbw
  have hbw1 := hbw.1
  have hol := ownL_len m
  have HCS := Lib.hid hcs
  have HBW := Lib.hid hbw1
  have HBZ := Lib.hid hbw1.size
  clear hcs hbw hbw1
  have HAP : Hid (∀ W, Calls Tryz.prog 25 #[] W fun e w' => ∃ v, e = .returned v ∧ w'.ownsRow W.heap.size 9 1 v 1 ([exL].map strV) ∧ Below W.heap.size W w') := Lib.hid Apex
  go_enter Tryz.func26, Tryz.ntmps26
  go_wp2_with (first | (at_builtin; refine wpList_names (B := w.heap.size) (v := .slice none 0 0) (n := 0) (xs := []) (World.ownsRow_nil _ _ _ _) HBZ.out HCS.out rfl _ _ Tryz.underlying23 rfl rfl rfl (by omega) ?_; intro v1 w1 hown1 hb1))
  rw [Nat.zero_add, List.nil_append] at hown1
  have hbw1 := HBW.out.trans hb1
  clear htab HCS
  generalize hol2 : ownL m = l at *
  have HO := Lib.hid hol2
  clear hol2
  clear hb1 HBW HBZ
  refine (HAP.out _).mono ?_
  rintro e w2 ⟨v2, rfl, hown2, hb2⟩
  obtain ⟨A2, c2, rfl, _, hcs2⟩ := Cs.of_own hown2
  have hown12 := own_below hown1 hb2
  have hb12 := hbw1.trans (hb2.mono hbw1.size)
  have HC2 := Lib.hid hcs2
  clear hown2 hcs2 hown1
  go_wp2_with (first | (at_builtin; refine wpList_names hown12 hb12.size (s := [exL]) HC2.out rfl _ _ Tryz.underlying23 rfl rfl rfl (by simp; omega) ?_; intro v3 w3 hown3 hb3))
  go_ret
  refine ⟨_, rfl, ?_, hb12.trans hb3⟩
  rw [HO.out, List.length_append]
  exact hown3
end Nm
end Go.Proofs.YtkeimgamjnpcbaaGreat

/- The walk of CanonFresh: its known answer, its light sets. -/
namespace Go.Proofs.YtkeimgamjnpcbaaGreat
open Go.RowKit
set_option linter.unusedVariables false
namespace Nm
theorem own_kept_ty {w w' : World} {B : Nat} {e e' : TypeId} {size : Nat} {v : Value} {n : Nat} {xs : List Value} {g : Nat} {cs : Array Value} {fr : Nat × Nat} (he : e ≠ e') (h : w.ownsRow B e size v n xs)
    (hg : w.heap[g]? = some (.cells cs e' fr)) (hk : Kept (fun k => k = g) w w') : w'.ownsRow B e size v n xs := by
  refine Kept.row h hk ?_
  intro k hk2 hkg
  subst hkg
  rcases h.2 with ⟨hn, _⟩ | ⟨g2, cap, cur, rfl, hg2, hh, rest⟩
  · subst hn
    cases hk2
  · cases hk2
    rw [hg] at hh
    cases hh
    exact he rfl
theorem own_cap {w : World} {B : Nat} {e : TypeId} {size : Nat} {A : Option Addr} {m c n : Nat} {xs : List Value} (h : w.ownsRow B e size (.slice A m c) n xs) : n ≤ c ∧ c ≤ maxLen := by
  rcases h.2 with ⟨h1, h2⟩ | ⟨g2, cap, cur, h1, hg2, hh, h3, h4, rest⟩
  · cases h1
    subst h2
    exact ⟨Nat.le_refl _, by unfold maxLen; omega⟩
  · cases h1
    exact ⟨h3, h4⟩
def sigRow (v : Value) : Array Value := #[.int .u16 1, .int .u8 253, .int .u8 2, .int .u32 30, .int .u32 150, .int .u32 100, .int .u16 7, v, .slice none 0 0]
set_option maxRecDepth 100000 in
set_option maxHeartbeats 20000000 in
theorem Known (w : World) : Calls Tryz.prog 12 #[] w fun e w' => e = .returned (.bool true) ∧ Below w.heap.size w w' := by
  go_enter Tryz.func12, Tryz.ntmps12
  go_wp2_with fail
  refine (Owner 1 (by omega) w).mono ?_
  rintro e w1 ⟨v1, rfl, hown1, hb1⟩
  obtain ⟨A1, c1, rfl, hl1, hcs1⟩ := Cs.of_own hown1
  go_wp2_with fail
  obtain ⟨hcap1, hcap2⟩ := own_cap hown1
  generalize hw2 : ((w1.alloc (.cells #[.int .u8 1, .int .u8 2, .int .u8 3, .int .u8 4] 5)).alloc (.cells #[.slice (some ⟨w1.heap.size, 0, none⟩) 4 4] 31)).alloc (.cells #[.slice A1 (owner 1).length c1, .int .u16 1, .int .u32 30, .slice (some ⟨w1.heap.size + 1, 0, none⟩) 1 1] 28) = w2
  have hba : Below w1.heap.size w1 (w1.alloc (.cells #[.int .u8 1, .int .u8 2, .int .u8 3, .int .u8 4] 5)) := (Below.refl _ _).alloc (Nat.le_refl _) _
  have hbb : Below w1.heap.size w1 w2 := by rw [← hw2]; exact (hba.alloc (by simp) _).alloc (by simp; omega) _
  have hz2 : w2.heap.size = w1.heap.size + 3 := by rw [← hw2]; simp
  have hgs : w2.heap[w1.heap.size + 2]? = some (.cells #[.slice A1 (owner 1).length c1, .int .u16 1, .int .u32 30, .slice (some ⟨w1.heap.size + 1, 0, none⟩) 1 1] 28 (0, 0)) := by
    rw [← hw2]
    have := heap_alloc_new ((w1.alloc (.cells #[.int .u8 1, .int .u8 2, .int .u8 3, .int .u8 4] 5)).alloc (.cells #[.slice (some ⟨w1.heap.size, 0, none⟩) 4 4] 31)) (.cells #[.slice A1 (owner 1).length c1, .int .u16 1, .int .u32 30, .slice (some ⟨w1.heap.size + 1, 0, none⟩) 1 1] 28)
    simpa using this
  have hc4 : Cs w2 (some ⟨w1.heap.size, 0, none⟩) (([1, 2, 3, 4] : Lab).map byteV) := by
    rw [← hw2]
    have := cs_new w1 5 [.int .u8 1, .int .u8 2, .int .u8 3, .int .u8 4] (0, 0)
    exact (this.below ((Below.refl _ _).alloc (Nat.le_refl _) _)).below ((Below.refl _ _).alloc (Nat.le_refl _) _)
  have hc5 : Cs w2 (some ⟨w1.heap.size + 1, 0, none⟩) ([⟨some ⟨w1.heap.size, 0, none⟩, [1, 2, 3, 4], 4⟩].map Blob.v) := by
    rw [← hw2]
    have := cs_new (w1.alloc (.cells #[.int .u8 1, .int .u8 2, .int .u8 3, .int .u8 4] 5)) 31 [.slice (some ⟨w1.heap.size, 0, none⟩) 4 4] (0, 0)
    rw [World.size_alloc] at this
    exact this.below ((Below.refl _ _).alloc (Nat.le_refl _) _)
  have hsv : (⟨A1, owner 1, c1, 1, 30, some ⟨w1.heap.size + 1, 0, none⟩, [⟨some ⟨w1.heap.size, 0, none⟩, [1, 2, 3, 4], 4⟩], 1⟩ : SetV).ok w2 := ⟨hcs1.below hbb, hc5, by
    intro b hb
    rcases List.mem_cons.1 hb with rfl | hb
    · exact hc4
    · cases hb⟩
  have HSV := Lib.hid hsv
  have hbw2 := hb1.trans (hbb.mono hb1.size)
  have HC4 := Lib.hid hc4
  have HC5 := Lib.hid hc5
  have HC1 := Lib.hid (hcs1.below hbb)
  have hzz := hb1.size
  clear hw2 hba hbb hc4 hc5 hsv hown1 hcs1 hb1
  have HFR : Hid (∀ (A : Option Addr) (cap : Nat) (W : World), Below w2.heap.size w2 W → Cs W A ([exL].map strV) → Calls Tryz.prog 14 #[.agg #[.slice A1 (owner 1).length c1, .int .u16 1, .int .u32 30, .slice (some ⟨w1.heap.size + 1, 0, none⟩) 1 1], .int .u32 30, .int .u16 7, .slice A 1 cap, .int .u32 100, .int .u32 50] W fun e w' =>
      ∃ v, e = .returned (.agg #[.int .u16 1, .int .u8 253, .int .u8 2, .int .u32 30, .int .u32 150, .int .u32 100, .int .u16 7, v, .slice none 0 0]) ∧ w'.ownsRow W.heap.size 9 1 v 1 ([exL].map strV) ∧ Below W.heap.size W w') := Lib.hid fun A cap W hW hA =>
    Fresh ⟨A1, owner 1, c1, 1, 30, some ⟨w1.heap.size + 1, 0, none⟩, [⟨some ⟨w1.heap.size, 0, none⟩, [1, 2, 3, 4], 4⟩], 1⟩ 30 7 100 50 A [exL] cap W (HSV.out.below hW) (show (owner 1).length ≤ 1000 by decide) hcap1 hcap2 hA (by decide) (by omega) (by omega) (by omega) (by omega)
  clear HSV
  refine wp_region_dep (by kernel_rfl) (by kernel_rfl) (fun i j => i == 4 && j == 3) (by kernel_rfl)
    (fun i W W' => if i = 4 then ∃ g cs fr, W.heap[g]? = some (.cells cs 33 fr) ∧ w2.heap.size ≤ g ∧ Kept (fun k => k = g) W W' else Ext W W')
    (fun W => Below w2.heap.size w2 W)
    (fun i vals W => match i with
      | 0 => vals 0 = .agg #[.slice A1 (owner 1).length c1, .int .u16 1, .int .u32 30, .slice (some ⟨w1.heap.size + 1, 0, none⟩) 1 1]
      | 1 => W.ownsRow w2.heap.size 9 1 (vals 1) 1 ([exL].map strV)
      | 2 => ∃ v, vals 2 = .agg (sigRow v) ∧ W.ownsRow w2.heap.size 9 1 v 1 ([exL].map strV)
      | 3 => ∃ g cs, vals 3 = .pointer (some ⟨g, 0, none⟩) ∧ w2.heap.size ≤ g ∧ W.heap[g]? = some (.cells cs 33 (0, 0)) ∧ cs.size = 9
      | 4 => ∃ g v, vals 3 = .pointer (some ⟨g, 0, none⟩) ∧ w2.heap.size ≤ g ∧ W.heap[g]? = some (.cells (sigRow v) 33 (0, 0)) ∧ W.ownsRow w2.heap.size 9 1 v 1 ([exL].map strV)
      | _ => True) ?_ (fun _ => True) (fun _ => false) trivial (fun _ _ _ _ _ _ _ => trivial) ?_ ?_ ?_ ?_ ?_
  · intro j vals i v W hij hw hR
    rcases j with _ | _ | _ | _ | _ | j
    · simpa [hij, Ne.symm hij] using hR
    · simpa [hij, Ne.symm hij] using hR
    · simpa [hij, Ne.symm hij] using hR
    · simpa [hij, Ne.symm hij] using hR
    · have h3 : ¬ 3 = i := fun h => by
        subst h
        generalize hb : waitsB _ _ _ = b at hw
        have : b = true := by rw [← hb]; kernel_rfl
        rw [this] at hw
        cases hw
      simpa [h3] using hR
    · trivial
  · exact ⟨rfl, rfl, rfl, Nat.le_refl _, fun _ _ => rfl⟩
  · intro i W W' hC hT
    by_cases h4 : i = 4
    · simp only [h4, if_true] at hT
      obtain ⟨g, cs, fr, h1, h2, h3⟩ := hT
      exact hC.trans (h3.below hC.size (fun k hk h => by omega))
    · simp only [h4, if_false] at hT
      exact hC.trans (hT.mono hC.size)
  · intro i j vals W W' hij hk hw hC hR hT
    by_cases h4 : i = 4
    · simp only [h4, if_true] at hT
      obtain ⟨g, cs, fr, h1, h2, h3⟩ := hT
      subst h4
      rcases j with _ | _ | _ | _ | _ | j
      · exact hR
      · exact own_kept_ty (by decide) hR h1 h3
      · obtain ⟨v, h5, h6⟩ := hR
        exact ⟨v, h5, own_kept_ty (by decide) h6 h1 h3⟩
      · cases hk
      · exact absurd rfl hij
      · trivial
    · simp only [h4, if_false] at hT
      rcases j with _ | _ | _ | _ | _ | j
      · exact hR
      · exact own_below hR hT
      · obtain ⟨v, h5, h6⟩ := hR
        exact ⟨v, h5, own_below h6 hT⟩
      · obtain ⟨g, cs, h5, h6, h7, h8⟩ := hR
        exact ⟨g, cs, h5, h6, (hT.block _ (lt_block h7)).trans h7, h8⟩
      · obtain ⟨g, v, h5, h6, h7, h8⟩ := hR
        exact ⟨g, v, h5, h6, (hT.block _ (lt_block h7)).trans h7, own_below h8 hT⟩
      · trivial
  · intro i o hio vals W hC haf _
    have hg := (hC.block _ (show w1.heap.size + 2 < w2.heap.size by omega)).trans hgs
    rcases i with _ | _ | _ | _ | _ | i
    all_goals first
      | (exfalso; simp at hio; done)
      | skip
    all_goals
      simp at hio
      subst hio
      simp [bindD, rdB, Region.binds] at haf
    · have e0 : W.cell? ⟨w1.heap.size + 2, 0, none⟩ = some (.slice A1 (owner 1).length c1) := by rw [cell_of_row _ _ 0 _ _ _ hg]; rfl
      have e1 : W.cell? ⟨w1.heap.size + 2, 1, none⟩ = some (.int .u16 1) := by rw [cell_of_row _ _ 1 _ _ _ hg]; rfl
      have e2 : W.cell? ⟨w1.heap.size + 2, 2, none⟩ = some (.int .u32 30) := by rw [cell_of_row _ _ 2 _ _ _ hg]; rfl
      have e3 : W.cell? ⟨w1.heap.size + 2, 3, none⟩ = some (.slice (some ⟨w1.heap.size + 1, 0, none⟩) 1 1) := by rw [cell_of_row _ _ 3 _ _ _ hg]; rfl
      simp [opYield_def, yieldUpon, relAct, dstAt, Act.put, Region.wanted, go_sem, e0, e1, e2, e3, Ext.refl]
    · simp [opYield_def, yieldUpon, relAct, dstAt, Act.put, Region.wanted, go_sem, haf]
      refine (Apex W).mono fun e W' h => ?_
      obtain ⟨v, he, ho, hb⟩ := h
      exact ⟨v, he, hb, own_base ho hC.size⟩
    · obtain ⟨h0, h1⟩ := haf
      obtain ⟨A5, c5, e5, _, hc5⟩ := Cs.of_own h1
      simp [opYield_def, yieldUpon, relAct, dstAt, Act.put, Region.wanted, go_sem, h0, e5]
      refine (HFR.out A5 c5 W hC hc5).mono fun e W' h => ?_
      obtain ⟨v, he, ho, hb⟩ := h
      exact ⟨_, he, hb, v, rfl, own_base ho hC.size⟩
    · simp [opYield_def, yieldUpon, relAct, dstAt, Act.put, Region.wanted, go_sem]
      exact ⟨(Below.refl _ _).alloc (Nat.le_refl _) _, hC.size, #[.int .u16 0, .int .u8 0, .int .u8 0, .int .u32 0, .int .u32 0, .int .u32 0, .int .u16 0, .slice none 0 0, .slice none 0 0], by simp only [World.alloc, Array.getElem_push_eq], rfl⟩
    · obtain ⟨h3, h2⟩ := haf
      obtain ⟨g, h5, h6, cs, h7, h8⟩ := h3
      obtain ⟨v, h9, h10⟩ := h2
      obtain ⟨A5, c5, rfl, _, hc5⟩ := Cs.of_own h10
      refine yield_store (g := g) (cells := sigRow (.slice A5 1 c5)) rfl rfl (by simp [relAct, dstAt, Act.put, Act.eval, h5]) (by simp [relAct, dstAt, Act.put, Act.eval, h9]) h7 (by kernel_rfl) h8 (by simp [sigRow, Value.oneCell']) ?_
      have hblk := setRow_block W g (sigRow (.slice A5 1 c5)) cs 33 (0, 0) h7
      have hgr := setRow_grown W g (sigRow (.slice A5 1 c5))
      have hk : Kept (fun k => k = g) W (W.setRow g (sigRow (.slice A5 1 c5))) := (Kept.of_grown hgr).mono (fun k _ h => by cases h; rfl)
      exact ⟨⟨g, cs, (0, 0), h7, h6, hk⟩, g, _, by simpa using h5, h6, hblk, own_kept_ty (by decide) h10 h7 hk⟩
  · intro vals W hC hR
    have h4 := hR 4 (by show 4 < 5; omega) (fun i _ => by simp)
    obtain ⟨g, v, h3, hgN, hgb, hov⟩ := h4
    simp [relAct, dstAt, Act.put]
    rw [h3]
    obtain ⟨A5, c5, rfl, _, hc5⟩ := Cs.of_own hov
    have hgW := lt_block hgb
    have hsb := (hC.block _ (show w1.heap.size + 2 < w2.heap.size by omega)).trans hgs
    have hbW := hbw2.trans (hC.mono (by have := hbw2.size; omega))
    have hcW := HC1.out.below hC
    have h4W := HC4.out.below hC
    have h5W := HC5.out.below hC
    have HC5 := Lib.hid hc5
    have hzC := hC.size
    clear hR hgs HFR hc5 hov
    generalize vals 0 = v0 at *
    generalize vals 1 = v1 at *
    generalize vals 2 = v2 at *
    go_wp2_with fail
    refine (Owner 4 (by omega) W).mono ?_
    rintro e W4 ⟨v4, rfl, hown4, hb4⟩
    obtain ⟨A4, c4, rfl, _, hcs4⟩ := Cs.of_own hown4
    obtain ⟨hq1, hq2⟩ := own_cap hown4
    have hl4 : labels (owner 4) = 2 := by decide
    have hz4 := hb4.size
    clear hown4
    go_wp2_with fail
    refine (Labels A4 (owner 4) c4 W4 hcs4 (by decide) hq1 hq2).mono ?_
    rintro e W4' ⟨rfl, rfl⟩
    rw [hl4]
    clear hcs4 hq1 hq2 hl4
    go_wp2_with fail
    refine (Owner 12 (by omega) W4).mono ?_
    rintro e W6 ⟨v6, rfl, hown6, hb6⟩
    obtain ⟨A6, c6, rfl, _, hcs6⟩ := Cs.of_own hown6
    obtain ⟨hq1, hq2⟩ := own_cap hown6
    have hl6 : labels (owner 12) = 1 := by decide
    have hz6 := hb6.size
    have hg6 := (hb6.block _ (show g < W4.heap.size by omega)).trans ((hb4.block _ hgW).trans hgb)
    have hs6 := (hb6.block _ (show w1.heap.size + 2 < W4.heap.size by omega)).trans ((hb4.block _ (show w1.heap.size + 2 < W.heap.size by omega)).trans hsb)
    obtain ⟨k0, k1, k2, k3, k4, k5, k6, k7, k8, kf⟩ := cells9 hg6
    have s0 : W6.cell? ⟨w1.heap.size + 2, 0, none⟩ = some (.slice A1 (owner 1).length c1) := by rw [cell_of_row _ _ 0 _ _ _ hs6]; rfl
    have s1 : W6.cell? ⟨w1.heap.size + 2, 1, none⟩ = some (.int .u16 1) := by rw [cell_of_row _ _ 1 _ _ _ hs6]; rfl
    have s2 : W6.cell? ⟨w1.heap.size + 2, 2, none⟩ = some (.int .u32 30) := by rw [cell_of_row _ _ 2 _ _ _ hs6]; rfl
    have s3 : W6.cell? ⟨w1.heap.size + 2, 3, none⟩ = some (.slice (some ⟨w1.heap.size + 1, 0, none⟩) 1 1) := by rw [cell_of_row _ _ 3 _ _ _ hs6]; rfl
    have hb46 := hb4.trans (hb6.mono hz4)
    have hb66 := hbW.trans (hb46.mono (by omega))
    have HM := Lib.hid (Message1 A1 (some ⟨w1.heap.size + 1, 0, none⟩) (owner 1) c1 1 1 30 ⟨some ⟨w1.heap.size, 0, none⟩, [1, 2, 3, 4], 4⟩ ⟨1, 253, 2, 30, 150, 100, 7, [exL], []⟩ A5 none c5 0 W6 (by unfold plainT; decide) (by decide) (by kernel_rfl) (hcW.below hb46) (by unfold Small; decide) (h5W.below hb46) (Cs.below h4W hb46) (show (4 : Nat) ≤ 4 by decide) (show (4 : Nat) ≤ maxLen by unfold maxLen; decide)
      ⟨by decide, by decide, by decide, by decide, by decide, by decide, by decide, by unfold Small; decide, by decide⟩ (HC5.out.below hb46) (by decide))
    clear hown6 hg6 hs6 hcW h4W h5W hgb hsb
    go_wp2_with fail
    refine (Labels A6 (owner 12) c6 W6 hcs6 (by decide) hq1 hq2).mono ?_
    rintro e W6' ⟨rfl, rfl⟩
    rw [hl6]
    clear hcs6 hq1 hq2 hl6
    go_wp2_with fail
    refine HM.out.mono ?_
    rintro e W7 ⟨v7, rfl, hown7, hb7⟩
    obtain ⟨A7, c7, rfl, _, _⟩ := Cs.of_own hown7
    have hlen : List.length (msg1 (owner 1) 1 [1, 2, 3, 4] { t := 1, al := 253, lb := 2, ttl := 30, ex := 150, bg := 100, tg := 7, n := [exL], s := [] }) = 52 := by kernel_rfl
    have hbF := hb66.trans (hb7.mono hb66.size)
    have hbR : Below w.heap.size w W7 := hbF
    clear hown7 hb7
    rw [hlen]
    clear hlen HM
    go_wp2_with fail
    go_ret
    exact ⟨rfl, hbR⟩
end Nm
end Go.Proofs.YtkeimgamjnpcbaaGreat

/- The walk of CanonFresh. -/
namespace Go.Proofs.YtkeimgamjnpcbaaGreat
open Go.RowKit
set_option linter.unusedVariables false
namespace Nm
set_option maxRecDepth 100000 in
set_option maxHeartbeats 20000000 in
theorem WFresh (s : SetV) (ttl tag now valid : Int) (A : Option Addr) (sn : List Lab) (cap : Nat) (w : World) (hs : s.ok w) (hc : Cs w A (sn.map strV)) (hl1 : s.n.length ≤ maxLen) (hl2 : ∀ l ∈ s.n, l.length ≤ maxLen) (hl3 : sn.length ≤ maxLen) (hl4 : ∀ l ∈ sn, l.length ≤ maxLen) (hl5 : ∀ d ∈ s.ds, d.l.length ≤ maxLen) (hl6 : s.ds.length ≤ maxLen)
    (hscap : s.n.length ≤ s.cap) (hscap2 : s.cap ≤ maxLen) (h1 : 0 ≤ now) (h2 : now ≤ 4294967295) (h3 : 0 ≤ valid) (h4 : valid ≤ 4294967295) :
    Calls Tryz.prog 3 #[s.v, .int .u32 ttl, .int .u16 tag, .slice A sn.length cap, .int .u32 now, .int .u32 valid] w fun e w' =>
      e = .returned (.bool true) ∧ Below w.heap.size w w' := by
  unfold SetV.v
  generalize hw2 : w.alloc (.cells #[.slice s.A s.n.length s.cap, .int .u16 s.t, .int .u32 s.ttl, .slice s.D s.ds.length s.dcap] 28) = w2
  have hb2 : Below w.heap.size w w2 := by rw [← hw2]; exact (Below.refl _ _).alloc (Nat.le_refl _) _
  have hsz2 : w2.heap.size = w.heap.size + 1 := by rw [← hw2]; simp
  have hq : w2.heap[w.heap.size]? = some (.cells #[.slice s.A s.n.length s.cap, .int .u16 s.t, .int .u32 s.ttl, .slice s.D s.ds.length s.dcap] 28 (0, 0)) := by
    rw [← hw2]
    exact heap_alloc_new w (.cells #[.slice s.A s.n.length s.cap, .int .u16 s.t, .int .u32 s.ttl, .slice s.D s.ds.length s.dcap] 28)
  have HS := Lib.hid (SetV.ok.below hs hb2)
  have HC := Lib.hid (hc.below hb2)
  have HQ := Lib.hid hq
  have HLL : Hid (∀ W, Below w2.heap.size w2 W → Calls Tryz.prog 13 #[s.v, .agg #[.int .u16 0, .int .u8 0, .int .u8 0, .int .u32 0, .int .u32 0, .int .u32 0, .int .u16 0, .slice A sn.length cap, .slice none 0 0]] W fun e w' =>
      e = .returned (.bool (lightS s sn)) ∧ Below W.heap.size W w') := Lib.hid fun W hW => Light s A sn cap W (HS.out.below hW) (HC.out.below hW) hl1 hl2 hl3 hl4 hl5 hl6
  unfold SetV.v at HLL
  have HR : Hid (lightS s sn = true → s.n.length ≤ 1000 ∧ sn.length ≤ 1000) := Lib.hid fun h => by
    unfold lightS at h
    simp only [Bool.and_eq_true] at h
    have a := lightN_true h.1.1.2
    have b := lightN_true h.1.2
    omega
  clear hl1 hl2 hl3 hl4 hl5 hl6 hs hc hq
  go_enter Tryz.func3, Tryz.ntmps3
  go_wp2_with fail
  refine (Known w2).mono ?_
  rintro e w3 ⟨rfl, hb3⟩
  clear hw2
  have hq3 := (hb3.block _ (show w.heap.size < w2.heap.size by omega)).trans HQ.out
  have s0 : w3.cell? ⟨w.heap.size, 0, none⟩ = some (.slice s.A s.n.length s.cap) := by rw [cell_of_row _ _ 0 _ _ _ hq3]; rfl
  have s1 : w3.cell? ⟨w.heap.size, 1, none⟩ = some (.int .u16 s.t) := by rw [cell_of_row _ _ 1 _ _ _ hq3]; rfl
  have s2 : w3.cell? ⟨w.heap.size, 2, none⟩ = some (.int .u32 s.ttl) := by rw [cell_of_row _ _ 2 _ _ _ hq3]; rfl
  have s3 : w3.cell? ⟨w.heap.size, 3, none⟩ = some (.slice s.D s.ds.length s.dcap) := by rw [cell_of_row _ _ 3 _ _ _ hq3]; rfl
  clear hq3
  go_wp2_with fail
  refine (HLL.out w3 hb3).mono ?_
  rintro e w4 ⟨rfl, hb4⟩
  have hb34 := hb3.trans (hb4.mono hb3.size)
  have hz34 := hb34.size
  clear s0 s1 s2 s3
  cases hli : lightS s sn with
  | false =>
    clear HR HLL
    have hbF := hb2.trans (hb34.mono (by omega))
    go_wp2_with fail
    go_ret
    exact ⟨rfl, hbF⟩
  | true =>
    obtain ⟨hn1, hn2⟩ := HR.out hli
    clear HR HLL hli
    have hq4 := (hb34.block _ (show w.heap.size < w2.heap.size by omega)).trans HQ.out
    have s0 : w4.cell? ⟨w.heap.size, 0, none⟩ = some (.slice s.A s.n.length s.cap) := by rw [cell_of_row _ _ 0 _ _ _ hq4]; rfl
    have s1 : w4.cell? ⟨w.heap.size, 1, none⟩ = some (.int .u16 s.t) := by rw [cell_of_row _ _ 1 _ _ _ hq4]; rfl
    have s2 : w4.cell? ⟨w.heap.size, 2, none⟩ = some (.int .u32 s.ttl) := by rw [cell_of_row _ _ 2 _ _ _ hq4]; rfl
    have s3 : w4.cell? ⟨w.heap.size, 3, none⟩ = some (.slice s.D s.ds.length s.dcap) := by rw [cell_of_row _ _ 3 _ _ _ hq4]; rfl
    have HFr := Lib.hid (Fresh s ttl tag now valid A sn cap w4 (HS.out.below hb34) hn1 hscap hscap2 (HC.out.below hb34) hn2 h1 h2 h3 h4)
    unfold SetV.v at HFr
    clear hq4
    go_wp2_with fail
    refine HFr.out.mono ?_
    rintro e w5 ⟨v5, rfl, hown5, hb5⟩
    obtain ⟨A5, c5, rfl, _, hcs5⟩ := Cs.of_own hown5
    have hb35 := hb34.trans (hb5.mono (by omega))
    have hz35 := hb35.size
    clear s0 s1 s2 s3 HFr hown5
    go_wp2_with fail
    generalize hw6 : w5.alloc (.cells #[.int .u16 s.t, .int .u8 253, .int .u8 (labels s.n), .int .u32 ttl, .int .u32 (plus now valid), .int .u32 now, .int .u16 tag, .slice A5 sn.length c5, .slice none 0 0] 33) = w6
    have hb56 : Below w5.heap.size w5 w6 := by rw [← hw6]; exact (Below.refl _ _).alloc (Nat.le_refl _) _
    have hgq : w6.heap[w5.heap.size]? = some (.cells #[.int .u16 s.t, .int .u8 253, .int .u8 (labels s.n), .int .u32 ttl, .int .u32 (plus now valid), .int .u32 now, .int .u16 tag, .slice A5 sn.length c5, .slice none 0 0] 33 (0, 0)) := by
      rw [← hw6]
      exact heap_alloc_new w5 _
    have hz6 : w6.heap.size = w5.heap.size + 1 := by rw [← hw6]; simp
    have hb36 := hb35.trans (hb56.mono hz35)
    have HC5 := Lib.hid (hcs5.below hb56)
    have hbF := hb2.trans (hb36.mono (by omega))
    clear hw6 hcs5
    refine wp_region_mono (by kernel_rfl) (by kernel_rfl) [.is (.agg #[.int .u16 s.t, .int .u8 253, .int .u8 (labels s.n), .int .u32 ttl, .int .u32 (plus now valid), .int .u32 now, .int .u16 tag, .slice A5 sn.length c5, .slice none 0 0]),
      .is (.agg #[.slice s.A s.n.length s.cap, .int .u16 s.t, .int .u32 s.ttl, .slice s.D s.ds.length s.dcap]), .is (.int .u32 ttl), .is (.int .u16 tag), .is (.slice A sn.length cap), .is (.int .u32 now), .is (.int .u32 valid),
      .is (.agg #[.int .u16 s.t, .int .u8 253, .int .u8 (labels s.n), .int .u32 ttl, .int .u32 (plus now valid), .int .u32 now, .int .u16 tag, .slice A sn.length cap, .slice none 0 0]),
      .is (.bool true), .is (.bool true), .is (.pointer (some ⟨w5.heap.size, 8, none⟩)), .is (.slice none 0 0), .is (.int .i64 0), .is (.bool true), .is (.bool true), .is (.bool true)] rfl ?_ ?_
    · intro i o hio vals W hE haf
      have hb3W := hb36.trans (hE.mono (by omega))
      have hq7 := (hb3W.block _ (show w.heap.size < w2.heap.size by omega)).trans HQ.out
      have s0 : W.cell? ⟨w.heap.size, 0, none⟩ = some (.slice s.A s.n.length s.cap) := by rw [cell_of_row _ _ 0 _ _ _ hq7]; rfl
      have s1 : W.cell? ⟨w.heap.size, 1, none⟩ = some (.int .u16 s.t) := by rw [cell_of_row _ _ 1 _ _ _ hq7]; rfl
      have s2 : W.cell? ⟨w.heap.size, 2, none⟩ = some (.int .u32 s.ttl) := by rw [cell_of_row _ _ 2 _ _ _ hq7]; rfl
      have s3 : W.cell? ⟨w.heap.size, 3, none⟩ = some (.slice s.D s.ds.length s.dcap) := by rw [cell_of_row _ _ 3 _ _ _ hq7]; rfl
      have hg7 := (hE.block _ (show w5.heap.size < w6.heap.size by omega)).trans hgq
      obtain ⟨k0, k1, k2, k3, k4, k5, k6, k7, k8, kf⟩ := cells9 hg7
      rcases i with _ | _ | _ | _ | _ | _ | _ | _ | _ | _ | _ | _ | _ | _ | _ | _ | i
      all_goals first
        | (exfalso; simp at hio; done)
        | (simp at hio; subst hio; simp [bindD, rdB, Region.binds, factAt] at haf; simp [opYield_def, yieldUpon, yielded, relAct, dstAt, Act.put, Region.wanted, go_sem, haf, s0, s1, s2, s3, k0, k1, k2, k3, k4, k5, k6, k7, k8, Ext.refl, factAt]; done)
        | skip
      all_goals
        simp at hio
        subst hio
        simp [bindD, rdB, Region.binds, factAt] at haf
      · simp [opYield_def, yieldUpon, relAct, dstAt, Act.put, Region.wanted, go_sem, haf, factAt]
        have := RefFresh s ttl tag now valid A sn cap W (HS.out.below hb3W) hn1 hscap hscap2 (HC.out.below hb3W) hn2 h1 h2 h3 h4
        unfold SetV.v at this
        refine this.mono fun e W' h => ?_
        obtain ⟨he, hb⟩ := h
        exact ⟨he, hb⟩
      · simp [opYield_def, yieldUpon, relAct, dstAt, Act.put, Region.wanted, go_sem, haf, factAt]
        refine (HSig s.t 253 (labels s.n) ttl (plus now valid) now tag A5 A sn sn c5 cap (.slice none 0 0) (.slice none 0 0) rfl rfl W (HC5.out.below hE) (HC.out.below hb3W) (by omega) (by omega)).mono fun e W' h => ?_
        obtain ⟨hb, he⟩ := h
        exact ⟨by simpa using he, hb⟩
    · intro vals W hE hF
      have h15 := hF
      simp only [facts] at h15
      obtain ⟨_, _, _, _, _, _, _, _, _, _, _, _, _, _, _, h15, _⟩ := h15
      simp [relAct, dstAt, Act.put]
      have hbW := hbF.trans (hE.mono (by have := hbF.size; omega))
      clear hF
      have e15 : vals 15 = .bool true := h15
      rw [e15]
      go_wp2_with fail
      go_ret
      exact ⟨rfl, hbW⟩
end Nm
end Go.Proofs.YtkeimgamjnpcbaaGreat

/- Parameters that are names, sets: opened. -/
namespace Go.Proofs.YtkeimgamjnpcbaaGreat
open Go.RowKit Go.ChangeShapes Go.WideShapes
set_option linter.unusedVariables false
section
variable {H : Type} {enc : TypeId × Value → H} {P : Program} {w : World} {base : Nat} {spare : Nat → Bool} {held : Bool}
theorem cs_of_add {a : Addr} {xs : List Value} (h : ∀ i u, xs[i]? = some u → w.cell? (a.add i) = some u) : Cs w (some a) xs := by
  intro i u hu
  have hc := h i u hu
  obtain ⟨b, off, spot⟩ := a
  have hlt := (List.getElem?_eq_some_iff.1 hu).1
  have hspot : spot = none := by
    have h0 := h 0 xs[0] (List.getElem?_eq_getElem (by omega))
    have := World.cell?_spot h0
    simpa [Addr.add] using this
  subst hspot
  refine ⟨b, off, rfl, ?_, ?_⟩
  · rw [add_plain] at hc
    exact World.block_lt_of_cell? w _ hc
  · rw [add_plain] at hc
    exact hc
theorem openName {t e : TypeId} {fuel : Nat} {cs : List Value} {x : DataW H × List MemPlace} (ht : P.underlying t = some (.slice e)) (he : P.underlying e = some .string) (hc : P.cellsOf e = 1)
    (h : DataW.trod enc P w base spare held fuel t cs = some x) :
    ∃ (A : Option Addr) (n : List Lab) (cap : Nat), cs = [.slice A n.length cap] ∧ Cs w A (n.map strV) ∧ n.length ≤ cap ∧ cap ≤ maxLen ∧ ∀ l ∈ n, l.length ≤ maxLen := by
  rcases open_strings ht he hc h with ⟨rfl, _⟩ | ⟨a, len, cap, ss, rfl, _, hl, hm, hz, _, hcell, hsz⟩
  · exact ⟨none, [], 0, rfl, Cs.nil _ _, Nat.le_refl _, by unfold maxLen; omega, (fun l h => by cases h)⟩
  · have hlen : len ≤ ss.length := by rw [hz]; split <;> omega
    refine ⟨some a, (ss.take len).map (fun s => s.data.toList), cap, ?_, ?_, ?_, hm, ?_⟩
    · simp [Nat.min_eq_left hlen]
    · refine cs_of_add ?_
      intro i u hu
      rw [List.getElem?_map, List.getElem?_map, List.getElem?_take] at hu
      by_cases hi : i < len
      · rw [if_pos hi, List.getElem?_eq_getElem (by omega)] at hu
        simp only [Option.map_some, Option.some.injEq] at hu
        rw [hcell i (by omega), ← hu]
        unfold strV
        rw [strB_of]
        simp [List.getD, List.getElem?_eq_getElem (show i < ss.length by omega)]
      · rw [if_neg hi] at hu; cases hu
    · simp [Nat.min_eq_left hlen]; exact hl
    · intro l hl2
      obtain ⟨s, hs, rfl⟩ := List.mem_map.1 hl2
      rw [← strB_size, strB_of]
      exact hsz s (List.mem_of_mem_take hs)
theorem openBytes {t e : TypeId} {fuel : Nat} {cs : List Value} {x : DataW H × List MemPlace} (ht : P.underlying t = some (.slice e)) (he : P.underlying e = some (.int .u8)) (hc : P.cellsOf e = 1)
    (h : DataW.trod enc P w base spare held fuel t cs = some x) : ∃ b : Blob, cs = [b.v] ∧ b.ok w ∧ b.l.length ≤ b.cap ∧ b.cap ≤ maxLen := by
  rcases open_ints ht he hc h with ⟨rfl, _⟩ | ⟨a, len, cap, zs, rfl, _, hl, hm, hz, _, hcell, hwz⟩
  · exact ⟨⟨none, [], 0⟩, rfl, Cs.nil _ _, Nat.le_refl _, by unfold maxLen; simp⟩
  · have hlen : len ≤ zs.length := by rw [hz]; split <;> omega
    refine ⟨⟨some a, (zs.take len).map (fun n => UInt8.ofNat n.toNat), cap⟩, ?_, ?_, ?_, hm⟩
    · simp [Blob.v, Nat.min_eq_left hlen]
    · refine cs_of_add ?_
      intro i u hu
      rw [List.getElem?_map, List.getElem?_map, List.getElem?_take] at hu
      by_cases hi : i < len
      · rw [if_pos hi, List.getElem?_eq_getElem (by omega)] at hu
        simp only [Option.map_some, Option.some.injEq] at hu
        have hb := bounds_u8 (hwz zs[i] (List.getElem_mem (by omega)))
        rw [hcell i (by omega), ← hu, Nm.byteV_mod]
        simp [List.getD, List.getElem?_eq_getElem (show i < zs.length by omega)]
        omega
      · rw [if_neg hi] at hu; cases hu
    · simp [Nat.min_eq_left hlen]; exact hl
theorem openBlobs {t e q : TypeId} {fuel : Nat} {cs : List Value} {x : DataW H × List MemPlace} (ht : P.underlying t = some (.slice e)) (hc : P.cellsOf e = 1) (he : P.underlying e = some (.slice q)) (hq : P.underlying q = some (.int .u8)) (hc2 : P.cellsOf q = 1)
    (h : DataW.trod enc P w base spare held fuel t cs = some x) : ∃ (A : Option Addr) (ds : List Blob) (cap : Nat), cs = [.slice A ds.length cap] ∧ Cs w A (ds.map Blob.v) ∧ Blobs w ds ∧ ds.length ≤ cap ∧ cap ≤ maxLen ∧ ∀ d ∈ ds, d.l.length ≤ d.cap ∧ d.cap ≤ maxLen := by
  rcases Deep.open_slice1 ht hc h with ⟨rfl, _⟩ | ⟨a, len, cap, m, n, V, D, Pl, rfl, _, hl, hm, hmm, _, hx⟩
  · exact ⟨none, [], 0, rfl, Cs.nil _ _, (fun b h => by cases h), Nat.le_refl _, by unfold maxLen; omega, (fun l h => by cases h)⟩
  · have hlen : len ≤ m := by rw [hmm]; split <;> omega
    have key : ∀ k, k ≤ len → ∃ ds : List Blob, ds.length = k ∧ (∀ i u, (ds.map Blob.v)[i]? = some u → w.cell? (a.add i) = some u) ∧ Blobs w ds ∧ ∀ d ∈ ds, d.l.length ≤ d.cap ∧ d.cap ≤ maxLen := by
      intro k
      induction k with
      | zero => intro _; exact ⟨[], rfl, (fun i u h => by simp at h), (fun b h => by cases h), (fun b h => by cases h)⟩
      | succ k ih =>
        intro hk
        obtain ⟨ds, h1, h2, h3, h4⟩ := ih (by omega)
        obtain ⟨b, hb1, hb2, hb3, hb4⟩ := openBytes he hq hc2 (hx k (by omega)).2
        refine ⟨ds ++ [b], by simp [h1], ?_, ?_, ?_⟩
        · intro i u hu
          rw [List.map_append, List.getElem?_append] at hu
          split at hu
          · exact h2 i u hu
          · rename_i hi
            simp at hi
            have hik : i = k := by
              have := (List.getElem?_eq_some_iff.1 hu).1
              simp at this
              omega
            subst hik
            simp [h1] at hu
            rw [(hx i (by omega)).1, ← hu]
            simp at hb1
            rw [hb1]
        · intro d hd
          rcases List.mem_append.1 hd with hd | hd
          · exact h3 d hd
          · simp at hd; subst hd; exact hb2
        · intro d hd
          rcases List.mem_append.1 hd with hd | hd
          · exact h4 d hd
          · simp at hd; subst hd; exact ⟨hb3, hb4⟩
    obtain ⟨ds, h1, h2, h3, h4⟩ := key len (Nat.le_refl _)
    subst h1
    exact ⟨some a, ds, cap, rfl, cs_of_add h2, h3, hl, hm, h4⟩
end
namespace Nm
set_option maxRecDepth 100000 in
set_option maxHeartbeats 4000000 in
theorem openSet {H : Type} {enc : TypeId × Value → H} {w : World} {base b0 : Nat} {spare : Nat → Bool} {held : Bool} {r : Reach} {v : Value} {d : DataW H} {ps : List MemPlace} (hv : Value.okWide Tryz.prog w r b0 28 v)
    (h : DataW.Trod enc Tryz.prog w base spare held 28 v d ps) :
    ∃ s : SetV, v = s.v ∧ s.ok w ∧ s.n.length ≤ s.cap ∧ s.cap ≤ maxLen ∧ (∀ l ∈ s.n, l.length ≤ maxLen) ∧ s.ds.length ≤ maxLen ∧ (∀ x ∈ s.ds, x.l.length ≤ x.cap ∧ x.cap ≤ maxLen) ∧ (Lit.int .u16 s.t).wf = true ∧ (Lit.int .u32 s.ttl).wf = true := by
  obtain ⟨cs, rfl, hcs⟩ := okWide_struct Tryz.underlying28 hv
  obtain ⟨fuel, hf⟩ := h
  obtain ⟨xs, n, _, hx, hl, hlen, hfs⟩ := DataW.trod_struct Tryz.underlying28 hf
  have hl4 : cs.toList.length = 4 := hl.trans (by kernel_rfl)
  obtain ⟨c0, c1, c2, c3, hc⟩ : ∃ c0 c1 c2 c3, cs = #[c0, c1, c2, c3] := by
    obtain ⟨l⟩ := cs
    match l, hl4 with
    | [c0, c1, c2, c3], _ => exact ⟨c0, c1, c2, c3, rfl⟩
  subst hc
  have e0 : Tryz.prog.cellsOf 23 = 1 := by kernel_rfl
  have e1 : Tryz.prog.cellsOf 24 = 1 := by kernel_rfl
  have e2 : Tryz.prog.cellsOf 25 = 1 := by kernel_rfl
  have e3 : Tryz.prog.cellsOf 26 = 1 := by kernel_rfl
  have e4 : Tryz.prog.cellsOf 9 = 1 := by kernel_rfl
  have e5 : Tryz.prog.cellsOf 31 = 1 := by kernel_rfl
  have e6 : Tryz.prog.cellsOf 5 = 1 := by kernel_rfl
  have hvl : (Value.agg #[c0, c1, c2, c3]).cells.toList = [c0, c1, c2, c3] := rfl
  rw [hvl] at hfs
  match xs, hlen with
  | [y0, y1, y2, y3], _ =>
    have f0 := hfs 0 _ rfl
    have f1 := hfs 1 _ rfl
    have f2 := hfs 2 _ rfl
    have f3 := hfs 3 _ rfl
    clear hfs
    change DataW.trod enc Tryz.prog w base spare held n 23 (List.take (Tryz.prog.cellsOf 23) [c0, c1, c2, c3]) = some y0 at f0
    change DataW.trod enc Tryz.prog w base spare held n 24 (List.take (Tryz.prog.cellsOf 24) [c1, c2, c3]) = some y1 at f1
    change DataW.trod enc Tryz.prog w base spare held n 25 (List.take (Tryz.prog.cellsOf 25) [c2, c3]) = some y2 at f2
    change DataW.trod enc Tryz.prog w base spare held n 26 (List.take (Tryz.prog.cellsOf 26) [c3]) = some y3 at f3
    rw [e0] at f0
    rw [e1] at f1
    rw [e2] at f2
    rw [e3] at f3
    obtain ⟨A, m, cap, h1, h2, h3, h4, h5⟩ := openName Tryz.underlying23 Tryz.underlying9 e4 f0
    obtain ⟨k1, g1, _, w1⟩ := DataW.trod_int Tryz.underlying24 f1
    obtain ⟨k2, g2, _, w2⟩ := DataW.trod_int Tryz.underlying25 f2
    obtain ⟨D, ds, dcap, j1, j2, j3, j4, j5, j6⟩ := openBlobs Tryz.underlying26 e5 Tryz.underlying31 Tryz.underlying5 e6 f3
    simp at h1 g1 g2 j1
    subst h1 g1 g2 j1
    exact ⟨⟨A, m, cap, k1, k2, D, ds, dcap⟩, rfl, ⟨h2, j2, j3⟩, h3, h4, h5, Nat.le_trans j4 j5, j6, w1, w2⟩
end Nm
end Go.Proofs.YtkeimgamjnpcbaaGreat

/- Parameters that are signatures: opened. -/
namespace Go.Proofs.YtkeimgamjnpcbaaGreat
open Go.RowKit Go.ChangeShapes Go.WideShapes
set_option linter.unusedVariables false
namespace Nm
/-- a signature's numbers are in range -/
structure SigM.small (g : SigM) : Prop where
  t : g.t < 65536
  al : g.al < 256
  lb : g.lb < 256
  ttl : g.ttl < 4294967296
  ex : g.ex < 4294967296
  bg : g.bg < 4294967296
  tg : g.tg < 65536
theorem nat_of {k : Int} {m : Int} (h : 0 ≤ k ∧ k ≤ m) : ∃ n : Nat, k = n ∧ (n : Int) ≤ m := ⟨k.toNat, by omega, by omega⟩
set_option maxRecDepth 100000 in
set_option maxHeartbeats 8000000 in
theorem openSig {H : Type} {enc : TypeId × Value → H} {w : World} {base b0 : Nat} {spare : Nat → Bool} {held : Bool} {r : Reach} {v : Value} {d : DataW H} {ps : List MemPlace} (hv : Value.okWide Tryz.prog w r b0 33 v)
    (h : DataW.Trod enc Tryz.prog w base spare held 33 v d ps) :
    ∃ (g : SigM) (A : Option Addr) (cap : Nat) (S : Option Addr) (sc : Nat), v = g.v A cap S sc ∧ g.small ∧ Cs w A (g.n.map strV) ∧ g.n.length ≤ cap ∧ cap ≤ maxLen ∧ (∀ l ∈ g.n, l.length ≤ maxLen) ∧ Cs w S (g.s.map byteV) ∧ g.s.length ≤ sc ∧ sc ≤ maxLen := by
  obtain ⟨cs, rfl, hcs⟩ := okWide_struct Tryz.underlying33 hv
  obtain ⟨fuel, hf⟩ := h
  obtain ⟨xs, n, _, hx, hl, hlen, hfs⟩ := DataW.trod_struct Tryz.underlying33 hf
  have hl9 : cs.toList.length = 9 := hl.trans (by kernel_rfl)
  obtain ⟨c0, c1, c2, c3, c4, c5, c6, c7, c8, hc⟩ : ∃ c0 c1 c2 c3 c4 c5 c6 c7 c8, cs = #[c0, c1, c2, c3, c4, c5, c6, c7, c8] := by
    obtain ⟨l⟩ := cs
    match l, hl9 with
    | [c0, c1, c2, c3, c4, c5, c6, c7, c8], _ => exact ⟨c0, c1, c2, c3, c4, c5, c6, c7, c8, rfl⟩
  subst hc
  have e0 : Tryz.prog.cellsOf 23 = 1 := by kernel_rfl
  have e1 : Tryz.prog.cellsOf 24 = 1 := by kernel_rfl
  have e2 : Tryz.prog.cellsOf 25 = 1 := by kernel_rfl
  have e4 : Tryz.prog.cellsOf 9 = 1 := by kernel_rfl
  have e5 : Tryz.prog.cellsOf 31 = 1 := by kernel_rfl
  have e6 : Tryz.prog.cellsOf 5 = 1 := by kernel_rfl
  have hvl : (Value.agg #[c0, c1, c2, c3, c4, c5, c6, c7, c8]).cells.toList = [c0, c1, c2, c3, c4, c5, c6, c7, c8] := rfl
  rw [hvl] at hfs
  match xs, hlen with
  | [y0, y1, y2, y3, y4, y5, y6, y7, y8], _ =>
    have f0 := hfs 0 _ rfl
    have f1 := hfs 1 _ rfl
    have f2 := hfs 2 _ rfl
    have f3 := hfs 3 _ rfl
    have f4 := hfs 4 _ rfl
    have f5 := hfs 5 _ rfl
    have f6 := hfs 6 _ rfl
    have f7 := hfs 7 _ rfl
    have f8 := hfs 8 _ rfl
    clear hfs
    change DataW.trod enc Tryz.prog w base spare held n 24 (List.take (Tryz.prog.cellsOf 24) [c0, c1, c2, c3, c4, c5, c6, c7, c8]) = some y0 at f0
    change DataW.trod enc Tryz.prog w base spare held n 5 (List.take (Tryz.prog.cellsOf 5) [c1, c2, c3, c4, c5, c6, c7, c8]) = some y1 at f1
    change DataW.trod enc Tryz.prog w base spare held n 5 (List.take (Tryz.prog.cellsOf 5) [c2, c3, c4, c5, c6, c7, c8]) = some y2 at f2
    change DataW.trod enc Tryz.prog w base spare held n 25 (List.take (Tryz.prog.cellsOf 25) [c3, c4, c5, c6, c7, c8]) = some y3 at f3
    change DataW.trod enc Tryz.prog w base spare held n 25 (List.take (Tryz.prog.cellsOf 25) [c4, c5, c6, c7, c8]) = some y4 at f4
    change DataW.trod enc Tryz.prog w base spare held n 25 (List.take (Tryz.prog.cellsOf 25) [c5, c6, c7, c8]) = some y5 at f5
    change DataW.trod enc Tryz.prog w base spare held n 24 (List.take (Tryz.prog.cellsOf 24) [c6, c7, c8]) = some y6 at f6
    change DataW.trod enc Tryz.prog w base spare held n 23 (List.take (Tryz.prog.cellsOf 23) [c7, c8]) = some y7 at f7
    change DataW.trod enc Tryz.prog w base spare held n 31 (List.take (Tryz.prog.cellsOf 31) [c8]) = some y8 at f8
    rw [e1] at f0 f6
    rw [e6] at f1 f2
    rw [e2] at f3 f4 f5
    rw [e0] at f7
    rw [e5] at f8
    obtain ⟨k0, g0, _, w0⟩ := DataW.trod_int Tryz.underlying24 f0
    obtain ⟨k1, g1, _, w1⟩ := DataW.trod_int Tryz.underlying5 f1
    obtain ⟨k2, g2, _, w2⟩ := DataW.trod_int Tryz.underlying5 f2
    obtain ⟨k3, g3, _, w3⟩ := DataW.trod_int Tryz.underlying25 f3
    obtain ⟨k4, g4, _, w4⟩ := DataW.trod_int Tryz.underlying25 f4
    obtain ⟨k5, g5, _, w5⟩ := DataW.trod_int Tryz.underlying25 f5
    obtain ⟨k6, g6, _, w6⟩ := DataW.trod_int Tryz.underlying24 f6
    obtain ⟨A, m, cap, h1, h2, h3, h4, h5⟩ := openName Tryz.underlying23 Tryz.underlying9 e4 f7
    obtain ⟨b, j1, j2, j3, j4⟩ := openBytes Tryz.underlying31 Tryz.underlying5 e6 f8
    obtain ⟨n0, rfl, b0⟩ := nat_of (bounds_u16 w0)
    obtain ⟨n1, rfl, b1⟩ := nat_of (bounds_u8 w1)
    obtain ⟨n2, rfl, b2⟩ := nat_of (bounds_u8 w2)
    obtain ⟨n3, rfl, b3⟩ := nat_of (bounds_u32 w3)
    obtain ⟨n4, rfl, b4⟩ := nat_of (bounds_u32 w4)
    obtain ⟨n5, rfl, b5⟩ := nat_of (bounds_u32 w5)
    obtain ⟨n6, rfl, b6⟩ := nat_of (bounds_u16 w6)
    simp at g0 g1 g2 g3 g4 g5 g6 h1 j1
    subst g0 g1 g2 g3 g4 g5 g6 h1 j1
    exact ⟨⟨n0, n1, n2, n3, n4, n5, n6, m, b.l⟩, A, cap, b.A, b.cap, rfl, ⟨(by omega : n0 < 65536), (by omega : n1 < 256), (by omega : n2 < 256), (by omega : n3 < 4294967296), (by omega : n4 < 4294967296), (by omega : n5 < 4294967296), (by omega : n6 < 65536)⟩, h2, h3, h4, h5, j2, j3, j4⟩
end Nm
end Go.Proofs.YtkeimgamjnpcbaaGreat
