/-
  The walk of CanonFresh: light sets.
-/
import Derived.Test.YtkeimgamjnpcbaaGreatFresh2
import Derived.Test.YtkeimgamjnpcbaaGreatHelp2
import Derived.Test.YtkeimgamjnpcbaaGreatBlob
namespace Go.Proofs.YtkeimgamjnpcbaaGreat
open Go.RowKit
set_option linter.unusedVariables false
namespace Nm
def lightS (s : SetV) (sn : List Lab) : Bool := decide (s.ds.length ≤ 10) && lightN s.n && lightN sn && s.ds.all (fun d => decide (d.l.length ≤ 500))
def LightL (ds : List Blob) (w : World) (i : Value) (wr : World) : Prop :=
  ∃ k : Nat, k ≤ ds.length ∧ i = .int .i64 k ∧ (∀ d ∈ ds.take k, d.l.length ≤ 500) ∧ w = wr
set_option maxRecDepth 100000 in
set_option maxHeartbeats 20000000 in
theorem Light (s : SetV) (A : Option Addr) (sn : List Lab) (cap : Nat) (w : World) (hs : s.ok w) (hc : Cs w A (sn.map strV)) (hl1 : s.n.length ≤ maxLen) (hl2 : ∀ l ∈ s.n, l.length ≤ maxLen) (hl3 : sn.length ≤ maxLen) (hl4 : ∀ l ∈ sn, l.length ≤ maxLen) (hl5 : ∀ d ∈ s.ds, d.l.length ≤ maxLen) (hl6 : s.ds.length ≤ maxLen) :
    Calls Tryz.prog 13 #[s.v, .agg #[.int .u16 0, .int .u8 0, .int .u8 0, .int .u32 0, .int .u32 0, .int .u32 0, .int .u16 0, .slice A sn.length cap, .slice none 0 0]] w fun e w' =>
      e = .returned (.bool (lightS s sn)) ∧ Below w.heap.size w w' := by
  unfold SetV.v
  generalize hw2 : (w.alloc (.cells #[.slice s.A s.n.length s.cap, .int .u16 s.t, .int .u32 s.ttl, .slice s.D s.ds.length s.dcap] 28)).alloc (.cells #[.int .u16 0, .int .u8 0, .int .u8 0, .int .u32 0, .int .u32 0, .int .u32 0, .int .u16 0, .slice A sn.length cap, .slice none 0 0] 33) = w2
  have hb2 : Below w.heap.size w w2 := by rw [← hw2]; exact ((Below.refl _ _).alloc (Nat.le_refl _) _).alloc (by simp) _
  have hsz2 : w2.heap.size = w.heap.size + 2 := by rw [← hw2]; simp
  have hq : w2.heap[w.heap.size]? = some (.cells #[.slice s.A s.n.length s.cap, .int .u16 s.t, .int .u32 s.ttl, .slice s.D s.ds.length s.dcap] 28 (0, 0)) := by
    rw [← hw2]
    have := heap_alloc_new w (.cells #[.slice s.A s.n.length s.cap, .int .u16 s.t, .int .u32 s.ttl, .slice s.D s.ds.length s.dcap] 28)
    rw [Below.heap_alloc _ _ _ (by simp)]
    exact this
  have hgq : w2.heap[w.heap.size + 1]? = some (.cells #[.int .u16 0, .int .u8 0, .int .u8 0, .int .u32 0, .int .u32 0, .int .u32 0, .int .u16 0, .slice A sn.length cap, .slice none 0 0] 33 (0, 0)) := by
    have := heap_alloc_new (w.alloc (.cells #[.slice s.A s.n.length s.cap, .int .u16 s.t, .int .u32 s.ttl, .slice s.D s.ds.length s.dcap] 28)) (.cells #[.int .u16 0, .int .u8 0, .int .u8 0, .int .u32 0, .int .u32 0, .int .u32 0, .int .u16 0, .slice A sn.length cap, .slice none 0 0] 33)
    rw [World.size_alloc] at this
    rw [← hw2]; exact this
  have s0 : w2.cell? ⟨w.heap.size, 0, none⟩ = some (.slice s.A s.n.length s.cap) := by rw [cell_of_row _ _ 0 _ _ _ hq]; rfl
  have s3 : w2.cell? ⟨w.heap.size, 3, none⟩ = some (.slice s.D s.ds.length s.dcap) := by rw [cell_of_row _ _ 3 _ _ _ hq]; rfl
  obtain ⟨k0, k1, k2, k3, k4, k5, k6, k7, k8, kf⟩ := cells9 hgq
  have HN := Lib.hid (hs.1.below hb2)
  have HD := Lib.hid (hs.2.1.below hb2)
  have HC := Lib.hid (hc.below hb2)
  have HL1 := Lib.hid (HLight s.A s.n s.cap w2 HN.out hl1 hl2)
  have HL2 := Lib.hid (HLight A sn cap w2 HC.out hl3 hl4)
  have H5 := Lib.hid hl5
  have HV : Hid (∀ b c : Bool, lightN s.n = b → lightN sn = c → s.ds.length ≤ 10 → lightS s sn = (b && c && s.ds.all (fun d => decide (d.l.length ≤ 500)))) := Lib.hid (by
    intro b c h1 h2 h3
    unfold lightS
    rw [h1, h2, decide_eq_true h3, Bool.true_and])
  have HV2 : Hid (10 < s.ds.length → lightS s sn = false) := Lib.hid (by
    intro h
    unfold lightS
    rw [decide_eq_false (by omega)]
    rfl)
  generalize hln : lightN s.n = b1 at *
  generalize hls : lightN sn = b2 at *
  have hds : (s.ds.length : Int) ≤ 9223372036854775807 := by unfold maxLen at hl6; omega
  have HVV := Lib.hid (HV.out b1 b2 rfl rfl)
  clear hs hc hq hgq hl1 hl2 hl3 hl4 hl5 hl6 HV
  generalize hds2 : s.ds = ds at *
  by_cases h10 : 10 < ds.length
  · have hv := HV2.out h10
    have hd : decide (10 < (ds.length : Int)) = true := decide_eq_true (by omega)
    generalize lightS s sn = r at *
    subst hv
    go_enter Tryz.func13, Tryz.ntmps13
    go_wp2_with fail
    go_ret
    exact ⟨rfl, hb2⟩
  · have hvv := HVV.out (by omega)
    have hd : decide (10 < (ds.length : Int)) = false := decide_eq_false (by omega)
    generalize lightS s sn = r at *
    subst hvv
    cases b1
    · have hvf : (false && b2 && ds.all (fun d => decide (d.l.length ≤ 500))) = false := by simp
      rw [hvf]
      go_enter Tryz.func13, Tryz.ntmps13
      go_wp2_with fail
      refine HL1.out.mono ?_
      rintro e w3 ⟨rfl, rfl⟩
      clear hw2
      go_wp2_with fail
      go_ret
      exact ⟨rfl, hb2⟩
    · cases b2
      · have hvf : (true && false && ds.all (fun d => decide (d.l.length ≤ 500))) = false := by simp
        rw [hvf]
        go_enter Tryz.func13, Tryz.ntmps13
        go_wp2_with fail
        refine HL1.out.mono ?_
        rintro e w3 ⟨rfl, rfl⟩
        clear hw2
        go_wp2_with fail
        refine HL2.out.mono ?_
        rintro e w3 ⟨rfl, rfl⟩
        go_wp2_with fail
        go_ret
        exact ⟨rfl, hb2⟩
      · rw [Bool.true_and, Bool.true_and]
        obtain ⟨r, hr⟩ : ∃ r, r = ds.all (fun d => decide (d.l.length ≤ 500)) := ⟨_, rfl⟩
        rw [← hr]
        have HR := Lib.hid hr.symm
        clear hr
        go_enter Tryz.func13, Tryz.ntmps13
        go_wp2_with fail
        refine HL1.out.mono ?_
        rintro e w3 ⟨rfl, rfl⟩
        clear hw2
        go_wp2_with fail
        refine HL2.out.mono ?_
        rintro e w3 ⟨rfl, rfl⟩
        go_wp2_with fail
        go_loopw [5] (LightL ds w2) (fun i _ => ds.length - (intOf i).toNat)
        case atStart => exact ⟨0, Nat.zero_le _, rfl, by simp, rfl⟩
        case round =>
          obtain ⟨k, hk, rfl, hdk, rfl⟩ := hrel
          have HK := Lib.hid hdk
          clear hdk
          have hlD : ds.length ≤ 10 := by omega
          by_cases hlt : k < ds.length
          · obtain ⟨bk, off, hA, hbl, hc0⟩ := Cs.blob HD.out hlt
            have hl5' := H5.out ds[k] (List.getElem_mem hlt)
            have HM : Hid (ds[k] ∈ ds) := Lib.hid (List.getElem_mem hlt)
            have HN2 : Hid (∀ d ∈ ds.take (k + 1), d ∈ ds.take k ∨ d = ds[k]) := Lib.hid (by
              intro l hl
              rw [List.take_succ_eq_append_getElem hlt, List.mem_append] at hl
              simpa only [List.mem_singleton] using hl)
            generalize ds[k] = d at *
            unfold maxLen at hl5'
            rw [hA] at s3
            by_cases h3 : 500 < d.l.length
            · have hvf : r = false := by
                rw [← HR.out]
                rw [List.all_eq_false]
                exact ⟨d, HM.out, by simp; omega⟩
              subst hvf
              have hdd : decide (500 < (d.l.length : Int)) = true := decide_eq_true (by omega)
              go_wp2_with fail
              go_ret
              exact ⟨rfl, hb2⟩
            · have hdd : decide (500 < (d.l.length : Int)) = false := decide_eq_false (by omega)
              go_wp2_with fail
              refine ⟨⟨k + 1, by omega, by go_num, ?_, rfl⟩, by simp [intOf]; omega⟩
              intro x hx
              rcases HN2.out x hx with h | h
              · exact HK.out x h
              · rw [h]; omega
          · have hkn : k = ds.length := by omega
            have hvt : r = true := by
              rw [← HR.out, List.all_eq_true]
              intro d hd2
              have := HK.out d (by rw [hkn, List.take_length]; exact hd2)
              simpa using this
            subst hvt
            rw [hkn]
            go_wp2_with fail
            go_ret
            exact ⟨rfl, hb2⟩
end Nm
end Go.Proofs.YtkeimgamjnpcbaaGreat
