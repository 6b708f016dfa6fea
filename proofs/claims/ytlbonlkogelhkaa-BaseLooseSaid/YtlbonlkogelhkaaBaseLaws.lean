/-
  The walks of the laws of layer 2 (signetlaw2): each returns true, and writes nothing that was there.
-/
import Derived.Test.YtlbonlkogelhkaaBaseFace
namespace Go.Proofs.Ytlbonlkogelhkaa
open Go.RowKit
set_option linter.unusedVariables false
namespace Base

theorem encB_size (s : Nat) (l : List UInt8) : (encB s l).size = BaseM.cnt s l.length := by
  simp [encB, ByteArray.size, BaseM.enc_length]
theorem cnt_le {s n : Nat} (hs : s = 4 ∨ s = 5) (h : n ≤ 500) : BaseM.cnt s n ≤ 1000 := by
  unfold BaseM.cnt; rcases hs with rfl | rfl <;> omega
theorem bytes_lt (l : List UInt8) : ∀ d ∈ l.map UInt8.toNat, d < 256 := by
  intro d hd
  obtain ⟨c, _, rfl⟩ := List.mem_map.1 hd
  exact UInt8.toNat_lt _
theorem strN_encB {s : Nat} (hs : s = 4 ∨ s = 5) (l : List UInt8) : strN (encB s l) = BaseM.enc s (l.map UInt8.toNat) := by
  unfold strN encB
  simp only
  rw [nats_back]
  intro d hd
  unfold BaseM.enc at hd
  obtain ⟨x, hx, rfl⟩ := List.mem_map.1 hd
  have h1 := BaseM.encD_lt _ x hx
  have h2 : x < 32 := by rcases hs with rfl | rfl <;> omega
  have := BaseM.dch_lt h2
  omega
theorem sp_enc {s : Nat} (hs : s = 4 ∨ s = 5) (l : List UInt8) : Sp s (encB s l) l 0 :=
  .inr ⟨by rw [strN_encB hs, BaseM.dec_enc hs _ (bytes_lt l)], rfl⟩

set_option maxHeartbeats 1000000 in
theorem BaseReads (s : ByteArray) (w : World) : Calls Try.prog 8 #[.string s] w fun e w' => e = .returned (.bool true) ∧ Below w.heap.size w w' := by
  by_cases hlen : 500 < s.size
  · have hlen' : (500 : Int) < (s.size : Int) := by omega
    go_enter Try.func8, Try.ntmps8
    go_wp2_with (go_at_call 22; refine (known _).mono ?_; rintro e w1 ⟨rfl, hb1⟩)
    go_ret
    exact ⟨rfl, hb1⟩
  · have hlen' : (s.size : Int) ≤ 500 := by omega
    have hs : s.size ≤ 1000000 := by omega
    obtain ⟨l5, c5, hsp5⟩ := sp_ex 5 s
    obtain ⟨l4, c4, hsp4⟩ := sp_ex 4 s
    have H5 := Lib.hid hsp5
    have H4 := Lib.hid hsp4
    clear hsp5 hsp4
    go_enter Try.func8, Try.ntmps8
    go_wp2_with (go_at_call 22; refine (known _).mono ?_; rintro e w1 ⟨rfl, hb1⟩)
    go_wp2_with fail
    refine (OpenHex32 _ _ _ _ H5.out hs).mono ?_
    rintro e w2 ⟨A2, cap2, rfl, hc2, hb2⟩
    go_wp2_with fail
    refine (RefOpenHex32 _ _ _ _ H5.out hs).mono ?_
    rintro e w3 ⟨A3, cap3, rfl, hc3, hb3⟩
    go_wp2_with fail
    refine (OpenHex _ _ _ _ H4.out hs).mono ?_
    rintro e w4 ⟨A4, cap4, rfl, hc4, hb4⟩
    go_wp2_with fail
    refine (RefOpenHex _ _ _ _ H4.out hs).mono ?_
    rintro e w5 ⟨A5, cap5, rfl, hc5, hb5⟩
    have hx2 := ((hc2.below hb3).below hb4).below hb5
    have hx3 := (hc3.below hb4).below hb5
    have hx4 := hc4.below hb5
    have b1 := hb1.trans (hb2.mono hb1.size)
    have b2 := b1.trans (hb3.mono b1.size)
    have b3 := b2.trans (hb4.mono b2.size)
    have b4 := b3.trans (hb5.mono b3.size)
    clear hc2 hc3 hc4 hb1 hb2 hb3 hb4 hb5 b1 b2 b3
    go_wp2_with fail
    refine (bytesEq _ _ _ _ _ _ _ hx2 hx3).mono ?_
    rintro e w6 ⟨rfl, rfl⟩
    go_wp2_with fail
    refine (bytesEq _ _ _ _ _ _ _ hx4 hc5).mono ?_
    rintro e w6 ⟨rfl, rfl⟩
    go_wp2_with fail
    go_ret
    exact ⟨ret_bool (by simp), b4⟩

set_option maxHeartbeats 1000000 in
theorem BaseWrites (A : Option Addr) (l : List UInt8) (cap : Nat) (w : World) (hc : Cs w A (l.map byteV)) : Calls Try.prog 7 #[.slice A l.length cap] w fun e w' => e = .returned (.bool true) ∧ Below w.heap.size w w' := by
  by_cases hlen : 500 < l.length
  · have hlen' : (500 : Int) < (l.length : Int) := by omega
    go_enter Try.func7, Try.ntmps7
    go_wp2_with (go_at_call 22; refine (known _).mono ?_; rintro e w1 ⟨rfl, hb1⟩)
    go_ret
    exact ⟨rfl, hb1⟩
  · have hlen' : (l.length : Int) ≤ 500 := by omega
    have hl : l.length ≤ 1000000 := by omega
    have H5 := Lib.hid (sp_enc (.inr rfl) l : Sp 5 (encB 5 l) l 0)
    have H4 := Lib.hid (sp_enc (.inl rfl) l : Sp 4 (encB 4 l) l 0)
    have S5 : (encB 5 l).size ≤ 1000000 := by rw [encB_size]; have := cnt_le (s := 5) (.inr rfl) (show l.length ≤ 500 by omega); omega
    have S4 : (encB 4 l).size ≤ 1000000 := by rw [encB_size]; have := cnt_le (s := 4) (.inl rfl) (show l.length ≤ 500 by omega); omega
    go_enter Try.func7, Try.ntmps7
    go_wp2_with (go_at_call 22; refine (known _).mono ?_; rintro e w1 ⟨rfl, hb1⟩)
    have hc1 := hc.below hb1
    go_wp2_with fail
    refine (Hex32 _ _ _ _ hc1 hl).mono ?_
    rintro e w2 ⟨rfl, hb2⟩
    have hc2 := hc1.below hb2
    go_wp2_with fail
    refine (Hex _ _ _ _ hc2 hl).mono ?_
    rintro e w3 ⟨rfl, hb3⟩
    have hc3 := hc2.below hb3
    go_wp2_with fail
    refine (OpenHex32 _ _ _ _ H5.out S5).mono ?_
    rintro e w4 ⟨A4, cap4, rfl, hd4, hb4⟩
    have hc4 := hc3.below hb4
    go_wp2_with fail
    refine (OpenHex _ _ _ _ H4.out S4).mono ?_
    rintro e w5 ⟨A5, cap5, rfl, hd5, hb5⟩
    have hc5 := hc4.below hb5
    have hx4 := hd4.below hb5
    have b1 := hb1.trans (hb2.mono hb1.size)
    have b2 := b1.trans (hb3.mono b1.size)
    have b3 := b2.trans (hb4.mono b2.size)
    have b4 := b3.trans (hb5.mono b3.size)
    clear hc1 hc2 hc3 hc4 hd4 hb1 hb2 hb3 hb4 hb5 b1 b2 b3
    go_wp2_with fail
    refine (RefHex32 _ _ _ _ hc5 hl).mono ?_
    rintro e w6 ⟨rfl, hb6⟩
    have hc6 := hc5.below hb6
    have b6 := b4.trans (hb6.mono b4.size)
    have hx46 := hx4.below hb6
    have hx56 := hd5.below hb6
    clear hc5 b4 hx4 hd5 hb6
    go_wp2_with fail
    refine (RefHex _ _ _ _ hc6 hl).mono ?_
    rintro e w7 ⟨rfl, hb7⟩
    have hc7 := hc6.below hb7
    have b7 := b6.trans (hb7.mono b6.size)
    have hx47 := hx46.below hb7
    have hx57 := hx56.below hb7
    clear hc6 b6 hx46 hx56 hb7
    go_wp2_with fail
    refine (bytesEq _ _ _ _ _ _ _ hx47 hc7).mono ?_
    rintro e w8 ⟨rfl, rfl⟩
    go_wp2_with fail
    refine (bytesEq _ _ _ _ _ _ _ hx57 hc7).mono ?_
    rintro e w8 ⟨rfl, rfl⟩
    go_wp2_with fail
    go_ret
    exact ⟨ret_bool (by simp), b7⟩

/-- a row of bytes that came in reads as a list of bytes -/
theorem cs_of_row {w : World} {a : Option Addr} {len cap : Nat} {zs : List Int}
    (h : (a = none ∧ len = 0 ∧ cap = 0 ∧ zs = []) ∨ ∃ x, a = some x ∧ len ≤ cap ∧ cap ≤ maxLen ∧ zs.length = cap ∧ (∀ i, i < zs.length → w.cell? (x.add i) = some (.int .u8 (zs.getD i 0))) ∧ ∀ n ∈ zs, (Lit.int .u8 n).wf = true) :
    ∃ l : List UInt8, l.length = len ∧ Cs w a (l.map byteV) := by
  rcases h with ⟨rfl, rfl, rfl, rfl⟩ | ⟨x, rfl, hl, hm, hz, hcell, hwz⟩
  · exact ⟨[], rfl, Cs.nil _ _⟩
  · refine ⟨(zs.take len).map fun n => UInt8.ofNat n.toNat, by simp; omega, ?_⟩
    intro i u hu
    rw [List.map_map, List.getElem?_map, List.getElem?_take] at hu
    by_cases hi : i < len
    · rw [if_pos hi] at hu
      have hiz : i < zs.length := by omega
      rw [List.getElem?_eq_getElem hiz] at hu
      simp only [Option.map_some, Option.some.injEq, Function.comp_apply] at hu
      have hn := bounds_u8 (hwz zs[i] (List.getElem_mem hiz))
      have hu' : u = .int .u8 zs[i] := by
        rw [← hu]
        unfold byteV
        congr 1
        simp
        omega
      have hc := hcell i hiz
      obtain ⟨b, off, spot⟩ := x
      have hspot : spot = none := by
        have h0 := hcell 0 (by omega)
        have := World.cell?_spot h0
        simpa [Addr.add] using this
      subst hspot
      refine ⟨b, off, rfl, ?_, ?_⟩
      · have := World.block_lt_of_cell? w _ hc
        rw [add_plain] at this
        exact this
      · rw [← add_plain, hc, hu', List.getD_eq_getElem?_getD, List.getElem?_eq_getElem hiz]
        rfl
    · rw [if_neg hi] at hu
      cases hu

end Base
end Go.Proofs.Ytlbonlkogelhkaa
