/-
  Texts merged by a program (RChk, RefP, RCan6, Bytes, BytesS, Ord, SortG, CompB, Zone1).
-/
import Derived.Test.YthogembgndkmpaaGreatDoorShelf
import Derived.Lib.BytesEntry
import Derived.Shelf.SlSortCmp.NoneTotal
import Derived.Sort.Statements
import Derived.Test.YthogembgndkmpaaGreatDoorHk1
import Derived.Test.YthogembgndkmpaaGreatDoorHk2
import Derived.Test.YthogembgndkmpaaGreatDoorHk3
import Derived.Test.YthogembgndkmpaaGreatDoorHk5
import Derived.Test.YthogembgndkmpaaGreatDoorHk6
import Derived.Test.YthogembgndkmpaaGreatDoorHk8
set_option linter.unusedSimpArgs false
set_option linter.unusedVariables false
/- signetref3.CheckData, at the types of a seat's records. -/
namespace Go.Proofs.YthogembgndkmpaaGreatDoor
open Go.RowKit
namespace Nm
def goodT (t : Nat) : Prop := t = 1 ∨ t = 28 ∨ t = 15 ∨ t = 16 ∨ t = 2 ∨ t = 5 ∨ t = 43 ∨ t = 6 ∨ t = 99
theorem rk1 (b : Lab) : chk ((1 : Nat) : Int) b = (decide (b.length ≤ 8192) && (b.length == 4)) := rfl
theorem rk28 (b : Lab) : chk ((28 : Nat) : Int) b = (decide (b.length ≤ 8192) && (b.length == 16)) := rfl
theorem rk2 (b : Lab) : chk ((2 : Nat) : Int) b = (decide (b.length ≤ 8192) && wholeB b) := rfl
theorem rk5 (b : Lab) : chk ((5 : Nat) : Int) b = (decide (b.length ≤ 8192) && wholeB b) := rfl
theorem rk15 (b : Lab) : chk ((15 : Nat) : Int) b = (decide (b.length ≤ 8192) && (decide (2 ≤ b.length) && wholeB (b.drop 2))) := rfl
theorem rk6 (b : Lab) : chk ((6 : Nat) : Int) b = (decide (b.length ≤ 8192) && soaB b) := rfl
theorem rk16 (b : Lab) : chk ((16 : Nat) : Int) b = (decide (b.length ≤ 8192) && (!b.isEmpty && txt b 0)) := rfl
theorem rk43 (b : Lab) : chk ((43 : Nat) : Int) b = (decide (b.length ≤ 8192) && decide (5 ≤ b.length)) := rfl
theorem rk99 (b : Lab) : chk ((99 : Nat) : Int) b = (decide (b.length ≤ 8192) && true) := rfl
theorem whole_nil : wholeB ([] : Lab) = false := by unfold wholeB openO; rw [parse_nil]
def TxtR (b : Lab) (w : World) (v : Value) (wr : World) : Prop := ∃ k : Nat, v = .int .i64 (k : Int) ∧ k ≤ b.length + 256 ∧ ((k ≤ b.length ∧ txt b 0 = txt b k) ∨ (b.length < k ∧ txt b 0 = false)) ∧ wr = w
set_option maxRecDepth 100000 in
set_option maxHeartbeats 4000000 in
theorem RCheck (t : Nat) (ht : goodT t) (A : Option Addr) (b : Lab) (cap : Nat) (w : World) (hc : Cs w A (b.map byteV)) (hb : b.length ≤ 100000) (hcap : b.length ≤ cap) (hcap2 : cap ≤ maxLen) :
    Calls Tryz.prog 75 #[.int .u16 (t : Int), .slice A b.length cap] w fun e w' => Below w.heap.size w w' ∧ e = .returned (.int .i64 (code50 (chk t b))) := by
  go_enter Tryz.func75, Tryz.ntmps75
  rcases ht with rfl | rfl | rfl | rfl | rfl | rfl | rfl | rfl | rfl
  · have HK := Lib.hid (rk1 b)
    cases hX : ((b.length : Int) == 4)
    · have hx2 : (b.length == 4) = false := by simp at hX ⊢; omega
      rw [hx2] at HK
      go_wp2_with fail
      go_ret
      exact ⟨Below.refl _ _, by rw [HK.out]; simp [code50]⟩
    · have hx2 : (b.length == 4) = true := by simp at hX ⊢; omega
      have h8 : b.length ≤ 8192 := by simp at hx2; omega
      rw [hx2] at HK
      clear hx2
      go_wp2_with fail
      go_ret
      exact ⟨Below.refl _ _, by rw [HK.out]; simp [code50, h8]⟩
  · have HK := Lib.hid (rk28 b)
    cases hX : ((b.length : Int) == 16)
    · have hx2 : (b.length == 16) = false := by simp at hX ⊢; omega
      rw [hx2] at HK
      go_wp2_with fail
      go_ret
      exact ⟨Below.refl _ _, by rw [HK.out]; simp [code50]⟩
    · have hx2 : (b.length == 16) = true := by simp at hX ⊢; omega
      have h8 : b.length ≤ 8192 := by simp at hx2; omega
      rw [hx2] at HK
      clear hx2
      go_wp2_with fail
      go_ret
      exact ⟨Below.refl _ _, by rw [HK.out]; simp [code50, h8]⟩
  · have HK := Lib.hid (rk15 b)
    by_cases h2 : 2 < b.length
    · obtain ⟨bk, off, rfl, hbl, _⟩ := Cs.byte hc h2
      have hW : Hid (Calls Tryz.prog 95 #[.slice (some ⟨bk, off + 2, none⟩) (b.length - 2) (cap - 2)] w fun e w' => e = .returned (.bool (wholeB (b.drop 2))) ∧ Below w.heap.size w w') := Lib.hid (by
        have h := hc.drop' 2 cap (by simpa using hcap)
        rw [← List.map_drop, if_neg (by omega), Option.map_some, add_plain] at h
        have h2 := RWhole (some ⟨bk, off + 2, none⟩) (b.drop 2) (cap - 2) w h (by rw [List.length_drop]; omega) (by rw [List.length_drop]; omega) (by omega)
        rw [List.length_drop] at h2
        exact h2)
      have h2i : (2 : Int) < (b.length : Int) := by omega
      have h2c : ¬ cap = 2 := by omega
      go_wp2_with fail
      refine hW.out.mono ?_
      rintro e w' ⟨rfl, hbw⟩
      generalize wholeB (b.drop 2) = X at *
      have h22 : 2 ≤ b.length := by omega
      cases X
      · go_wp2_with fail
        go_ret
        exact ⟨hbw, by rw [HK.out]; simp [code50]⟩
      · by_cases h8 : b.length ≤ 8192
        · go_wp2_with fail
          go_ret
          exact ⟨hbw, by rw [HK.out]; simp [code50, h8, h22]⟩
        · go_wp2_with fail
          go_ret
          exact ⟨hbw, by rw [HK.out]; simp [code50, h8]⟩
    · have hX : (decide (2 ≤ b.length) && wholeB (b.drop 2)) = false := by
        by_cases h22 : b.length = 2
        · rw [List.drop_eq_nil_of_le (by omega), whole_nil, Bool.and_false]
        · have h3 : decide (2 ≤ b.length) = false := by simp; omega
          rw [h3, Bool.false_and]
      rw [hX] at HK
      clear hX
      have h2i : ((b.length : Int) > 2) = False := by simp; omega
      go_wp2_with fail
      go_ret
      exact ⟨Below.refl _ _, by rw [HK.out]; simp [code50]⟩
  · have HK := Lib.hid (rk16 b)
    go_wp2_with fail
    go_loopw [8] (fun v wr => TxtR b w v wr) (fun v _ => b.length + 256 - (intOf v).toNat)
    case atStart => exact ⟨0, rfl, by omega, .inl ⟨Nat.zero_le _, rfl⟩, rfl⟩
    case round =>
      obtain ⟨k, rfl, hk, hcase, hwr⟩ := hrel
      rw [hwr]
      clear hwr
      by_cases hlt : k < b.length
      · obtain ⟨bk, off, rfl, hbl, c0⟩ := hc.byte (l := b) (i := k) hlt
        have hst := txt_step hlt
        have hx := UInt8.toNat_lt b[k]
        have hT : txt b 0 = txt b k := by
          rcases hcase with ⟨_, h⟩ | ⟨h, _⟩
          · exact h
          · omega
        have HT := Lib.hid (hT.trans hst)
        clear hcase hst hT
        generalize b[k].toNat = x at *
        go_wp2_with fail
        refine ⟨⟨k + 1 + x, by go_num, by omega, ?_, rfl⟩, by simp [intOf]; omega⟩
        by_cases hle : k + 1 + x ≤ b.length
        · exact .inl ⟨hle, by rw [HT.out]; simp [hle]⟩
        · exact .inr ⟨by omega, by rw [HT.out]; simp [hle]⟩
      · have HC := Lib.hid hcase
        clear hcase
        cases he : b.isEmpty
        · have h0 : ¬ b = [] := by simpa using he
          have hpos : 0 < b.length := List.length_pos_iff.2 h0
          have hposi : (0 : Int) < (b.length : Int) := by omega
          rw [he] at HK
          clear he h0
          by_cases hkl : k = b.length
          · subst hkl
            have hT : txt b 0 = true := by
              rcases HC.out with ⟨_, h⟩ | ⟨h, _⟩
              · rw [h]; exact txt_end (Nat.lt_irrefl _)
              · omega
            rw [hT] at HK
            clear hT
            by_cases h8 : b.length ≤ 8192
            · go_wp2_with fail
              go_ret
              exact ⟨Below.refl _ _, by rw [HK.out]; simp [code50, h8]⟩
            · go_wp2_with fail
              go_ret
              exact ⟨Below.refl _ _, by rw [HK.out]; simp [code50, h8]⟩
          · have hT : txt b 0 = false := by
              rcases HC.out with ⟨h, _⟩ | ⟨_, h⟩
              · omega
              · exact h
            rw [hT] at HK
            clear hT
            have hne : ((k : Int) == (b.length : Int)) = false := by simp; omega
            go_wp2_with fail
            go_ret
            exact ⟨Below.refl _ _, by rw [HK.out]; simp [code50]⟩
        · have h0 : b = [] := by simpa using he
          subst h0
          go_wp2_with fail
          go_ret
          exact ⟨Below.refl _ _, by rw [HK.out]; simp [code50]⟩
  · have HK := Lib.hid (rk2 b)
    have hW := Lib.hid (RWhole A b cap w hc hb hcap hcap2)
    go_wp2_with fail
    refine hW.out.mono ?_
    rintro e w' ⟨rfl, hbw⟩
    generalize wholeB b = X at *
    cases X
    · go_wp2_with fail
      go_ret
      exact ⟨hbw, by rw [HK.out]; simp [code50]⟩
    · by_cases h8 : b.length ≤ 8192
      · go_wp2_with fail
        go_ret
        exact ⟨hbw, by rw [HK.out]; simp [code50, h8]⟩
      · go_wp2_with fail
        go_ret
        exact ⟨hbw, by rw [HK.out]; simp [code50, h8]⟩
  · have HK := Lib.hid (rk5 b)
    have hW := Lib.hid (RWhole A b cap w hc hb hcap hcap2)
    go_wp2_with fail
    refine hW.out.mono ?_
    rintro e w' ⟨rfl, hbw⟩
    generalize wholeB b = X at *
    cases X
    · go_wp2_with fail
      go_ret
      exact ⟨hbw, by rw [HK.out]; simp [code50]⟩
    · by_cases h8 : b.length ≤ 8192
      · go_wp2_with fail
        go_ret
        exact ⟨hbw, by rw [HK.out]; simp [code50, h8]⟩
      · go_wp2_with fail
        go_ret
        exact ⟨hbw, by rw [HK.out]; simp [code50, h8]⟩
  · have HK := Lib.hid (rk43 b)
    by_cases h5 : 5 ≤ b.length
    · have h5i : (5 : Int) ≤ (b.length : Int) := by omega
      by_cases h8 : b.length ≤ 8192
      · go_wp2_with fail
        go_ret
        exact ⟨Below.refl _ _, by rw [HK.out]; simp [code50, h8, h5]⟩
      · go_wp2_with fail
        go_ret
        exact ⟨Below.refl _ _, by rw [HK.out]; simp [code50, h8]⟩
    · have h5i : ¬ (5 : Int) ≤ (b.length : Int) := by omega
      go_wp2_with fail
      go_ret
      exact ⟨Below.refl _ _, by rw [show chk 43 b = _ from HK.out]; simp [code50, h5]⟩
  · have HK := Lib.hid (rk6 b)
    have hS := Lib.hid (RSoa A b cap w hc hb hcap hcap2)
    go_wp2_with fail
    refine hS.out.mono ?_
    rintro e w4 ⟨hb4, v, rfl, hp⟩
    clear hS
    cases hso : soaB b with
    | false =>
      obtain rfl := hp.1 hso
      rw [hso] at HK
      clear hp
      go_wp2_with fail
      go_ret
      exact ⟨hb4.trans (((Below.refl _ _).alloc (Nat.le_refl _) _).mono hb4.size), by rw [HK.out]; simp [code50]⟩
    | true =>
      obtain ⟨Am, ca, Bx, cb, hv, _, _⟩ := hp.2 hso
      obtain ⟨M, X, n1, n2, n3, n4, n5, hsm⟩ : ∃ M X n1 n2 n3 n4 n5, soaM b = ⟨M, X, n1, n2, n3, n4, n5⟩ := ⟨_, _, _, _, _, _, _, rfl⟩
      rw [hsm] at hv
      unfold SoaM.v at hv
      simp only at hv
      subst hv
      rw [hso] at HK
      clear hp hsm
      by_cases h8 : b.length ≤ 8192
      · go_wp2_with fail
        go_ret
        exact ⟨hb4.trans (((Below.refl _ _).alloc (Nat.le_refl _) _).mono hb4.size), by rw [HK.out]; simp [code50, h8]⟩
      · go_wp2_with fail
        go_ret
        exact ⟨hb4.trans (((Below.refl _ _).alloc (Nat.le_refl _) _).mono hb4.size), by rw [HK.out]; simp [code50, h8]⟩
  · have HK := Lib.hid (rk99 b)
    by_cases h8 : b.length ≤ 8192
    · go_wp2_with fail
      go_ret
      exact ⟨Below.refl _ _, by rw [HK.out]; simp [code50, h8]⟩
    · go_wp2_with fail
      go_ret
      exact ⟨Below.refl _ _, by rw [HK.out]; simp [code50, h8]⟩
end Nm
end Go.Proofs.YthogembgndkmpaaGreatDoor

/- Contracts of the reference of data: Put, SoaBytes. -/
namespace Go.Proofs.YthogembgndkmpaaGreatDoor
open Go.RowKit
namespace Nm
set_option maxRecDepth 100000 in
set_option maxHeartbeats 4000000 in
theorem RPut2 (B : Nat) (v : Value) (m : Nat) (xs : Lab) (n : Nat) (w : World) (hown : w.ownsRow B 5 1 v m (xs.map byteV)) (hB : B ≤ w.heap.size) (hm : m ≤ 100000000) (hn : n < 4294967296) :
    Calls Tryz.prog 11 #[v, .int .u32 n, .int .i64 2] w fun e w' => ∃ v', e = .returned v' ∧ w'.ownsRow B 5 1 v' (m + 2) ((xs ++ be2 n).map byteV) ∧ Moved v w v' w' := by
  obtain ⟨i0, hi, hz0, hz1, hz2⟩ := info_parts info_u8
  have tok1 : True := trivial
  have tok2 : True := trivial
  go_enter Tryz.func11, Tryz.ntmps11
  go_wp2_with fail
  refine wp_loop_rounds 3 ?_
  rw [rounds_succ]
  go_wp2_with (first | (at_builtin; have _t := tok1; refine wpList_push3 hown hB [.int .u8 ((n : Int) / 256 % 256)] rfl (by simp [Value.oneCell']) hi hz0 hz1 hz2 rfl (by decide) rfl (.tmp 14) _ 28 Tryz.underlying28 rfl rfl rfl (by unfold maxLen; omega) (by omega) ?_; intro v1 w1 hown1 hbw1; clear tok1; have hbs1 := hbw1.kept.size))
  rw [rounds_succ]
  have hB1 := Nat.le_trans hB hbs1
  go_wp2_with (first | (at_builtin; have _t := tok2; refine wpList_push3 hown1 hB1 [.int .u8 ((n : Int) % 256)] rfl (by simp [Value.oneCell']) hi hz0 hz1 hz2 rfl (by decide) rfl (.tmp 14) _ 28 Tryz.underlying28 rfl rfl rfl (by unfold maxLen; omega) (by omega) ?_; intro v2 w2 hown2 hbw2; clear tok2; have hbs2 := Nat.le_trans hbs1 hbw2.kept.size))
  rw [rounds_succ]
  go_wp2_with fail
  go_ret
  refine ⟨_, rfl, ?_, hbw1.trans hbw2⟩
  have e1 := byteV_mod (n / 256)
  have e2 := byteV_mod n
  rw [show ((n / 256 : Nat) : Int) = (n : Int) / 256 from by omega] at e1
  rw [List.map_append]
  show w2.ownsRow B 5 1 v2 (m + 1 + 1) (xs.map byteV ++ [byteV (UInt8.ofNat (n / 256)), byteV (UInt8.ofNat n)])
  rw [e1, e2, show [Value.int .u8 ((n : Int) / 256 % 256), Value.int .u8 ((n : Int) % 256)] = [Value.int .u8 ((n : Int) / 256 % 256)] ++ [Value.int .u8 ((n : Int) % 256)] from rfl, ← List.append_assoc]
  exact hown2
set_option maxRecDepth 100000 in
set_option maxHeartbeats 4000000 in
theorem RPut4 (B : Nat) (v : Value) (m : Nat) (xs : Lab) (n : Nat) (w : World) (hown : w.ownsRow B 5 1 v m (xs.map byteV)) (hB : B ≤ w.heap.size) (hm : m ≤ 100000000) (hn : n < 4294967296) :
    Calls Tryz.prog 11 #[v, .int .u32 n, .int .i64 4] w fun e w' => ∃ v', e = .returned v' ∧ w'.ownsRow B 5 1 v' (m + 4) ((xs ++ be4 n).map byteV) ∧ Moved v w v' w' := by
  obtain ⟨i0, hi, hz0, hz1, hz2⟩ := info_parts info_u8
  have tok1 : True := trivial
  have tok2 : True := trivial
  have tok3 : True := trivial
  have tok4 : True := trivial
  go_enter Tryz.func11, Tryz.ntmps11
  go_wp2_with fail
  refine wp_loop_rounds 5 ?_
  rw [rounds_succ]
  go_wp2_with (first | (at_builtin; have _t := tok1; refine wpList_push3 hown hB [.int .u8 ((n : Int) / 16777216)] rfl (by simp [Value.oneCell']) hi hz0 hz1 hz2 rfl (by decide) rfl (.tmp 14) _ 28 Tryz.underlying28 rfl rfl rfl (by unfold maxLen; omega) (by omega) ?_; intro v1 w1 hown1 hbw1; clear tok1; have hbs1 := hbw1.kept.size))
  have hB1 := Nat.le_trans hB hbs1
  rw [rounds_succ]
  go_wp2_with (first | (at_builtin; have _t := tok2; refine wpList_push3 hown1 hB1 [.int .u8 ((n : Int) / 65536 % 256)] rfl (by simp [Value.oneCell']) hi hz0 hz1 hz2 rfl (by decide) rfl (.tmp 14) _ 28 Tryz.underlying28 rfl rfl rfl (by unfold maxLen; omega) (by omega) ?_; intro v2 w2 hown2 hbw2; clear tok2; have hbs2 := Nat.le_trans hbs1 hbw2.kept.size))
  have hB2 := Nat.le_trans hB hbs2
  rw [rounds_succ]
  go_wp2_with (first | (at_builtin; have _t := tok3; refine wpList_push3 hown2 hB2 [.int .u8 ((n : Int) / 256 % 256)] rfl (by simp [Value.oneCell']) hi hz0 hz1 hz2 rfl (by decide) rfl (.tmp 14) _ 28 Tryz.underlying28 rfl rfl rfl (by unfold maxLen; omega) (by omega) ?_; intro v3 w3 hown3 hbw3; clear tok3; have hbs3 := Nat.le_trans hbs2 hbw3.kept.size))
  have hB3 := Nat.le_trans hB hbs3
  rw [rounds_succ]
  go_wp2_with (first | (at_builtin; have _t := tok4; refine wpList_push3 hown3 hB3 [.int .u8 ((n : Int) % 256)] rfl (by simp [Value.oneCell']) hi hz0 hz1 hz2 rfl (by decide) rfl (.tmp 14) _ 28 Tryz.underlying28 rfl rfl rfl (by unfold maxLen; omega) (by omega) ?_; intro v4 w4 hown4 hbw4; clear tok4; have hbs4 := Nat.le_trans hbs3 hbw4.kept.size))
  have hB4 := Nat.le_trans hB hbs4
  rw [rounds_succ]
  go_wp2_with fail
  go_ret
  refine ⟨_, rfl, ?_, ((hbw1.trans hbw2).trans hbw3).trans hbw4⟩
  have e1 := byteV_mod (n / 16777216)
  have e2 := byteV_mod (n / 65536)
  have e3 := byteV_mod (n / 256)
  have e4 := byteV_mod n
  rw [show ((n / 16777216 : Nat) : Int) % 256 = (n : Int) / 16777216 from by omega] at e1
  rw [show ((n / 65536 : Nat) : Int) = (n : Int) / 65536 from by omega] at e2
  rw [show ((n / 256 : Nat) : Int) = (n : Int) / 256 from by omega] at e3
  rw [List.map_append]
  show w4.ownsRow B 5 1 v4 (m + 1 + 1 + 1 + 1) (xs.map byteV ++ [byteV (UInt8.ofNat (n / 16777216)), byteV (UInt8.ofNat (n / 65536)), byteV (UInt8.ofNat (n / 256)), byteV (UInt8.ofNat n)])
  rw [e1, e2, e3, e4]
  simpa [List.append_assoc] using hown4
set_option maxRecDepth 100000 in
set_option maxHeartbeats 20000000 in
theorem RSoaBytes (g : SoaM) (hg : g.fits) (A B : Option Addr) (ca cb : Nat) (w : World) (hA : Cs w A (g.m.map strV)) (hB : Cs w B (g.x.map strV)) :
    Calls Tryz.prog 48 #[g.v A ca B cb] w fun e w' => ∃ v, e = .returned v ∧ w'.ownsRow w.heap.size 5 1 v g.bytes.length (g.bytes.map byteV) ∧ Below w.heap.size w w' := by
  obtain ⟨i0, hi, hz0, hz1, hz2⟩ := info_parts info_u8
  unfold SoaM.v
  have hb1 : Below w.heap.size w (w.alloc (.cells #[.slice A g.m.length ca, .slice B g.x.length cb, .int .u32 g.s1, .int .u32 g.s2, .int .u32 g.s3, .int .u32 g.s4, .int .u32 g.s5] 76)) := (Below.refl _ _).alloc (Nat.le_refl _) _
  have hblk := heap_alloc_new w (.cells #[.slice A g.m.length ca, .slice B g.x.length cb, .int .u32 g.s1, .int .u32 g.s2, .int .u32 g.s3, .int .u32 g.s4, .int .u32 g.s5] 76)
  obtain ⟨k0, k1, k2, k3, k4, k5, k6, _⟩ := cells7 hblk
  have hsz : (w.alloc (.cells #[.slice A g.m.length ca, .slice B g.x.length cb, .int .u32 g.s1, .int .u32 g.s2, .int .u32 g.s3, .int .u32 g.s4, .int .u32 g.s5] 76)).heap.size = w.heap.size + 1 := by simp
  go_enter Tryz.func48, Tryz.ntmps48
  go_wp2_with fail
  generalize w.alloc (.cells #[.slice A g.m.length ca, .slice B g.x.length cb, .int .u32 g.s1, .int .u32 g.s2, .int .u32 g.s3, .int .u32 g.s4, .int .u32 g.s5] 76) = w1 at *
  have hwm := wire_len_few hg.m
  have hwx := wire_len_few hg.x
  have HWA : Hid (∀ W, Below w1.heap.size w1 W → Calls Tryz.prog 31 #[.slice A g.m.length ca] W fun e w' => ∃ v, e = .returned v ∧ w'.ownsRow W.heap.size 5 1 v (wire g.m).length ((wire g.m).map byteV) ∧ Below W.heap.size W w') := Lib.hid fun W hW => RWire A g.m ca W ((hA.below hb1).below hW) hg.m
  have HWB : Hid (∀ W, Below w1.heap.size w1 W → Calls Tryz.prog 31 #[.slice B g.x.length cb] W fun e w' => ∃ v, e = .returned v ∧ w'.ownsRow W.heap.size 5 1 v (wire g.x).length ((wire g.x).map byteV) ∧ Below W.heap.size W w') := Lib.hid fun W hW => RWire B g.x cb W ((hB.below hb1).below hW) hg.x
  have HBY : Hid (∀ a b, wire g.m = a → wire g.x = b → g.bytes = a ++ b ++ be4 g.s1 ++ be4 g.s2 ++ be4 g.s3 ++ be4 g.s4 ++ be4 g.s5) := Lib.hid fun a b h1 h2 => by rw [← h1, ← h2]; rfl
  clear hA hB hblk
  generalize hwa : wire g.m = a at *
  generalize hwb : wire g.x = b at *
  have HB2 := Lib.hid (HBY.out a b rfl rfl)
  have HG := Lib.hid hg
  clear HBY hwa hwb hg
  refine wp_region_x (by kernel_rfl) (by kernel_rfl) w1.heap.size (Nat.le_refl _) [.c (.is (.pointer (some ⟨w.heap.size, 0, none⟩))), .c (.is (.slice A g.m.length ca)), .c (.own w1.heap.size 5 1 a.length (a.map byteV)), .c (.is (.pointer (some ⟨w.heap.size, 1, none⟩))), .c (.is (.slice B g.x.length cb)), .c (.own w1.heap.size 5 1 b.length (b.map byteV)),
    .c (.own w1.heap.size 5 1 (a.length + b.length) ((a ++ b).map byteV)), .d [6] (fun vs => .is (vs 6))] (by kernel_rfl) (fun i => if i = 6 then 2 else 0) (fun j => if j = 2 ∨ j = 5 ∨ j = 6 then 1 else 0) (by kernel_rfl) ?_ (fun _ => True) trivial (fun _ _ _ _ => trivial) (fun _ _ _ _ => trivial) ?_ ?_
  · intro j vals
    rcases j with _ | _ | _ | _ | _ | _ | _ | _ | j
    all_goals first
      | exact plain_is _
      | exact kind_own _ _ _ _ _ _ (Nat.le_refl _)
      | (rw [if_neg (by omega)]; exact plain_any)
  · intro i o hio vals W hE haf _
    have e0 := (bcl (o := 0) hE (by omega)).trans k0
    have e1 := (bcl (o := 1) hE (by omega)).trans k1
    rcases i with _ | _ | _ | _ | _ | _ | _ | _ | i
    all_goals first
      | (exfalso; simp at hio; done)
      | skip
    all_goals
      simp at hio
      subst hio
      simp [bindD, rdB, Region.binds, dfAt, DF.d_at] at haf
    all_goals first
      | (simp [opYield_def, yieldUpon, relAct, dstAt, Act.put, Region.wanted, go_sem, haf, e0, e1, Ext.refl, dfAt, DF.d_at, kindX]; done)
      | skip
    · simp [opYield_def, yieldUpon, relAct, dstAt, Act.put, Region.wanted, go_sem, haf, dfAt, DF.d_at, kindX]
      refine (HWA.out W hE).mono fun e W' h5 => ?_
      obtain ⟨v, he, ho, hb⟩ := h5
      exact ⟨v, he, hb, own_base ho hE.size⟩
    · simp [opYield_def, yieldUpon, relAct, dstAt, Act.put, Region.wanted, go_sem, haf, dfAt, DF.d_at, kindX]
      refine (HWB.out W hE).mono fun e W' h5 => ?_
      obtain ⟨v, he, ho, hb⟩ := h5
      exact ⟨v, he, hb, own_base ho hE.size⟩
    · obtain ⟨h2, h5⟩ := haf
      obtain ⟨A5, c5, e5, _, hc5⟩ := Cs.of_own h5
      refine yield_bytes rfl (.tmp 6) (.tmp 9) Tryz.underlying28 rfl (v := vals 2) (by simp [relAct, dstAt, Act.put, Act.eval]) h2 hE.size (us := b.map byteV) (A := A5) (c := c5) (by simp [relAct, dstAt, Act.put, Act.eval, e5]) hc5 (byteV_one b) (by simp; omega) ?_
      intro v' W' g1 g2
      refine ⟨g2, ?_⟩
      show W'.ownsRow w1.heap.size 5 1 v' (a.length + b.length) ((a ++ b).map byteV)
      rw [List.map_append]
      simpa using g1
  · intro vals W hE hF
    have h6 := hF 6 (by show 6 < 8; omega) (by kernel_rfl)
    have h7 := hF 7 (by show 7 < 8; omega) (by kernel_rfl)
    simp only [dfAt, DF.d_at] at h6 h7
    have h6 : W.ownsRow w1.heap.size 5 1 (vals 6) (a.length + b.length) ((a ++ b).map byteV) := h6
    have h7 : vals 7 = vals 6 := by simpa [DF.d_at] using h7
    simp [relAct, dstAt, Act.put]
    rw [h7]
    clear hF h7 HWA HWB
    generalize vals 6 = v6 at *
    generalize vals 0 = v0
    generalize vals 1 = v1
    generalize vals 2 = v2
    generalize vals 3 = v3
    generalize vals 4 = v4
    generalize vals 5 = v5
    have r2 := (bcl (o := 2) hE (by omega)).trans k2
    have r3 := (bcl (o := 3) hE (by omega)).trans k3
    have r4 := (bcl (o := 4) hE (by omega)).trans k4
    have r5 := (bcl (o := 5) hE (by omega)).trans k5
    have r6 := (bcl (o := 6) hE (by omega)).trans k6
    have hBW := hE.size
    clear k0 k1 k2 k3 k4 k5 k6
    go_wp2_with fail
    refine wp_region_x (by kernel_rfl) (by kernel_rfl) w1.heap.size hBW [.c (.is v6), .c (.is (.pointer (some ⟨w.heap.size, 2, none⟩))), .c (.is (.int .u32 g.s1)), .c (.own w1.heap.size 5 1 (a.length + b.length + 4) ((a ++ b ++ be4 g.s1).map byteV)),
      .c (.is (.pointer (some ⟨w.heap.size, 3, none⟩))), .c (.is (.int .u32 g.s2)), .c (.own w1.heap.size 5 1 (a.length + b.length + 4 + 4) ((a ++ b ++ be4 g.s1 ++ be4 g.s2).map byteV)),
      .c (.is (.pointer (some ⟨w.heap.size, 4, none⟩))), .c (.is (.int .u32 g.s3)), .c (.own w1.heap.size 5 1 (a.length + b.length + 4 + 4 + 4) ((a ++ b ++ be4 g.s1 ++ be4 g.s2 ++ be4 g.s3).map byteV)),
      .c (.is (.pointer (some ⟨w.heap.size, 5, none⟩))), .c (.is (.int .u32 g.s4)), .c (.own w1.heap.size 5 1 (a.length + b.length + 4 + 4 + 4 + 4) ((a ++ b ++ be4 g.s1 ++ be4 g.s2 ++ be4 g.s3 ++ be4 g.s4).map byteV)),
      .c (.is (.pointer (some ⟨w.heap.size, 6, none⟩))), .c (.is (.int .u32 g.s5)), .c (.own w1.heap.size 5 1 (a.length + b.length + 4 + 4 + 4 + 4 + 4) ((a ++ b ++ be4 g.s1 ++ be4 g.s2 ++ be4 g.s3 ++ be4 g.s4 ++ be4 g.s5).map byteV)),
      .d [15] (fun vs => .is (vs 15))] (by kernel_rfl) (fun i => if i = 3 ∨ i = 6 ∨ i = 9 ∨ i = 12 ∨ i = 15 then 3 else 0) (fun j => if j = 3 ∨ j = 6 ∨ j = 9 ∨ j = 12 ∨ j = 15 then 3 else 0) (by kernel_rfl) ?_
      (fun W' => W'.ownsRow w1.heap.size 5 1 v6 (a.length + b.length) ((a ++ b).map byteV)) h6 (fun W W' hE h => own_below h hE) (fun W' W'' hE h => Kept.row h (Kept.of_below hE) (fun b hb e => by have := (h6.lt b hb).2; omega)) ?_ ?_
    · intro j vals
      rcases j with _ | _ | _ | _ | _ | _ | _ | _ | _ | _ | _ | _ | _ | _ | _ | _ | _ | j
      all_goals first
        | exact plain_is _
        | exact trivial
        | (rw [if_neg (by omega)]; exact plain_any)
    · intro i o hio vals W' hC haf hI0
      have e2 := (bcl (o := 2) hC (by omega)).trans r2
      have e3 := (bcl (o := 3) hC (by omega)).trans r3
      have e4 := (bcl (o := 4) hC (by omega)).trans r4
      have e5 := (bcl (o := 5) hC (by omega)).trans r5
      have e6 := (bcl (o := 6) hC (by omega)).trans r6
      have hBW' := Nat.le_trans hBW hC.size
      rcases i with _ | _ | _ | _ | _ | _ | _ | _ | _ | _ | _ | _ | _ | _ | _ | _ | _ | i
      all_goals first
        | (exfalso; simp at hio; done)
        | skip
      all_goals
        simp at hio
        subst hio
        simp [bindD, rdB, Region.binds, dfAt, DF.d_at] at haf
      all_goals first
        | (simp [opYield_def, yieldUpon, relAct, dstAt, Act.put, Region.wanted, go_sem, haf, e2, e3, e4, e5, e6, Ext.refl, dfAt, DF.d_at, kindX]; done)
        | skip
      · have hI := hI0 (fun k hk hk2 => by
          by_cases h3 : k = 3
          · exact .inl h3
          · by_cases h6 : k = 6
            · subst h6; exact .inr (by kernel_rfl)
            · by_cases h9 : k = 9
              · subst h9; exact .inr (by kernel_rfl)
              · by_cases h12 : k = 12
                · subst h12; exact .inr (by kernel_rfl)
                · by_cases h15 : k = 15
                  · subst h15; exact .inr (by kernel_rfl)
                  · exfalso; simp [h3, h6, h9, h12, h15] at hk2)
        simp [opYield_def, yieldUpon, relAct, dstAt, Act.put, Region.wanted, go_sem, haf, dfAt, DF.d_at, kindX]
        refine (RPut4 w1.heap.size v6 (a.length + b.length) (a ++ b) g.s1 W' hI hBW' (by omega) HG.out.s1).mono fun e W'' h5 => ?_
        obtain ⟨v, he, ho, hm⟩ := h5
        exact ⟨v, he, hm.below hI hBW', by simpa [List.map_append] using ho⟩
      · obtain ⟨h3, h5⟩ := haf
        have h3 : W'.ownsRow w1.heap.size 5 1 (vals 3) (a.length + b.length + 4) ((a ++ b ++ be4 g.s1).map byteV) := by simpa [List.map_append] using h3
        simp [opYield_def, yieldUpon, relAct, dstAt, Act.put, Region.wanted, go_sem, h5, dfAt, DF.d_at, kindX]
        refine (RPut4 w1.heap.size (vals 3) _ _ g.s2 W' h3 hBW' (by omega) HG.out.s2).mono fun e W'' h5 => ?_
        obtain ⟨v, he, ho, hm⟩ := h5
        exact ⟨v, he, hm.below h3 hBW', by simpa [List.map_append] using ho⟩
      · obtain ⟨h3, h5⟩ := haf
        have h3 : W'.ownsRow w1.heap.size 5 1 (vals 6) (a.length + b.length + 4 + 4) ((a ++ b ++ be4 g.s1 ++ be4 g.s2).map byteV) := by simpa [List.map_append] using h3
        simp [opYield_def, yieldUpon, relAct, dstAt, Act.put, Region.wanted, go_sem, h5, dfAt, DF.d_at, kindX]
        refine (RPut4 w1.heap.size (vals 6) _ _ g.s3 W' h3 hBW' (by omega) HG.out.s3).mono fun e W'' h5 => ?_
        obtain ⟨v, he, ho, hm⟩ := h5
        exact ⟨v, he, hm.below h3 hBW', by simpa [List.map_append] using ho⟩
      · obtain ⟨h3, h5⟩ := haf
        have h3 : W'.ownsRow w1.heap.size 5 1 (vals 9) (a.length + b.length + 4 + 4 + 4) ((a ++ b ++ be4 g.s1 ++ be4 g.s2 ++ be4 g.s3).map byteV) := by simpa [List.map_append] using h3
        simp [opYield_def, yieldUpon, relAct, dstAt, Act.put, Region.wanted, go_sem, h5, dfAt, DF.d_at, kindX]
        refine (RPut4 w1.heap.size (vals 9) _ _ g.s4 W' h3 hBW' (by omega) HG.out.s4).mono fun e W'' h5 => ?_
        obtain ⟨v, he, ho, hm⟩ := h5
        exact ⟨v, he, hm.below h3 hBW', by simpa [List.map_append] using ho⟩
      · obtain ⟨h3, h5⟩ := haf
        have h3 : W'.ownsRow w1.heap.size 5 1 (vals 12) (a.length + b.length + 4 + 4 + 4 + 4) ((a ++ b ++ be4 g.s1 ++ be4 g.s2 ++ be4 g.s3 ++ be4 g.s4).map byteV) := by simpa [List.map_append] using h3
        simp [opYield_def, yieldUpon, relAct, dstAt, Act.put, Region.wanted, go_sem, h5, dfAt, DF.d_at, kindX]
        refine (RPut4 w1.heap.size (vals 12) _ _ g.s5 W' h3 hBW' (by omega) HG.out.s5).mono fun e W'' h5 => ?_
        obtain ⟨v, he, ho, hm⟩ := h5
        exact ⟨v, he, hm.below h3 hBW', by simpa [List.map_append] using ho⟩
    · intro vals W' hC hF
      have h15 := hF 15 (by show 15 < 17; omega) (by kernel_rfl)
      have h16 := hF 16 (by show 16 < 17; omega) (by kernel_rfl)
      simp only [dfAt, DF.d_at] at h15 h16
      have h15 : W'.ownsRow w1.heap.size 5 1 (vals 15) (a.length + b.length + 4 + 4 + 4 + 4 + 4) ((a ++ b ++ be4 g.s1 ++ be4 g.s2 ++ be4 g.s3 ++ be4 g.s4 ++ be4 g.s5).map byteV) := h15
      have h16 : vals 16 = vals 15 := by simpa [DF.d_at] using h16
      have hbF := hb1.trans ((hE.trans hC).mono (by omega))
      simp [relAct, dstAt, Act.put]
      rw [h16]
      clear hF h16
      generalize vals 15 = v15 at *
      go_wp2_with fail
      go_ret
      refine ⟨_, rfl, ?_, hbF⟩
      rw [HB2.out]
      have hl : (a ++ b ++ be4 g.s1 ++ be4 g.s2 ++ be4 g.s3 ++ be4 g.s4 ++ be4 g.s5).length = a.length + b.length + 4 + 4 + 4 + 4 + 4 := by simp only [List.length_append]; rfl
      rw [hl]
      exact own_base h15 (by omega)
end Nm
end Go.Proofs.YthogembgndkmpaaGreatDoor

/- signetref3.Canon of a SOA. (Printed by a program out of XCanon6.) -/
namespace Go.Proofs.YthogembgndkmpaaGreatDoor
open Go.RowKit
namespace Nm
set_option maxRecDepth 100000 in
set_option maxHeartbeats 20000000 in
theorem RCanon6 (A : Option Addr) (l : Lab) (cap : Nat) (w : World) (hc : Cs w A (l.map byteV)) (hl : l.length ≤ 100000) (hcap : l.length ≤ cap) (hcap2 : cap ≤ maxLen) :
    Calls Tryz.prog 54 #[.int .u16 6, .slice A l.length cap] w fun e w' =>
      Below w.heap.size w w' ∧ ∃ v, e = .returned (.tuple #[v, .int .i64 (code50 (chk 6 l))]) ∧ w'.ownsRow w.heap.size 5 1 v (canonR 6 l).length ((canonR 6 l).map byteV) := by
  have HC := Lib.hid (RCheck 6 (by simp [goodT]) A l cap w hc hl hcap hcap2)
  cases hk : chk 6 l with
  | false =>
    have HE := Lib.hid (canonR_no hk)
    have HK := Lib.hid hk
    clear hk hc
    rw [show chk ((6 : Nat) : Int) l = _ from HK.out] at HC
    go_enter Tryz.func54, Tryz.ntmps54
    go_wp2_with fail
    refine HC.out.mono ?_
    rintro e w1 ⟨hb1, rfl⟩
    unfold code50
    go_wp2_with fail
    go_ret2
    exact ⟨hb1, _, rfl, by rw [HE.out]; exact World.ownsRow_nil _ _ _ _⟩
  | true =>
    have hsb : soaB l = true := by rw [chk6] at hk; simp at hk; exact hk.2
    have HE := Lib.hid ((canonR_yes hk).trans (canonO_soa hsb))
    have HK := Lib.hid hk
    have HSB := Lib.hid hsb
    have HF := Lib.hid (soa_fits l)
    have HSo : Hid (∀ W, Below w.heap.size w W → Calls Tryz.prog 77 #[.slice A l.length cap] W fun e w' => Below W.heap.size W w' ∧ ∃ v, e = .returned (.tuple #[v, .int .i64 (code50 (soaB l))]) ∧ SoaPost W w' l v) := Lib.hid fun W hW => RSoa A l cap W (hc.below hW) hl hcap hcap2
    rw [HSB.out] at HSo
    rw [show chk ((6 : Nat) : Int) l = _ from HK.out] at HC
    clear hk hsb hc
    unfold code50 at *
    go_enter Tryz.func54, Tryz.ntmps54
    go_wp2_with fail
    refine HC.out.mono ?_
    rintro e w1 ⟨hb1, rfl⟩
    go_wp2_with fail
    refine (HSo.out w1 hb1).mono ?_
    rintro e w2 ⟨hb2, v, rfl, hp⟩
    obtain ⟨Am, ca, Bx, cb, hv, hownM, hownX⟩ := hp.2 HSB.out
    obtain ⟨_, _, hcM⟩ : ∃ (_ : True) (_ : True), Cs w2 Am ((soaM l).m.map strV) := by
      obtain ⟨A6, c6, e6, _, h6⟩ := Cs.of_own hownM
      cases e6
      exact ⟨trivial, trivial, h6⟩
    obtain ⟨_, _, hcX⟩ : ∃ (_ : True) (_ : True), Cs w2 Bx ((soaM l).x.map strV) := by
      obtain ⟨A6, c6, e6, _, h6⟩ := Cs.of_own hownX
      cases e6
      exact ⟨trivial, trivial, h6⟩
    have hsM : Small (soaM l).m := openN_small _
    have hsX : Small (soaM l).x := openN_small _
    obtain ⟨M, X, n1, n2, n3, n4, n5, hsm⟩ : ∃ M X n1 n2 n3 n4 n5, soaM l = ⟨M, X, n1, n2, n3, n4, n5⟩ := ⟨_, _, _, _, _, _, _, rfl⟩
    rw [hsm] at hv hcM hcX hsM hsX HE HF
    unfold SoaM.v at hv
    unfold SoaM.low at HE HF
    simp only at hv hcM hcX hsM hsX HE HF
    subst hv
    have hb12 := hb1.trans (hb2.mono hb1.size)
    clear hownM hownX hp hsm
    go_wp2_with fail
    generalize hw3 : w2.alloc (.cells #[.slice Am M.length ca, .slice Bx X.length cb, .int .u32 n1, .int .u32 n2, .int .u32 n3, .int .u32 n4, .int .u32 n5] 76) = w3
    have hb3 : Below w2.heap.size w2 w3 := by rw [← hw3]; exact (Below.refl _ _).alloc (Nat.le_refl _) _
    have hz3 : w3.heap.size = w2.heap.size + 1 := by rw [← hw3]; simp
    have hg3 : w3.heap[w2.heap.size]? = some (.cells #[.slice Am M.length ca, .slice Bx X.length cb, .int .u32 n1, .int .u32 n2, .int .u32 n3, .int .u32 n4, .int .u32 n5] 76 (0, 0)) := by rw [← hw3]; exact heap_alloc_new w2 _
    have HLM : Hid (∀ W, Below w2.heap.size w3 W → Calls Tryz.prog 28 #[.slice Am M.length ca] W fun e w' => ∃ v, e = .returned v ∧ w'.ownsRow W.heap.size 9 1 v M.length ((lower M).map strV) ∧ Below W.heap.size W w') := Lib.hid fun W hW => RLower Am M ca W (hcM.below (hb3.trans hW)) hsM.few
    have HLX : Hid (∀ W, Below w2.heap.size w3 W → Calls Tryz.prog 28 #[.slice Bx X.length cb] W fun e w' => ∃ v, e = .returned v ∧ w'.ownsRow W.heap.size 9 1 v X.length ((lower X).map strV) ∧ Below W.heap.size W w') := Lib.hid fun W hW => RLower Bx X cb W (hcX.below (hb3.trans hW)) hsX.few
    have hb13 := hb12.trans (hb3.mono (by have := hb12.size; omega))
    have hzw := hb12.size
    clear hw3 hcM hcX
    generalize hgg : w2.heap.size = g at *
    refine wp_region_rel0 (by kernel_rfl) (by kernel_rfl) (fun _ _ => false) (by kernel_rfl)
      (fun i W W' => if i = 7 then ∃ v, W' = W.setCell ⟨g, 0, none⟩ v else if i = 9 then ∃ v, W' = W.setCell ⟨g, 1, none⟩ v else Ext W W')
      (fun W => Below g w3 W ∧ ∃ c0 c1, W.heap[g]? = some (.cells #[c0, c1, .int .u32 n1, .int .u32 n2, .int .u32 n3, .int .u32 n4, .int .u32 n5] 76 (0, 0)))
      (fun i v W => match i with
        | 0 => v = .pointer (some ⟨g, 0, none⟩)
        | 1 => v = .slice Am M.length ca
        | 2 => W.ownsRow w3.heap.size 9 1 v M.length ((lower M).map strV)
        | 3 => v = .pointer (some ⟨g, 1, none⟩)
        | 4 => v = .slice Bx X.length cb
        | 5 => W.ownsRow w3.heap.size 9 1 v X.length ((lower X).map strV)
        | 6 => v = .pointer (some ⟨g, 0, none⟩)
        | 7 => ∃ A5 c5, W.cell? ⟨g, 0, none⟩ = some (.slice A5 M.length c5) ∧ W.ownsRow w3.heap.size 9 1 (.slice A5 M.length c5) M.length ((lower M).map strV)
        | 8 => v = .pointer (some ⟨g, 1, none⟩)
        | 9 => ∃ A5 c5, W.cell? ⟨g, 1, none⟩ = some (.slice A5 X.length c5) ∧ W.ownsRow w3.heap.size 9 1 (.slice A5 X.length c5) X.length ((lower X).map strV)
        | _ => True)
      (fun W => W.cell? ⟨g, 0, none⟩ = some (.slice Am M.length ca) ∧ W.cell? ⟨g, 1, none⟩ = some (.slice Bx X.length cb)) (fun i => i == 7 || i == 9) ?_ ?_ ?_ ?_ ?_ ?_ ?_
    · exact ⟨(by show w3.cell? _ = _; rw [cell_of_row _ _ 0 _ _ _ hg3]; rfl), (by show w3.cell? _ = _; rw [cell_of_row _ _ 1 _ _ _ hg3]; rfl)⟩
    · intro i W W' hk hC hI hT
      have h7 : i ≠ 7 := fun h => by subst h; cases hk
      have h9 : i ≠ 9 := fun h => by subst h; cases hk
      simp only [h7, h9, if_false] at hT
      obtain ⟨_, c0, c1, hq⟩ := hC
      exact ⟨(bcl hT (lt_block hq)).trans hI.1, (bcl hT (lt_block hq)).trans hI.2⟩
    · exact ⟨⟨rfl, rfl, rfl, Nat.le_refl _, fun _ _ => rfl⟩, _, _, hg3⟩
    · intro i W W' hC hT
      obtain ⟨hb, c0, c1, hq⟩ := hC
      have hz := hb.size
      by_cases h7 : i = 7
      · simp only [h7, if_true] at hT
        obtain ⟨v, rfl⟩ := hT
        exact ⟨hb.setCell (p := ⟨g, 0, none⟩) (Nat.le_refl _) _, v, c1, heap_set hq⟩
      · by_cases h9 : i = 9
        · simp only [h9, if_true, show ¬ (9 : Nat) = 7 by omega, if_false] at hT
          obtain ⟨v, rfl⟩ := hT
          exact ⟨hb.setCell (p := ⟨g, 1, none⟩) (Nat.le_refl _) _, c0, v, heap_set hq⟩
        · simp only [h7, h9, if_false] at hT
          exact ⟨hb.trans (hT.mono (by omega)), c0, c1, (hT.block _ (lt_block hq)).trans hq⟩
    · intro i j v W W' hij _ hw hC hR hT
      obtain ⟨hb, c0, c1, hq⟩ := hC
      by_cases h79 : i = 7 ∨ i = 9
      · have hk : Kept (fun b => b = g) W W' := by
          rcases h79 with rfl | rfl
          · simp only [if_true] at hT
            obtain ⟨u, rfl⟩ := hT
            exact (Kept.refl (fun b => b = g) W).setCell (p := ⟨g, 0, none⟩) (fun _ => rfl) u
          · simp only [if_true, show ¬ (9 : Nat) = 7 by omega, if_false] at hT
            obtain ⟨u, rfl⟩ := hT
            exact (Kept.refl (fun b => b = g) W).setCell (p := ⟨g, 1, none⟩) (fun _ => rfl) u
        have hrow : ∀ {u : Value} {n : Nat} {xs : List Value}, W.ownsRow w3.heap.size 9 1 u n xs → W'.ownsRow w3.heap.size 9 1 u n xs := fun h => Kept.row h hk (fun k hk2 => by have := (h.lt k hk2).1; omega)
        rcases j with _ | _ | _ | _ | _ | _ | _ | _ | _ | _ | j
        · exact hR
        · exact hR
        · exact hrow hR
        · exact hR
        · exact hR
        · exact hrow hR
        · exact hR
        · obtain ⟨A5, c5, h1, h2⟩ := hR
          refine ⟨A5, c5, ?_, hrow h2⟩
          rcases h79 with rfl | rfl
          · exact absurd rfl hij
          · simp only [if_true, show ¬ (9 : Nat) = 7 by omega, if_false] at hT
            obtain ⟨u, rfl⟩ := hT
            rw [setc_side (by decide)]
            exact h1
        · exact hR
        · obtain ⟨A5, c5, h1, h2⟩ := hR
          refine ⟨A5, c5, ?_, hrow h2⟩
          rcases h79 with rfl | rfl
          · simp only [if_true] at hT
            obtain ⟨u, rfl⟩ := hT
            rw [setc_side (by decide)]
            exact h1
          · exact absurd rfl hij
        · trivial
      · have h7 : ¬ i = 7 := fun h => h79 (.inl h)
        have h9 : ¬ i = 9 := fun h => h79 (.inr h)
        simp only [h7, h9, if_false] at hT
        rcases j with _ | _ | _ | _ | _ | _ | _ | _ | _ | _ | j
        · exact hR
        · exact hR
        · exact own_below hR hT
        · exact hR
        · exact hR
        · exact own_below hR hT
        · exact hR
        · obtain ⟨A5, c5, h1, h2⟩ := hR
          exact ⟨A5, c5, (bcl hT (lt_block hq)).trans h1, own_below h2 hT⟩
        · exact hR
        · obtain ⟨A5, c5, h1, h2⟩ := hR
          exact ⟨A5, c5, (bcl hT (lt_block hq)).trans h1, own_below h2 hT⟩
        · trivial
    · intro i o hio vals W hC haf hI
      obtain ⟨hb, c0, c1, hq⟩ := hC
      have hz := hb.size
      have k0 : W.cell? ⟨g, 0, none⟩ = some c0 := by rw [cell_of_row _ _ 0 _ _ _ hq]; rfl
      have k1 : W.cell? ⟨g, 1, none⟩ = some c1 := by rw [cell_of_row _ _ 1 _ _ _ hq]; rfl
      have kf : ∀ i, W.frozen? ⟨g, i, none⟩ = false := (cells7 hq).2.2.2.2.2.2.2
      rcases i with _ | _ | _ | _ | _ | _ | _ | _ | _ | _ | i
      all_goals first
        | (exfalso; simp at hio; done)
        | skip
      all_goals
        simp at hio
        subst hio
        simp [bindD, rdB, Region.binds] at haf
      · simp [opYield_def, yieldUpon, relAct, dstAt, Act.put, Region.wanted, go_sem, Ext.refl]
      · have hII := hI (fun k hk h => by
          have : k = 7 ∨ k = 9 := by simpa using h
          rcases this with rfl | rfl
          · exact .inr (by kernel_rfl)
          · exact .inr (by kernel_rfl))
        simp [opYield_def, yieldUpon, relAct, dstAt, Act.put, Region.wanted, go_sem, haf, hII.1, Ext.refl]
      · simp [opYield_def, yieldUpon, relAct, dstAt, Act.put, Region.wanted, go_sem, haf]
        refine (HLM.out W hb).mono fun e W' h5 => ?_
        obtain ⟨v, he, ho, hbb⟩ := h5
        exact ⟨v, he, hbb, own_base ho hz⟩
      · simp [opYield_def, yieldUpon, relAct, dstAt, Act.put, Region.wanted, go_sem, Ext.refl]
      · have hII := hI (fun k hk h => by
          have : k = 7 ∨ k = 9 := by simpa using h
          rcases this with rfl | rfl
          · exact .inr (by kernel_rfl)
          · exact .inr (by kernel_rfl))
        simp [opYield_def, yieldUpon, relAct, dstAt, Act.put, Region.wanted, go_sem, haf, hII.2, Ext.refl]
      · simp [opYield_def, yieldUpon, relAct, dstAt, Act.put, Region.wanted, go_sem, haf]
        refine (HLX.out W hb).mono fun e W' h5 => ?_
        obtain ⟨v, he, ho, hbb⟩ := h5
        exact ⟨v, he, hbb, own_base ho hz⟩
      · simp [opYield_def, yieldUpon, relAct, dstAt, Act.put, Region.wanted, go_sem, Ext.refl]
      · obtain ⟨h1, h2⟩ := haf
        obtain ⟨A5, c5, e5, _, _⟩ := Cs.of_own h2
        have hrow := Kept.row h2 ((Kept.refl (fun b => b = g) W).setCell (p := ⟨g, 0, none⟩) (fun _ => rfl) (.slice A5 M.length c5)) (fun k hk2 => by have := (h2.lt k hk2).1; omega)
        rw [e5] at hrow
        simp [opYield_def, yieldUpon, relAct, dstAt, Act.put, Region.wanted, go_sem, h1, e5, k0, kf]
        exact ⟨⟨_, rfl⟩, A5, c5, ⟨rfl, rfl⟩, hrow⟩
      · simp [opYield_def, yieldUpon, relAct, dstAt, Act.put, Region.wanted, go_sem, Ext.refl]
      · obtain ⟨h1, h2⟩ := haf
        obtain ⟨A5, c5, e5, _, _⟩ := Cs.of_own h2
        have hrow := Kept.row h2 ((Kept.refl (fun b => b = g) W).setCell (p := ⟨g, 1, none⟩) (fun _ => rfl) (.slice A5 X.length c5)) (fun k hk2 => by have := (h2.lt k hk2).1; omega)
        rw [e5] at hrow
        simp [opYield_def, yieldUpon, relAct, dstAt, Act.put, Region.wanted, go_sem, h1, e5, k1, kf]
        exact ⟨⟨_, rfl⟩, A5, c5, ⟨rfl, rfl⟩, hrow⟩
    · intro vals W hC hR
      obtain ⟨hb, c0, c1, hq⟩ := hC
      obtain ⟨A5, c5, h7, o7⟩ := hR 7 (by show 7 < 10; omega) (fun _ _ => rfl)
      obtain ⟨A6, c6, h9, o9⟩ := hR 9 (by show 9 < 10; omega) (fun _ _ => rfl)
      obtain ⟨k0, k1, k2, k3, k4, k5, k6, _⟩ := cells7 hq
      have e0 := k0.symm.trans h7
      have e1 := k1.symm.trans h9
      cases e0
      cases e1
      simp [relAct, dstAt, Act.put]
      have hz := hb.size
      have hbW := hb13.trans (hb.mono (by omega))
      have hc7 : Cs W A5 ((lower M).map strV) := by
        obtain ⟨A8, c8, e8, _, h8⟩ := Cs.of_own o7
        cases e8
        exact h8
      have hc9 : Cs W A6 ((lower X).map strV) := by
        obtain ⟨A8, c8, e8, _, h8⟩ := Cs.of_own o9
        cases e8
        exact h8
      have hSB := RSoaBytes ⟨lower M, lower X, n1, n2, n3, n4, n5⟩ HF.out A5 A6 c5 c6 W hc7 hc9
      unfold SoaM.v at hSB
      simp only [lower_len] at hSB
      have HSB2 := Lib.hid hSB
      clear hR hSB h7 h9 hq
      generalize vals 0 = v0 at *
      generalize vals 1 = v1 at *
      generalize vals 2 = v2 at *
      generalize vals 3 = v3 at *
      generalize vals 4 = v4 at *
      generalize vals 5 = v5 at *
      generalize vals 6 = v6 at *
      generalize vals 8 = v8 at *
      go_wp2_with fail
      refine HSB2.out.mono ?_
      rintro e w9 ⟨v, rfl, ho, hbb⟩
      have hb9 := hbW.trans (hbb.mono (by omega))
      have hoF := own_base ho (show w.heap.size ≤ W.heap.size by omega)
      go_wp2_with fail
      go_ret2
      refine ⟨hb9, _, rfl, ?_⟩
      rw [HE.out]
      exact hoF
end Nm
end Go.Proofs.YthogembgndkmpaaGreatDoor

/- Contracts of package bytes: Compare, Equal; the sort of one. -/
namespace Go.Proofs.YthogembgndkmpaaGreatDoor
open Go.RowKit
namespace Nm
theorem run_bytesOf {P : Program} (w : World) {A : Option Addr} {l : Lab} (c : Nat) (h : Cs w A (l.map byteV)) : (Extern.Bytes.bytesOf (.slice A l.length c)).run P w = .ok (strB l) w := by
  cases A with
  | none =>
    have : l = [] := by simpa using h.none_nil
    subst this
    rfl
  | some a =>
    have hl := Lib.run_loadBytesX (P := P) w (l.map fun c => (c.toNat : Int)) a .empty (fun j x hj => by
      refine h.cells j _ ?_
      rw [List.getElem?_map] at hj ⊢
      cases hlj : l[j]? with
      | none => rw [hlj] at hj; cases hj
      | some y => rw [hlj] at hj; simp at hj; subst hj; rfl)
    rw [List.length_map] at hl
    show (Extern.Bytes.loadBytes a l.length .empty).run P w = _
    rw [hl]
    congr 1
    apply ByteArray.ext
    simp [strB, Lib.bytesOf]
    conv => rhs; rw [← List.map_id l]
    refine List.map_congr_left fun x _ => ?_
    simp
theorem run_bcompare {P : Program} (w : World) {A B : Option Addr} {l m : Lab} (c d : Nat) (hA : Cs w A (l.map byteV)) (hB : Cs w B (m.map byteV)) :
    (Extern.BytealgCompare.compare #[.slice A l.length c, .slice B m.length d]).run P w = .ok (.int .i64 (Lib.compareBytes l m)) w := by
  change Sem.run P (do pure (goInt (Extern.BytealgCompare.cmp (← Extern.Bytes.bytesOf (.slice A l.length c)) (← Extern.Bytes.bytesOf (.slice B m.length d))))) w = _
  simp only [Sem.run_bind, run_bytesOf w c hA, run_bytesOf w d hB, Sem.run_pure, Result.andThen]
  rw [Lib.cmp_eq]
  simp [strB, goInt]
set_option maxHeartbeats 1000000 in
theorem BCompare (A B : Option Addr) (l m : Lab) (c d : Nat) (w : World) (hA : Cs w A (l.map byteV)) (hB : Cs w B (m.map byteV)) :
    Calls Tryz.prog 65 #[.slice A l.length c, .slice B m.length d] w fun e w' => e = .returned (.int .i64 (Lib.compareBytes l m)) ∧ w = w' := by
  have hx : (callFunc 94 #[.slice A l.length c, .slice B m.length d]).run Tryz.prog w = .ok (.value (.int .i64 (Lib.compareBytes l m))) w := by
    rw [run_callFunc_extern Tryz.func94 (by kernel_rfl) (by kernel_rfl) (by kernel_rfl) (e := Extern.BytealgCompare.compare) (by kernel_rfl), run_bcompare w c d hA hB]
    rfl
  go_enter Tryz.func65, Tryz.ntmps65
  go_wp2_with fail
  go_ret
  exact ⟨rfl, rfl⟩
theorem BEqual (A B : Option Addr) (l m : Lab) (c d : Nat) (w : World) (hA : Cs w A (l.map byteV)) (hB : Cs w B (m.map byteV)) :
    Calls Tryz.prog 67 #[.slice A l.length c, .slice B m.length d] w fun e w' => e = .returned (.bool (decide (l = m))) ∧ w = w' := by
  have h1 := run_str (P := Tryz.prog) w Tryz.underlying28 Tryz.underlying5 Tryz.underlying9 c hA
  have h2 := run_str (P := Tryz.prog) w Tryz.underlying28 Tryz.underlying5 Tryz.underlying9 d hB
  go_enter Tryz.func67, Tryz.ntmps67
  go_wp2_with fail
  go_ret
  exact ⟨ret_bool (by rw [Bool.eq_iff_iff]; simp), rfl⟩
end Nm
end Go.Proofs.YthogembgndkmpaaGreatDoor

/- slices.SortFunc at one slice of bytes. -/
namespace Go.Proofs.YthogembgndkmpaaGreatDoor
open Go.RowKit
namespace Nm
theorem kept_sortWorld {α : Type} [Inhabited α] (enc : α → Value) (w : World) (g m : Nat) (dk : Array α) (os : Array Obj) : Kept (fun b => b = g) w (sortWorld enc w g 0 m dk os) := by
  refine ⟨rfl, rfl, rfl, ?_, fun k hk hn => ?_⟩
  · simp [sortWorld, Sort.grow, Sort.putRow, Sort.mapBlock, Sort.ahead]
  · have hne : g ≠ k := fun e => hn e.symm
    unfold sortWorld
    rw [Sort.heap_grow_old _ _ (by simpa [Sort.putRow, Sort.mapBlock, Sort.ahead] using hk)]
    simp [Sort.putRow, Sort.mapBlock, Sort.ahead, Array.getElem?_modify, hne]
theorem ent99 (args : Array Value) (w : World) : (callFunc 65 args).run Tryz.prog w = .ok (.enter 65 args) w := (enters_of Tryz.func65 (by kernel_rfl) rfl) args w
theorem SortB1 (g cap c : Nat) (A : Option Addr) (l : Lab) (w : World) (hcell : w.cell? ⟨g, 0, none⟩ = some (.slice A l.length c)) (hfr : w.frozen? ⟨g, 0, none⟩ = false) (hg : g < w.heap.size) (hcs : Cs w A (l.map byteV)) (hne : ∀ a, A = some a → l.map byteV ≠ [] → a.block ≠ g) :
    Calls Tryz.prog 64 #[.slice (some ⟨g, 0, none⟩) 1 cap, .func (.func 65) #[] #[]] w fun e w' => e = .returned (.tuple #[]) ∧ Kept (fun b => b = g) w w' ∧ w'.cell? ⟨g, 0, none⟩ = some (.slice A l.length c) := by
  have hH : Sort.Holds (fun _ : Unit => Value.slice A l.length c) w g 0 #[()] := by
    intro j hj
    have : j = 0 := by simpa using hj
    subst this
    exact ⟨hcell, hfr⟩
  refine (Any.slices_SortFunc_total Tryz.sortB (fun _ : Unit => Value.slice A l.length c) (fun _ => rfl) (fun _ _ => 0) ⟨fun _ => rfl, (fun _ _ _ h _ => by cases h), (fun _ _ _ _ _ => rfl)⟩ 65 #[] g 0 cap #[()] w ent99 ?_ hH hg (by decide) (fun _ _ _ _ => rfl)).mono ?_
  · intro m os dk hs x y
    have hk := kept_sortWorld (fun _ : Unit => Value.slice A l.length c) w g m dk os
    have hc2 : Cs (sortWorld (fun _ : Unit => Value.slice A l.length c) w g 0 m dk os) A (l.map byteV) := Kept.cs hcs hk hne
    refine (BCompare A A l l c c _ hc2 hc2).mono fun e w' h => ?_
    obtain ⟨h1, h2⟩ := h
    refine ⟨by rw [h1, (cb_zero l l).2 rfl], 0, #[], ?_⟩
    rw [Sort.grow_empty]
    exact h2.symm
  · intro e w' h
    obtain ⟨he, n, os, hw⟩ := h
    have hk := kept_sortWorld (fun _ : Unit => Value.slice A l.length c) w g n (([()] : List Unit).mergeSort fun x y => !(ltOf (fun _ _ : Unit => (0 : Int))) y x).toArray os
    refine ⟨he, by rw [hw]; exact hk, ?_⟩
    have hds : ((([()] : List Unit).mergeSort fun x y => !(ltOf (fun _ _ : Unit => (0 : Int))) y x).toArray).size = 1 := by simp
    have hH2 : Sort.Holds (fun _ : Unit => Value.slice A l.length c) (Sort.ahead w n) g 0 #[()] := hH
    have := Sort.cell?_putRow (fun _ : Unit => Value.slice A l.length c) (Sort.ahead w n) g 0 #[()] (([()] : List Unit).mergeSort fun x y => !(ltOf (fun _ _ : Unit => (0 : Int))) y x).toArray hH2 hds 0 (by rw [hds]; decide)
    rw [hw]
    unfold sortWorld
    rw [Sort.cell?_grow _ _ _ (by simpa [Sort.putRow, Sort.mapBlock, Sort.ahead] using hg)]
    exact this
end Nm
end Go.Proofs.YthogembgndkmpaaGreatDoor

/- Plain law: data sorted and each told once do not hang on their order, nor on how often each stands. -/
namespace Go.Proofs.YthogembgndkmpaaGreatDoor
open Go.RowKit
namespace Nm
theorem cb_flip : ∀ (a b : Lab), Lib.compareBytes a b = - Lib.compareBytes b a
  | [], [] => by simp [Lib.compareBytes]
  | [], _ :: _ => by simp [Lib.compareBytes]
  | _ :: _, [] => by simp [Lib.compareBytes]
  | x :: a, y :: b => by
    unfold Lib.compareBytes
    have ih := cb_flip a b
    by_cases h1 : x < y
    · have h2 : ¬ y < x := fun h => UInt8.lt_irrefl x (UInt8.lt_trans h1 h)
      rw [if_pos h1, if_neg h2, if_pos h1]
    · by_cases h2 : y < x
      · rw [if_neg h1, if_pos h2, if_pos h2]
        rfl
      · rw [if_neg h1, if_neg h2, if_neg h2, if_neg h1]
        exact ih
theorem cb_trans : ∀ (a b c : Lab), Lib.compareBytes a b < 0 → Lib.compareBytes b c < 0 → Lib.compareBytes a c < 0
  | [], [], _ => by intro h; simp [Lib.compareBytes] at h
  | _ :: _, [], _ => by intro h; simp [Lib.compareBytes] at h
  | [], y :: b, [] => by intro _ h; simp [Lib.compareBytes] at h
  | [], y :: b, z :: c => by intro _ _; simp [Lib.compareBytes]
  | x :: a, y :: b, [] => by intro _ h; simp [Lib.compareBytes] at h
  | x :: a, y :: b, z :: c => by
    have ih := cb_trans a b c
    unfold Lib.compareBytes
    intro h1 h2
    by_cases p1 : x < y
    · by_cases p2 : y < z
      · rw [if_pos (UInt8.lt_trans p1 p2)]
        omega
      · rw [if_neg p2] at h2
        by_cases p3 : z < y
        · rw [if_pos p3] at h2
          omega
        · have e : y = z := UInt8.le_antisymm (UInt8.not_lt.1 p3) (UInt8.not_lt.1 p2)
          subst e
          rw [if_pos p1]
          omega
    · rw [if_neg p1] at h1
      by_cases q1 : y < x
      · rw [if_pos q1] at h1
        omega
      · rw [if_neg q1] at h1
        have e : x = y := UInt8.le_antisymm (UInt8.not_lt.1 q1) (UInt8.not_lt.1 p1)
        subst e
        by_cases p2 : x < z
        · rw [if_pos p2]
          omega
        · rw [if_neg p2] at h2 ⊢
          by_cases p3 : z < x
          · rw [if_pos p3] at h2
            omega
          · rw [if_neg p3] at h2 ⊢
            exact ih h1 h2
def ltB (a b : Lab) : Prop := Lib.compareBytes a b < 0
theorem ltB_irrefl (a : Lab) : ¬ ltB a a := by
  unfold ltB
  rw [(cb_zero a a).2 rfl]
  omega
theorem ltB_tot (a b : Lab) : ltB a b ∨ a = b ∨ ltB b a := by
  unfold ltB
  have h := cb_flip a b
  by_cases h0 : Lib.compareBytes a b = 0
  · exact .inr (.inl ((cb_zero a b).1 h0))
  · omega
theorem ltB_trans {a b c : Lab} (h : ltB a b) (k : ltB b c) : ltB a c := cb_trans a b c h k
theorem ltB_asymm {a b : Lab} (h : ltB a b) : ¬ ltB b a := fun k => ltB_irrefl a (ltB_trans h k)
/-- neighbours that are alike are told once -/
def once : List Lab → List Lab
  | [] => []
  | [a] => [a]
  | a :: b :: r => if a = b then once (b :: r) else a :: once (b :: r)
theorem once_mem : ∀ (l : List Lab) (x : Lab), x ∈ once l ↔ x ∈ l
  | [], x => by simp [once]
  | [a], x => by simp [once]
  | a :: b :: r, x => by
    unfold once
    have ih := once_mem (b :: r) x
    split
    · rename_i h
      subst h
      rw [ih]
      simp
    · rw [List.mem_cons, ih]
      simp
theorem once_len : ∀ (l : List Lab), (once l).length ≤ l.length
  | [] => by simp [once]
  | [a] => by simp [once]
  | a :: b :: r => by
    unfold once
    have ih := once_len (b :: r)
    split
    · simp at ih ⊢
      omega
    · simp at ih ⊢
      omega
theorem once_strict : ∀ (l : List Lab), l.Pairwise (fun a b => ¬ ltB b a) → (once l).Pairwise ltB
  | [], _ => by simp [once]
  | [a], _ => by simp [once]
  | a :: b :: r, h => by
    unfold once
    have h2 := List.pairwise_cons.1 h
    have ih := once_strict (b :: r) h2.2
    split
    · exact ih
    · rename_i hne
      refine List.pairwise_cons.2 ⟨fun x hx => ?_, ih⟩
      have hx2 := (once_mem (b :: r) x).1 hx
      have hab : ltB a b := by
        rcases ltB_tot a b with h3 | h3 | h3
        · exact h3
        · exact absurd h3 hne
        · exact absurd h3 (h2.1 b (by simp))
      rcases List.mem_cons.1 hx2 with rfl | hx3
      · exact hab
      · have h4 := (List.pairwise_cons.1 h2.2).1 x hx3
        rcases ltB_tot b x with h5 | h5 | h5
        · exact ltB_trans hab h5
        · exact h5 ▸ hab
        · exact absurd h5 h4
theorem strict_ext : ∀ (l m : List Lab), l.Pairwise ltB → m.Pairwise ltB → (∀ x, x ∈ l ↔ x ∈ m) → l = m
  | [], [], _, _, _ => rfl
  | [], b :: m, _, _, h => by have := (h b).2 (by simp); simp at this
  | a :: l, [], _, _, h => by have := (h a).1 (by simp); simp at this
  | a :: l, b :: m, hl, hm, h => by
    have h1 := List.pairwise_cons.1 hl
    have h2 := List.pairwise_cons.1 hm
    have hab : a = b := by
      rcases List.mem_cons.1 ((h a).1 (by simp)) with e | e
      · exact e
      · rcases List.mem_cons.1 ((h b).2 (by simp)) with e2 | e2
        · exact e2.symm
        · exact absurd (h1.1 b e2) (ltB_asymm (h2.1 a e))
    subst hab
    rw [strict_ext l m h1.2 h2.2 fun x => ⟨fun hx => ?_, fun hx => ?_⟩]
    · rcases List.mem_cons.1 ((h x).1 (by simp [hx])) with e | e
      · subst e; exact absurd (h1.1 x hx) (ltB_irrefl x)
      · exact e
    · rcases List.mem_cons.1 ((h x).2 (by simp [hx])) with e | e
      · subst e; exact absurd (h2.1 x hx) (ltB_irrefl x)
      · exact e
/-- sorted, each told once: of these data -/
def Told (l : List Lab) (d : List Lab) : Prop := ∃ s, s.Perm l ∧ s.Pairwise (fun a b => ¬ ltB b a) ∧ d = once s
theorem told_same {l m d e : List Lab} (h : Told l d) (k : Told m e) (hm : ∀ x, x ∈ l ↔ x ∈ m) : d = e := by
  obtain ⟨s, hs1, hs2, rfl⟩ := h
  obtain ⟨t, ht1, ht2, rfl⟩ := k
  refine strict_ext _ _ (once_strict s hs2) (once_strict t ht2) fun x => ?_
  rw [once_mem, once_mem, hs1.mem_iff, ht1.mem_iff]
  exact hm x
end Nm
end Go.Proofs.YthogembgndkmpaaGreatDoor

/- slices.SortFunc at slices of bytes, by bytes.Compare: some permutation, sorted. -/
namespace Go.Proofs.YthogembgndkmpaaGreatDoor
open Go.RowKit
namespace Nm
/-- bytes held against bytes, as the sort wants it -/
theorem swoB {α : Type} (f : α → Lab) : Sort.SWO (ltOf fun a b => Lib.compareBytes (f a) (f b)) where
  irrefl := fun x => by
    have := ltB_irrefl (f x)
    unfold ltB at this
    simp [ltOf]
    omega
  trans := fun x y z h1 h2 => by
    simp [ltOf] at h1 h2 ⊢
    exact cb_trans _ _ _ h1 h2
  ntrans := fun x y z h1 h2 => by
    simp [ltOf] at h1 h2 ⊢
    have a := cb_flip (f x) (f y)
    have b := cb_flip (f y) (f z)
    have c := cb_flip (f x) (f z)
    by_cases e1 : Lib.compareBytes (f x) (f y) = 0
    · rw [(cb_zero _ _).1 e1]
      exact h2
    · by_cases e2 : Lib.compareBytes (f y) (f z) = 0
      · rw [← (cb_zero _ _).1 e2]
        exact h1
      · have := cb_trans (f z) (f y) (f x) (by omega) (by omega)
        omega
/-- cells of a row hold these slices of bytes, and none is frozen -/
def RowB (w : World) (g : Nat) (bs : List Blob) : Prop := ∀ i b, bs[i]? = some b → w.cell? ⟨g, i, none⟩ = some b.v ∧ w.frozen? ⟨g, i, none⟩ = false
/-- none of them lies in block g -/
def Apart (g : Nat) (b : Blob) : Prop := ∀ a, b.A = some a → b.l.map byteV ≠ [] → a.block ≠ g
theorem Blob.kept {S : Nat → Prop} {w w' : World} {b : Blob} (h : b.ok w) (hk : Kept S w w') (hn : ∀ a, b.A = some a → b.l.map byteV ≠ [] → ¬ S a.block) : b.ok w' := Kept.cs h hk hn
theorem rowB_grow {α : Type} [Inhabited α] (enc : α → Value) (w : World) (g : Nat) (m : Nat) (dk d0 : Array α) (os : Array Obj) (hg : g < w.heap.size) (hH : Sort.Holds enc w g 0 d0) (hs : dk.size = d0.size) :
    Sort.Holds enc (sortWorld enc w g 0 m dk os) g 0 dk := by
  have hH2 : Sort.Holds enc (Sort.ahead w m) g 0 d0 := hH
  have h := Sort.holds_putRow enc (Sort.ahead w m) g 0 d0 dk hH2 hs
  unfold sortWorld
  exact Sort.holds_grow enc _ os g 0 dk (by simpa [Sort.putRow, Sort.mapBlock, Sort.ahead] using hg) h
theorem shape_sortWorld {α : Type} [Inhabited α] (enc : α → Value) (w : World) (g m : Nat) (dk : Array α) (os : Array Obj) {cs : Array Value} {e : TypeId} {fr : Nat × Nat} (h : w.heap[g]? = some (.cells cs e fr)) :
    ∃ cs', (sortWorld enc w g 0 m dk os).heap[g]? = some (.cells cs' e fr) ∧ cs'.size = cs.size := by
  unfold sortWorld
  refine ⟨Sort.putCells enc 0 dk cs, ?_, ?_⟩
  · rw [Sort.heap_grow_old _ _ (by have := lt_block h; simpa [Sort.putRow, Sort.mapBlock, Sort.ahead] using this)]
    simp [Sort.putRow, Sort.mapBlock, Sort.ahead, Array.getElem?_modify, h, Sort.onCells]
  · simp [Sort.putCells]
theorem extract_full {α : Type} (d : Array α) (n : Nat) (h : d.size = n) : d.extract 0 n = d := by
  subst h
  exact Array.extract_size
theorem SortB (g cap : Nat) (bs : List Blob) (w : World) (hr : RowB w g bs) (hg : g < w.heap.size) (hok : ∀ b ∈ bs, b.ok w) (hne : ∀ b ∈ bs, Apart g b) (hl : bs.length ≤ 1000000) (h0 : bs ≠ []) :
    Calls Tryz.prog 64 #[.slice (some ⟨g, 0, none⟩) bs.length cap, .func (.func 65) #[] #[]] w fun e w' =>
      e = .returned (.tuple #[]) ∧ Kept (fun b => b = g) w w' ∧ ∃ cs, cs.Perm bs ∧ cs.Pairwise (fun a b => ¬ ltB b.l a.l) ∧ RowB w' g cs ∧ (∀ cs e fr, w.heap[g]? = some (.cells cs e fr) → ∃ cs', w'.heap[g]? = some (.cells cs' e fr) ∧ cs'.size = cs.size) := by
  have hpos : 0 < bs.length := List.length_pos_iff.2 h0
  letI : Inhabited (Fin bs.length) := ⟨⟨0, hpos⟩⟩
  let d : Array (Fin bs.length) := (List.finRange bs.length).toArray
  have hds : d.size = bs.length := by simp [d]
  have hdj : ∀ j (hj : j < bs.length), d[j]! = ⟨j, hj⟩ := by
    intro j hj
    rw [getElem!_pos d j (by omega)]
    simp [d]
  have hH : Sort.Holds (fun i : Fin bs.length => (bs[i]).v) w g 0 d := by
    intro j hj
    rw [hds] at hj
    rw [hdj j hj, Nat.zero_add]
    exact hr j _ (List.getElem?_eq_getElem hj)
  have hS := Any.slices_SortFunc Tryz.sortB (fun i : Fin bs.length => (bs[i]).v) (fun _ => rfl) (fun i j => Lib.compareBytes (bs[i]).l (bs[j]).l) (swoB fun i : Fin bs.length => (bs[i]).l) 65 #[] g 0 cap d w ent99 ?_ hH hg (by omega)
  · rw [hds] at hS
    refine hS.mono ?_
    rintro e w' ⟨rfl, d', n, os, hp, hs, rfl⟩
    have hd' : d'.size = bs.length := hp.1.trans hds
    have hfull : d'.extract 0 bs.length = d' := extract_full d' _ hd'
    have hfull2 : d.extract 0 bs.length = d := extract_full d _ hds
    have hperm : d'.toList.Perm (List.finRange bs.length) := by
      have h3 := hp.2.2
      rw [hfull, hfull2] at h3
      simpa [d] using h3
    refine ⟨rfl, kept_sortWorld _ w g n d' os, d'.toList.map (fun i => bs[i]), ?_, ?_, ?_, fun cs e fr h => shape_sortWorld _ w g n d' os h⟩
    · have h4 := hperm.map (fun i : Fin bs.length => bs[i])
      have h5 : (List.finRange bs.length).map (fun i : Fin bs.length => bs[i]) = bs := by
        apply List.ext_getElem
        · simp
        · intro i h1 h2
          simp
      rw [h5] at h4
      exact h4
    · rw [List.pairwise_map]
      rw [List.pairwise_iff_getElem]
      intro i j hi hj hij
      have hi2 : i < d'.size := by simpa using hi
      have hj2 : j < d'.size := by simpa using hj
      have h6 := hs i j (Nat.zero_le _) hij (by omega)
      rw [getElem!_pos d' j hj2, getElem!_pos d' i hi2] at h6
      unfold ltB
      simp [ltOf] at h6
      simp only [Array.getElem_toList]
      simpa using h6
    · have hH2 := rowB_grow (fun i : Fin bs.length => (bs[i]).v) w g n d' d os hg hH (by omega)
      intro i b hb
      have hi : i < d'.size := by
        have := (List.getElem?_eq_some_iff.1 hb).1
        simpa using this
      have h7 := hH2 i hi
      rw [Nat.zero_add, getElem!_pos d' i hi] at h7
      have h8 : b = bs[d'[i]] := by
        simp [hi] at hb
        exact hb.symm
      rw [h8]
      exact h7
  · intro m os dk hk x y
    have hk := kept_sortWorld (fun i : Fin bs.length => (bs[i]).v) w g m dk os
    have hx : (bs[x]).ok (sortWorld (fun i : Fin bs.length => (bs[i]).v) w g 0 m dk os) := Blob.kept (hok _ (List.getElem_mem _)) hk (fun a h1 h2 => hne _ (List.getElem_mem _) a h1 h2)
    have hy : (bs[y]).ok (sortWorld (fun i : Fin bs.length => (bs[i]).v) w g 0 m dk os) := Blob.kept (hok _ (List.getElem_mem _)) hk (fun a h1 h2 => hne _ (List.getElem_mem _) a h1 h2)
    refine (BCompare _ _ _ _ _ _ _ hx hy).mono fun e w' h => ?_
    obtain ⟨h1, h2⟩ := h
    refine ⟨h1, 0, #[], ?_⟩
    rw [Sort.grow_empty]
    exact h2.symm
theorem SortB0 (A : Option Addr) (cap : Nat) (w : World) :
    Calls Tryz.prog 64 #[.slice A 0 cap, .func (.func 65) #[] #[]] w fun e w' => e = .returned (.tuple #[]) ∧ w' = w := AnyF.slices_SortFunc_none { Tryz.sortB with } A cap _ w
end Nm
end Go.Proofs.YthogembgndkmpaaGreatDoor

/- slices.CompactFunc at slices of bytes, by bytes.Equal: neighbours that are alike are told once. -/
namespace Go.Proofs.YthogembgndkmpaaGreatDoor
open Go.RowKit
namespace Nm
theorem once_cons2 (a b : Lab) (r : List Lab) : once (a :: b :: r) = if a = b then once (b :: r) else a :: once (b :: r) := rfl
theorem once_snoc : ∀ (L : List Lab) (x y : Lab), once (L ++ [x, y]) = once (L ++ [x]) ++ (if x = y then [] else [y])
  | [], x, y => by
    show once [x, y] = once [x] ++ _
    rw [once_cons2]
    by_cases h : x = y
    · rw [if_pos h, if_pos h, h]
      rfl
    · rw [if_neg h, if_neg h]
      rfl
  | [a], x, y => by
    have ih := once_snoc [] x y
    have e1 : once ([a] ++ [x, y]) = if a = x then once ([] ++ [x, y]) else a :: once ([] ++ [x, y]) := rfl
    have e2 : once ([a] ++ [x]) = if a = x then once ([] ++ [x]) else a :: once ([] ++ [x]) := rfl
    rw [e1, e2]
    by_cases h : a = x
    · rw [if_pos h, if_pos h]
      exact ih
    · rw [if_neg h, if_neg h, List.cons_append]
      exact congrArg _ ih
  | a :: b :: r, x, y => by
    show once (a :: b :: (r ++ [x, y])) = once (a :: b :: (r ++ [x])) ++ _
    have ih := once_snoc (b :: r) x y
    rw [once_cons2, once_cons2]
    by_cases h : a = b
    · rw [if_pos h, if_pos h]
      exact ih
    · rw [if_neg h, if_neg h, List.cons_append]
      exact congrArg _ ih
theorem once_take (L : List Lab) (j : Nat) (x y : Lab) (hx : L[j]? = some x) (hy : L[j + 1]? = some y) : once (L.take (j + 1 + 1)) = once (L.take (j + 1)) ++ (if x = y then [] else [y]) := by
  obtain ⟨h1, h2⟩ := List.getElem?_eq_some_iff.1 hx
  obtain ⟨h3, h4⟩ := List.getElem?_eq_some_iff.1 hy
  have e1 : L.take (j + 1) = L.take j ++ [x] := by rw [← h2]; exact (List.take_append_getElem h1).symm
  have e2 : L.take (j + 1 + 1) = L.take j ++ [x, y] := by
    rw [show L.take (j + 1 + 1) = L.take (j + 1) ++ [L[j + 1]] from (List.take_append_getElem h3).symm, e1, h4, List.append_assoc]
    rfl
  rw [e1, e2]
  exact once_snoc _ _ _
theorem heap_setB {w : World} {g i : Nat} {cs : Array Value} {T : TypeId} {fr : Nat × Nat} {v : Value} (h : w.heap[g]? = some (.cells cs T fr)) : (w.setCell ⟨g, i, none⟩ v).heap[g]? = some (.cells (cs.setIfInBounds i v) T fr) := by
  simp [World.setCell, Array.getElem?_modify, h]
/-- the first cells of a row hold these, those from a place on hold those -/
structure RowM (w : World) (g n : Nat) (ys bs : List Blob) (p : Nat) : Prop where
  lo : ∀ i b, ys[i]? = some b → w.cell? ⟨g, i, none⟩ = some b.v
  hi : ∀ i b, p ≤ i → bs[i]? = some b → w.cell? ⟨g, i, none⟩ = some b.v
  cs : ∃ cs, w.heap[g]? = some (.cells cs 28 (0, 0)) ∧ n ≤ cs.size
theorem RowM.frozen {w : World} {g n p : Nat} {ys bs : List Blob} (h : RowM w g n ys bs p) (i : Nat) : w.frozen? ⟨g, i, none⟩ = false := by
  obtain ⟨cs, h1, _⟩ := h.cs
  simp [World.frozen?, h1]
theorem RowM.size {w : World} {g n p : Nat} {ys bs : List Blob} (h : RowM w g n ys bs p) : g < w.heap.size := by
  obtain ⟨cs, h1, _⟩ := h.cs
  exact lt_block h1
theorem RowM.any {w : World} {g n p : Nat} {ys bs : List Blob} (h : RowM w g n ys bs p) {i : Nat} (hi : i < n) : ∃ v, w.cell? ⟨g, i, none⟩ = some v := by
  obtain ⟨cs, h1, h2⟩ := h.cs
  exact ⟨cs[i], by rw [cell_of_row w g i _ _ _ h1]; exact Array.getElem?_eq_getElem _⟩
theorem RowM.kept {w w' : World} {g n p : Nat} {ys bs : List Blob} (h : RowM w g n ys bs p) (hb : w'.heap[g]? = w.heap[g]?) : RowM w' g n ys bs p := by
  have hc : ∀ i, w'.cell? ⟨g, i, none⟩ = w.cell? ⟨g, i, none⟩ := fun i => World.cell?_of_block (a := ⟨g, i, none⟩) hb
  obtain ⟨cs, h1, h2⟩ := h.cs
  exact ⟨fun i b hib => (hc i).trans (h.lo i b hib), fun i b hp hib => (hc i).trans (h.hi i b hp hib), cs, hb.trans h1, h2⟩
theorem RowM.set {w : World} {g n p : Nat} {ys bs : List Blob} {b : Blob} (h : RowM w g n ys bs p) (hk : ys.length < n) (hp : ys.length ≤ p) : RowM (w.setCell ⟨g, ys.length, none⟩ b.v) g n (ys ++ [b]) bs (p + 1) := by
  obtain ⟨v, hv⟩ := h.any hk
  obtain ⟨cs, h1, h2⟩ := h.cs
  have hfar : ∀ i, i ≠ ys.length → (w.setCell ⟨g, ys.length, none⟩ b.v).cell? ⟨g, i, none⟩ = w.cell? ⟨g, i, none⟩ := fun i hi =>
    World.cell?_setCell_other (w := w) (a := ⟨g, ys.length, none⟩) (b := ⟨g, i, none⟩) (v := b.v) (by intro e; cases e; exact hi rfl)
  refine ⟨fun i c hic => ?_, fun i c hpi hic => ?_, cs.setIfInBounds ys.length b.v, heap_setB h1, by simpa using h2⟩
  · rw [List.getElem?_append] at hic
    split at hic
    · rename_i hi
      rw [hfar i (by omega)]
      exact h.lo i c hic
    · rename_i hi
      have hlt := (List.getElem?_eq_some_iff.1 hic).1
      simp at hlt
      have e : i = ys.length := by omega
      subst e
      simp at hic
      subst hic
      exact setc_same hv
  · rw [hfar i (by omega)]
    exact h.hi i c (by omega) hic
theorem zero_cellsB (z : Value) (m : Nat) : (Builtin.zeroCells #[z] m).toList = List.replicate m z := by
  rw [List.eq_replicate_iff]
  refine ⟨by simp [Builtin.zeroCells], fun b hb => ?_⟩
  simp [Builtin.zeroCells, Nat.mod_one] at hb
  exact hb.2.symm
theorem clearB (g k n C p : Nat) (ys bs : List Blob) (W : World) (h : RowM W g n ys bs p) (hk : k < n) (hy : ys.length ≤ k) : ∃ W', (Builtin.clear_ #[32] 0 #[.slice (some ⟨g, k, none⟩) (n - k) C]).run Tryz.prog W = .ok (.tuple #[]) W' ∧ Kept (fun b => b = g) W W' ∧ RowM W' g n ys [] 0 := by
  obtain ⟨cs, hh, hsz⟩ := h.cs
  obtain ⟨j, hj⟩ : ∃ j, n - k = j + 1 := ⟨n - k - 1, by omega⟩
  rw [hj]
  have hz : (zeroValue 28).run Tryz.prog W = .ok (.slice none 0 0) W := by kernel_rfl
  have hst : (storeCells ⟨g, k, none⟩ (List.replicate (j + 1) (Value.slice none 0 0))).run Tryz.prog W = .ok () (W.setRow g (cs.toList.take (k + 0) ++ List.replicate (j + 1) (Value.slice none 0 0) ++ cs.toList.drop (k + 0 + (List.replicate (j + 1) (Value.slice none 0 0)).length)).toArray) :=
    run_storeCells_at (P := Tryz.prog) g k 28 (List.replicate (j + 1) (Value.slice none 0 0)) 0 cs W hh (by simp; omega) (fun v hv => by rw [List.eq_of_mem_replicate hv]; rfl)
  have hb := setRow_block W g (cs.toList.take (k + 0) ++ List.replicate (j + 1) (Value.slice none 0 0) ++ cs.toList.drop (k + 0 + (List.replicate (j + 1) (Value.slice none 0 0)).length)).toArray cs _ _ hh
  refine ⟨_, ?_, (Kept.of_grown (setRow_grown W g _)).mono (fun b _ e => by cases e; rfl), ⟨fun i b hib => ?_, (fun i b _ hib => by simp at hib), _, hb, by simp; omega⟩⟩
  · simp [Builtin.clear_, run_underlying Tryz.underlying32, hz, Result.andThen]
    have e : (Builtin.zeroCells (Value.slice none 0 0).cells (j + 1)).toList = List.replicate (j + 1) (Value.slice none 0 0) := zero_cellsB _ _
    rw [e, hst]
    simp
  · have hi := (List.getElem?_eq_some_iff.1 hib).1
    have h1 := h.lo i b hib
    rw [cell_of_row W g i _ _ _ hh] at h1
    rw [cell_of_row _ g i _ _ _ hb, List.getElem?_toArray, List.append_assoc, List.getElem?_append_left (by rw [List.length_take, Array.length_toList]; omega), List.getElem?_take_of_lt (by omega)]
    simpa using h1
def CfO (bs : List Blob) (w : World) (g : Nat) (v : Value) (W : World) : Prop := ∃ k : Nat, v = .int .i64 k ∧ 1 ≤ k ∧ k ≤ bs.length ∧ once ((bs.map (·.l)).take k) = (bs.map (·.l)).take k ∧ Kept (fun b => b = g) w W ∧ RowM W g bs.length [] bs 0
def CfI (bs : List Blob) (w : World) (g k0 : Nat) (v u : Value) (W : World) : Prop := ∃ (m : Nat) (ys : List Blob), v = .int .i64 ys.length ∧ u = .int .i64 (m + 1 : Nat) ∧ k0 + m + 1 ≤ bs.length ∧ ys.length ≤ k0 + m ∧ once ((bs.map (·.l)).take (k0 + m + 1)) = ys.map (·.l) ∧ (∀ y ∈ ys, y ∈ bs) ∧ Kept (fun b => b = g) w W ∧ RowM W g bs.length ys bs (k0 + m)
set_option maxRecDepth 100000 in
set_option maxHeartbeats 20000000 in
theorem CompB (g cap : Nat) (bs : List Blob) (w : World) (hr : RowM w g bs.length [] bs 0) (hok : ∀ b ∈ bs, b.ok w) (hne : ∀ b ∈ bs, Apart g b) (hl : bs.length ≤ 1000000) (hcap : bs.length ≤ cap) (h0 : bs ≠ []) :
    Calls Tryz.prog 66 #[.slice (some ⟨g, 0, none⟩) bs.length cap, .func (.func 67) #[] #[]] w fun e w' =>
      ∃ cs : List Blob, e = .returned (.slice (some ⟨g, 0, none⟩) cs.length cap) ∧ Kept (fun b => b = g) w w' ∧ RowM w' g bs.length cs [] 0 ∧ cs.map (·.l) = once (bs.map (·.l)) ∧ (∀ c ∈ cs, c ∈ bs) := by
  go_enter Tryz.func66, Tryz.ntmps66
  by_cases hn2 : bs.length < 2
  · go_wp2_with fail
    go_ret
    refine ⟨bs, rfl, Kept.refl _ _, ⟨fun i b h => hr.hi i b (Nat.zero_le _) h, (fun i b _ h => by simp at h), hr.cs⟩, ?_, fun c h => h⟩
    match bs, hn2, h0 with
    | [b], _, _ => rfl
  · go_wp2_with fail
    go_loopw [5] (CfO bs w g) (fun k _ => bs.length - (intOf k).toNat)
    case atStart => exact ⟨1, rfl, by omega, by omega, (match bs, hn2 with | b :: c :: r, _ => rfl), Kept.refl _ _, hr⟩
    case round =>
      obtain ⟨k, rfl, hk1, hk2, hon, hkp, hrw⟩ := hrel
      obtain ⟨V, hVV⟩ : ∃ V, V = wr := ⟨_, rfl⟩
      rw [← hVV] at hkp hrw ⊢
      clear hVV
      by_cases hkn : k < bs.length
      · obtain ⟨d, rfl⟩ : ∃ d, k = d + 1 := ⟨k - 1, by omega⟩
        obtain ⟨⟨Ak, lk, ck⟩, hk0⟩ : ∃ b, bs[d + 1]? = some b := ⟨_, List.getElem?_eq_getElem hkn⟩
        obtain ⟨⟨Ad, ld, cd⟩, hd0⟩ : ∃ b, bs[d]? = some b := ⟨_, List.getElem?_eq_getElem (by omega)⟩
        have hgV := hrw.size
        have hq1 : V.cell? ⟨g, d + 1, none⟩ = some (.slice Ak lk.length ck) := hrw.hi _ _ (Nat.zero_le _) hk0
        have hq2 : V.cell? ⟨g, d, none⟩ = some (.slice Ad ld.length cd) := hrw.hi _ _ (Nat.zero_le _) hd0
        have hokV : ∀ b ∈ bs, b.ok V := fun b hb => Blob.kept (hok b hb) hkp (fun a h1 h2 => hne b hb a h1 h2)
        have hck : Cs V Ak (lk.map byteV) := hokV ⟨Ak, lk, ck⟩ (List.mem_of_getElem? hk0)
        have hcd : Cs V Ad (ld.map byteV) := hokV ⟨Ad, ld, cd⟩ (List.mem_of_getElem? hd0)
        go_upto_region 6 with fail
        refine wp_region_mono (by kernel_rfl) (by kernel_rfl) [.is (.func (.func 67) #[] #[]), .is (.slice (some ⟨g, 0, none⟩) bs.length cap), .is (.int .i64 (d + 1 : Nat)), .is (.pointer (some ⟨g, d + 1, none⟩)), .is (.slice Ak lk.length ck), .is (.slice (some ⟨g, 0, none⟩) bs.length cap), .is (.int .i64 (d + 1 : Nat)), .is (.int .i64 d), .is (.pointer (some ⟨g, d, none⟩)), .is (.slice Ad ld.length cd), .is (.bool (decide (lk = ld)))] rfl ?_ ?_
        · intro i o hio vals W hE haf
          have e1 := (bcl (o := d + 1) hE hgV).trans hq1
          have e2 := (bcl (o := d) hE hgV).trans hq2
          have r1 : (d : Int) + 1 < (bs.length : Int) := by omega
          have r2 : IntKind.i64.wrap ((d : Int) + 1 - 1) = (d : Int) := (IntWalk.i64_in _ (by omega)).trans (by omega)
          have r3 : (d : Int) < (bs.length : Int) := by omega
          have r4 : (0 : Int) ≤ (d : Int) + 1 := by omega
          have r5 : IntKind.i64.wrap (d : Int) = (d : Int) := IntWalk.i64_in _ (by omega)
          rcases i with _ | _ | _ | _ | _ | _ | _ | _ | _ | _ | _ | i
          all_goals first
            | (exfalso; simp at hio; done)
            | (simp at hio; subst hio; simp [bindD, rdB, Region.binds, factAt] at haf; simp [opYield_def, yieldUpon, yielded, relAct, dstAt, Act.put, Region.wanted, go_sem, haf, e1, e2, r1, r2, r3, r4, r5, Ext.refl, factAt]; done)
            | skip
          all_goals
            simp at hio
            subst hio
            simp [bindD, rdB, Region.binds, factAt] at haf
          simp [opYield_def, yieldUpon, yielded, relAct, dstAt, Act.put, Region.wanted, go_sem, haf, factAt]
          refine (BEqual Ak Ad lk ld ck cd W (hck.below hE) (hcd.below hE)).mono fun e W' h => ?_
          obtain ⟨h1, h2⟩ := h
          subst h2
          exact ⟨h1, Ext.refl _⟩
        · intro vals W hE hF
          simp only [facts] at hF
          obtain ⟨_, _, _, _, _, _, _, _, _, _, hv10, _⟩ := hF
          have hv : vals 10 = .bool (decide (lk = ld)) := hv10
          have hE' : Kept (fun b => b = g) V W := (Kept.of_ext hE).mono (fun _ _ h => h.elim)
          simp [relAct, dstAt, Act.put]
          rw [hv]
          have hrW : RowM W g bs.length [] bs 0 := hrw.kept (hE.block _ hgV)
          have hkW := hkp.trans hE'
          have ht := once_take (bs.map (·.l)) d ld lk (by rw [List.getElem?_map, hd0]; rfl) (by rw [List.getElem?_map, hk0]; rfl)
          have htk : (bs.map (·.l)).take (d + 1 + 1) = (bs.map (·.l)).take (d + 1) ++ [lk] := by
            rw [List.take_add_one, List.getElem?_map, hk0]
            rfl
          clear hv10 hv hq1 hq2
          generalize vals 0 = v0 at *
          generalize vals 1 = v1 at *
          generalize vals 2 = v2 at *
          generalize vals 3 = v3 at *
          generalize vals 4 = v4 at *
          generalize vals 5 = v5 at *
          generalize vals 6 = v6 at *
          generalize vals 7 = v7 at *
          generalize vals 8 = v8 at *
          generalize vals 9 = v9 at *
          by_cases hkl : lk = ld
          · subst hkl
            have HT := Lib.hid ht
            have HON := Lib.hid hon
            have HTK := Lib.hid htk
            clear ht hon htk
            simp only [decide_true]
            clear hk1 hk2 hck hcd hokV hgV hrw hkp hE' hE
            obtain ⟨k0, hk0i⟩ : ∃ k0 : Nat, (d : Int) + 1 = k0 := ⟨d + 1, by omega⟩
            rw [hk0i]
            have hk0n : d + 1 = k0 := by omega
            have hkn' : k0 < bs.length := by omega
            have hkni : (k0 : Int) < (bs.length : Int) := by omega
            have hk01 : 1 ≤ k0 := by omega
            have hT0 : once ((bs.map (·.l)).take (k0 + 0 + 1)) = (bs.take k0).map (·.l) := by
              have h1 := HT.out
              rw [if_pos rfl, List.append_nil, HON.out] at h1
              rw [Nat.add_zero, ← hk0n, h1, List.map_take]
            have HT0 := Lib.hid hT0
            clear hT0 HT HON HTK hk0 hd0 hk0n hk0i hkn
            go_wp2_with fail
            go_loopw [5, 7] (CfI bs w g k0) (fun _ m _ => bs.length - (intOf m).toNat)
            case atStart =>
              refine ⟨0, bs.take k0, by simp; omega, rfl, by omega, by simp; omega, HT0.out, (fun y hy => List.mem_of_mem_take hy), hkW, ⟨fun i b hib => ?_, fun i b _ hib => hrW.hi i b (Nat.zero_le _) hib, hrW.cs⟩⟩
              rw [List.getElem?_take] at hib
              split at hib
              · exact hrW.hi i b (Nat.zero_le _) hib
              · cases hib
            case round =>
              obtain ⟨m, ys, rfl, rfl, hm1, hm2, hm3, hm4, hkp, hrw⟩ := hrel
              by_cases hmn : k0 + (m + 1) < bs.length
              · obtain ⟨⟨Aj, lj, cj⟩, hj0⟩ : ∃ b, bs[k0 + (m + 1)]? = some b := ⟨_, List.getElem?_eq_getElem hmn⟩
                obtain ⟨⟨Ai, li, ci⟩, hi0⟩ : ∃ b, bs[k0 + m]? = some b := ⟨_, List.getElem?_eq_getElem (by omega)⟩
                have hgR := hrw.size
                have hq1 : wr.cell? ⟨g, k0 + (m + 1), none⟩ = some (.slice Aj lj.length cj) := hrw.hi _ _ (by omega) hj0
                have hq2 : wr.cell? ⟨g, k0 + m, none⟩ = some (.slice Ai li.length ci) := hrw.hi _ _ (by omega) hi0
                have hok2 : ∀ b ∈ bs, b.ok wr := fun b hb => Blob.kept (hok b hb) hkp (fun a h1 h2 => hne b hb a h1 h2)
                have hcj : Cs wr Aj (lj.map byteV) := hok2 ⟨Aj, lj, cj⟩ (List.mem_of_getElem? hj0)
                have hci : Cs wr Ai (li.map byteV) := hok2 ⟨Ai, li, ci⟩ (List.mem_of_getElem? hi0)
                have hmi : (m : Int) + 1 < ((bs.length - k0 : Nat) : Int) := by omega
                go_upto_region 11 with fail
                refine wp_region_mono (by kernel_rfl) (by kernel_rfl) [.is (.func (.func 67) #[] #[]), .is (.slice (some ⟨g, k0, none⟩) (bs.length - k0) (cap - k0)), .is (.int .i64 (m + 1 : Nat)), .is (.pointer (some ⟨g, k0 + (m + 1), none⟩)), .is (.slice Aj lj.length cj), .is (.slice (some ⟨g, k0, none⟩) (bs.length - k0) (cap - k0)), .is (.int .i64 (m + 1 : Nat)), .is (.int .i64 m), .is (.pointer (some ⟨g, k0 + m, none⟩)), .is (.slice Ai li.length ci), .is (.bool (decide (lj = li))), .is (.bool (!decide (lj = li)))] rfl ?_ ?_
                · intro i o hio vals W hE haf
                  have e1 := (bcl (o := k0 + (m + 1)) hE hgR).trans hq1
                  have e2 := (bcl (o := k0 + m) hE hgR).trans hq2
                  have r2 : IntKind.i64.wrap ((m : Int) + 1 - 1) = (m : Int) := (IntWalk.i64_in _ (by omega)).trans (by omega)
                  have r3 : (m : Int) < ((bs.length - k0 : Nat) : Int) := by omega
                  have r4 : (0 : Int) ≤ (m : Int) + 1 := by omega
                  have r5 : IntKind.i64.wrap (m : Int) = (m : Int) := IntWalk.i64_in _ (by omega)
                  have r6 : m + 1 < bs.length - k0 := by omega
                  have r7 : m < bs.length - k0 := by omega
                  rcases i with _ | _ | _ | _ | _ | _ | _ | _ | _ | _ | _ | _ | i
                  all_goals first
                    | (exfalso; simp at hio; done)
                    | (simp at hio; subst hio; simp [bindD, rdB, Region.binds, factAt] at haf; simp [opYield_def, yieldUpon, yielded, relAct, dstAt, Act.put, Region.wanted, go_sem, haf, e1, e2, hmi, r2, r3, r4, r5, r6, r7, Ext.refl, factAt]; done)
                    | skip
                  all_goals
                    simp at hio
                    subst hio
                    simp [bindD, rdB, Region.binds, factAt] at haf
                  all_goals
                    simp [opYield_def, yieldUpon, yielded, relAct, dstAt, Act.put, Region.wanted, go_sem, haf, factAt]
                    refine (BEqual Aj Ai lj li cj ci W (hcj.below hE) (hci.below hE)).mono fun e W' h => ?_
                    obtain ⟨h1, h2⟩ := h
                    subst h2
                    exact ⟨h1, Ext.refl _⟩
                · intro vals W hE hF
                  simp only [facts] at hF
                  obtain ⟨_, _, _, _, _, _, _, _, _, _, _, hv11, _⟩ := hF
                  have hv : vals 11 = .bool (!decide (lj = li)) := hv11
                  have hE' : Kept (fun b => b = g) wr W := (Kept.of_ext hE).mono (fun _ _ h => h.elim)
                  simp [relAct, dstAt, Act.put]
                  rw [hv]
                  have hrW2 : RowM W g bs.length ys bs (k0 + m) := hrw.kept (hE.block _ hgR)
                  have hkW2 := hkp.trans hE'
                  have e1 := (bcl (o := k0 + (m + 1)) hE hgR).trans hq1
                  have ht := once_take (bs.map (·.l)) (k0 + m) li lj (by rw [List.getElem?_map, hi0]; rfl) (by rw [List.getElem?_map, show k0 + m + 1 = k0 + (m + 1) by omega, hj0]; rfl)
                  clear hv11 hv hq1 hq2
                  generalize vals 0 = v0 at *
                  generalize vals 1 = v1 at *
                  generalize vals 2 = v2 at *
                  generalize vals 3 = v3 at *
                  generalize vals 4 = v4 at *
                  generalize vals 5 = v5 at *
                  generalize vals 6 = v6 at *
                  generalize vals 7 = v7 at *
                  generalize vals 8 = v8 at *
                  generalize vals 9 = v9 at *
                  generalize vals 10 = v10 at *
                  rw [hm3] at ht
                  by_cases hij : lj = li
                  · rw [if_pos hij.symm, List.append_nil] at ht
                    have HT := Lib.hid ht
                    rw [decide_eq_true hij]
                    clear ht hij e1
                    simp only [Bool.not_true]
                    go_wp2_with fail
                    refine ⟨⟨m + 1, ys, rfl, by go_num, by omega, by omega, HT.out, hm4, hkW2, ⟨hrW2.lo, fun i b hp hib => hrW2.hi i b (by omega) hib, hrW2.cs⟩⟩, by simp [intOf]; omega⟩
                  · rw [if_neg (fun h => hij h.symm)] at ht
                    have HT := Lib.hid ht
                    rw [decide_eq_false hij]
                    clear ht
                    simp only [Bool.not_false]
                    obtain ⟨vz, hz⟩ := hrW2.any (i := ys.length) (by omega)
                    have hfz := hrW2.frozen ys.length
                    have hyl : (ys.length : Int) < (bs.length : Int) := by omega
                    have hyl2 : ys.length < bs.length := by omega
                    have hms : m + 1 < bs.length - k0 := by omega
                    go_wp2_with fail
                    refine ⟨⟨m + 1, ys ++ [⟨Aj, lj, cj⟩], by simp, by go_num, by omega, by simp; omega, ?_, ?_, ?_, ?_⟩, by simp [intOf]; omega⟩
                    · rw [List.map_append]
                      exact HT.out
                    · intro y hy
                      rcases List.mem_append.1 hy with hy | hy
                      · exact hm4 y hy
                      · simp at hy
                        subst hy
                        exact List.mem_of_getElem? hj0
                    · exact hkW2.setCell (S := fun b => b = g) (p := ⟨g, ys.length, none⟩) (fun _ => rfl) _
                    · exact RowM.set (b := ⟨Aj, lj, cj⟩) hrW2 (by omega) (by omega)
              · have hmi : ¬ (m : Int) + 1 < ((bs.length - k0 : Nat) : Int) := by omega
                have hyl2 : ys.length < bs.length := by omega
                have hfin : ys.map (·.l) = once (bs.map (·.l)) := by
                  rw [← hm3, List.take_of_length_le (by simp; omega)]
                have HFin := Lib.hid hfin
                obtain ⟨W2, hcl, hk3, hw3⟩ := clearB g ys.length bs.length (cap - ys.length) (k0 + m) ys bs wr hrw hyl2 (Nat.le_refl _)
                have hyi : (ys.length : Int) ≤ (bs.length : Int) := by omega
                clear hm3 hfin
                go_wp2_with fail
                go_ret
                exact ⟨ys, rfl, hkp.trans hk3, hw3, HFin.out, hm4⟩
          · rw [if_neg (fun h => hkl h.symm), hon, ← htk] at ht
            have HT := Lib.hid ht
            clear ht hon htk
            rw [decide_eq_false hkl]
            go_wp2_with fail
            refine ⟨⟨d + 1 + 1, by go_num, by omega, by omega, HT.out, hkW, hrW⟩, by simp [intOf]; omega⟩
      · have hfin : bs.map (·.l) = once (bs.map (·.l)) := by
          have := hon
          rw [List.take_of_length_le (by simp; omega)] at this
          exact this.symm
        have HFin := Lib.hid hfin
        clear hfin hon
        go_wp2_with fail
        go_ret
        exact ⟨bs, rfl, hkp, ⟨fun i b h => hrw.hi i b (Nat.zero_le _) h, (fun i b _ h => by simp at h), hrw.cs⟩, HFin.out, fun c h => h⟩
end Nm
end Go.Proofs.YthogembgndkmpaaGreatDoor

/- Contracts of package zone: canon, key; rdata.Check and Canon at all types but RRSIG, DNSKEY, NSEC3. -/
namespace Go.Proofs.YthogembgndkmpaaGreatDoor
open Go.RowKit
namespace Nm
def easyT (t : Int) : Prop := t ≠ 46 ∧ t ≠ 48 ∧ t ≠ 50
theorem CheckE (t : Int) (ht : easyT t) (A : Option Addr) (l : Lab) (cap : Nat) (w : World) (hc : Cs w A (l.map byteV)) (hl : l.length ≤ 100000) (hcap : l.length ≤ cap) (hcap2 : cap ≤ maxLen) :
    Calls Tryz.prog 85 #[.int .u16 t, .slice A l.length cap] w fun e w' => Below w.heap.size w w' ∧ e = .returned (.int .i64 (code50 (chk t l))) := by
  by_cases h6 : t = 6
  · subst h6
    exact Check6 A l cap w hc hl hcap hcap2
  · exact CheckS t A l cap w h6 ht.1 ht.2.1 ht.2.2 hc hl hcap hcap2
theorem CanonE (t : Int) (ht : easyT t) (A : Option Addr) (l : Lab) (cap : Nat) (w : World) (hc : Cs w A (l.map byteV)) (hl : l.length ≤ 100000) (hcap : l.length ≤ cap) (hcap2 : cap ≤ maxLen) :
    Calls Tryz.prog 63 #[.int .u16 t, .slice A l.length cap] w fun e w' =>
      Below w.heap.size w w' ∧ ∃ v, e = .returned (.tuple #[v, .int .i64 (code50 (chk t l))]) ∧ w'.ownsRow w.heap.size 5 1 v (canonR t l).length ((canonR t l).map byteV) := by
  by_cases h6 : t = 6
  · subst h6
    exact Canon6 A l cap w hc hl hcap hcap2
  · by_cases hN : isN t
    · exact CanonN t hN A l cap w hc hl hcap hcap2
    · exact CanonP t (fun h => hN (.inl h)) (fun h => hN (.inr (.inl h))) (fun h => hN (.inr (.inr h))) h6 ht.1 ht.2.1 ht.2.2 A l cap w hc hl hcap hcap2
/-- a name's key -/
def zkey (n : List Lab) : Lab := wire (lower n)
end Nm
end Go.Proofs.YthogembgndkmpaaGreatDoor
