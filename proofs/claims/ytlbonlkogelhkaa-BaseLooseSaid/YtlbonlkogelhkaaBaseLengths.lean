/-
  The walk of the law BaseLengths (signetlaw2): it returns true.
-/
import Derived.Test.YtlbonlkogelhkaaBaseLaws2
namespace Go.Proofs.Ytlbonlkogelhkaa
open Go.RowKit
set_option linter.unusedVariables false
namespace Base

/-- so many noughts -/
def zeros (n : Nat) : List UInt8 := List.replicate n 0
def zerosV (n : Nat) : Array Value := ((zeros n).map byteV).toArray
theorem zeros_length (n : Nat) : (zeros n).length = n := by simp [zeros]
theorem run_make_zeros (n : Nat) (hn : n ≤ 1000000) (W : World) :
    (Instr.makeSlice 33 (.int .i64 (n : Int)) (.int .i64 (n : Int))).run Try.prog W = .ok (.slice (some ⟨W.heap.size, 0, none⟩) n n) (W.alloc (.cells (zerosV n) 5)) := by
  obtain ⟨i0, hi, hz0, hz1, hz2⟩ := info_parts info_u8
  have h := run_make (P := Try.prog) W 33 5 i0 _ Try.underlying33 hi hz0 .i64 .i64 (n : Int) (n : Int) (by omega) (Int.le_refl _) (by rw [hz2]; omega) (by omega)
  rw [h]
  congr 2
  have e : madeCells #[Value.int .u8 0] n = zerosV n := by
    apply Array.ext'
    rw [toList_madeCells_one]
    simp [zerosV, zeros, byteV]
  simp only [Value.cells, Int.toNat_natCast, hz1, Nat.mul_one]
  rw [e]
theorem zeros_own (W : World) (B n : Nat) (hn : n ≤ 1000000) (hB : B ≤ W.heap.size) : (W.alloc (.cells (zerosV n) 5)).ownsRow B 5 1 (.slice (some ⟨W.heap.size, 0, none⟩) n n) n ((zeros n).map byteV) := by
  have := World.ownsRow_lit (e := 5) (base := B) (size := 1) W (zerosV n) n hB (by unfold maxLen; omega) (by simp [zerosV, zeros])
  simpa [zerosV] using this

/-- the digit nought, so many times -/
def noughts (n : Nat) : ByteArray := ⟨(List.replicate n (48 : UInt8)).toArray⟩
theorem noughts_size (n : Nat) : (noughts n).size = n := by simp [noughts, ByteArray.size]
theorem num_zero (B : Nat) (n : Nat) : BaseM.num B (List.replicate n 0) = 0 := by
  induction n with
  | zero => rfl
  | succ n ih => rw [List.replicate_succ', BaseM.num_snoc, ih]; simp
theorem digs_zero (B : Nat) (n : Nat) : BaseM.digs B n 0 = List.replicate n 0 := by
  induction n with
  | zero => rfl
  | succ n ih => rw [BaseM.digs, Nat.zero_div, ih, List.replicate_succ']; simp
theorem vals_zero {s : Nat} (hs : s = 4 ∨ s = 5) (n : Nat) : BaseM.vals (2 ^ s) (List.replicate n 48) = some (List.replicate n 0) := by
  have := BaseM.vals_map (most := 2 ^ s) (by rcases hs with rfl | rfl <;> omega) (List.replicate n 0) (fun d hd => by rw [List.eq_of_mem_replicate hd]; exact Nat.pow_pos (by omega))
  rwa [List.map_replicate, show BaseM.dch 0 = 48 from rfl] at this
theorem strN_noughts (n : Nat) : strN (noughts n) = List.replicate n 48 := by simp [strN, noughts]
theorem sp_noughts {s : Nat} (hs : s = 4 ∨ s = 5) (n : Nat) :
    (s ≤ s * n % 8 → Sp s (noughts n) [] 20) ∧ (s * n % 8 < s → Sp s (noughts n) (zeros (s * n / 8)) 0) := by
  have hd : BaseM.dec s (strN (noughts n)) = BaseM.decD s (List.replicate n 0) := by rw [strN_noughts]; exact dec_vals (vals_zero hs n)
  unfold BaseM.decD at hd
  rw [List.length_replicate, num_zero, Nat.zero_div, Nat.zero_mod, digs_zero] at hd
  constructor
  · intro h
    rw [if_pos (.inl h)] at hd
    exact .inl ⟨hd, rfl, rfl⟩
  · intro h
    rw [if_neg (by omega)] at hd
    exact .inr ⟨by rw [hd]; simp [zeros], rfl⟩
theorem encB_len5 (n : Nat) : (encB 5 (zeros n)).size = (8 * n + 4) / 5 := by rw [encB_size, zeros_length]; rfl
theorem encB_len4 (n : Nat) : (encB 4 (zeros n)).size = 2 * n := by rw [encB_size, zeros_length]; unfold BaseM.cnt; omega

def NoughtR (n g : Nat) (w : World) (i : Value) (wr : World) : Prop :=
  ∃ k : Nat, k ≤ n ∧ i = .int .i64 k ∧ wr.ownsRow w.heap.size 5 1 (.slice (some ⟨g, 0, none⟩) n n) n ((List.replicate k (48 : UInt8) ++ List.replicate (n - k) 0).map byteV) ∧ Below w.heap.size w wr
theorem nought_step (n k : Nat) (hk : k < n) : ((List.replicate k (48 : UInt8) ++ List.replicate (n - k) 0).map byteV).set k (.int .u8 48) = (List.replicate (k + 1) (48 : UInt8) ++ List.replicate (n - (k + 1)) 0).map byteV := by
  have e : List.replicate (n - k) (0 : UInt8) = 0 :: List.replicate (n - (k + 1)) 0 := by
    rw [show n - k = (n - (k + 1)) + 1 from by omega, List.replicate_succ]
  rw [e, List.map_append, List.map_cons, List.set_append_right _ _ (by simp), List.replicate_succ', List.map_append, List.map_append]
  simp [byteV]

theorem Hex32n (A : Option Addr) (l : List UInt8) (n cap : Nat) (w : World) (hc : Cs w A (l.map byteV)) (hn : l.length = n) (hl : n ≤ 1000000) :
    Calls Try.prog 23 #[.slice A n cap] w fun e w' => e = .returned (.string (encB 5 l)) ∧ Below w.heap.size w w' := by
  subst hn; exact Hex32 A l cap w hc hl
theorem Hexn (A : Option Addr) (l : List UInt8) (n cap : Nat) (w : World) (hc : Cs w A (l.map byteV)) (hn : l.length = n) (hl : n ≤ 1000000) :
    Calls Try.prog 24 #[.slice A n cap] w fun e w' => e = .returned (.string (encB 4 l)) ∧ Below w.heap.size w w' := by
  subst hn; exact Hex A l cap w hc hl
theorem bytesEqn (A B : Option Addr) (a b : List UInt8) (n m c d : Nat) (w : World) (ha : Cs w A (a.map byteV)) (hb : Cs w B (b.map byteV)) (hn : a.length = n) (hm : b.length = m) :
    Calls Try.prog 29 #[.slice A n c, .slice B m d] w fun e w' => e = .returned (.bool (decide (a = b))) ∧ w = w' := by
  subst hn; subst hm; exact bytesEq A B a b c d w ha hb
theorem own_cs {w : World} {B : Nat} {e : TypeId} {g n cap : Nat} {xs : List Value} (h : w.ownsRow B e 1 (.slice (some ⟨g, 0, none⟩) n cap) n xs) : Cs w (some ⟨g, 0, none⟩) xs := by
  obtain ⟨A, cap', hv, _, hc⟩ := Cs.of_own h
  cases hv
  exact hc
theorem own_base {w : World} {B B' : Nat} {e : TypeId} {size n : Nat} {v : Value} {xs : List Value} (h : w.ownsRow B e size v n xs) (hB : B' ≤ B) : w.ownsRow B' e size v n xs := by
  refine ⟨h.1, ?_⟩
  rcases h.2 with h0 | ⟨g, cap, cur, hv, hg, r⟩
  · exact .inl h0
  · exact .inr ⟨g, cap, cur, hv, by omega, r⟩

set_option maxHeartbeats 2000000 in
theorem lengths_core (n : Nat) (hn : n ≤ 255) (w : World) : Calls Try.prog 11 #[.int .u8 n] w fun e w' => e = .returned (.bool true) ∧ Below w.heap.size w w' := by
  have hn6 : n ≤ 1000000 := by omega
  have hmk := run_make_zeros n hn6
  have e5 : (((encB 5 (zeros n)).size : Int) != (8 * (n : Int) + 4) / 5) = false := by have := encB_len5 n; simp; omega
  have e4 : (((encB 4 (zeros n)).size : Int) != 2 * (n : Int)) = false := by have := encB_len4 n; simp; omega
  have hz := Lib.hid (zeros_length n)
  go_enter Try.func11, Try.ntmps11
  go_wp2_with (go_at_call 22; refine (known _).mono ?_; rintro e w1 ⟨rfl, hb1⟩)
  have hcs : Cs (w1.alloc (.cells (zerosV n) 5)) (some ⟨w1.heap.size, 0, none⟩) ((zeros n).map byteV) := cs_new w1 5 ((zeros n).map byteV) (0, 0)
  have b2 : Below w.heap.size w (w1.alloc (.cells (zerosV n) 5)) := hb1.alloc hb1.size _
  go_wp2_with fail
  refine (Hex32n _ _ _ _ _ hcs hz.out hn6).mono ?_
  rintro e w2 ⟨rfl, hb2⟩
  have hcs2 := hcs.below hb2
  have b3 := b2.trans (hb2.mono b2.size)
  clear hb2 b2 hcs
  go_wp2_with fail
  refine (Hexn _ _ _ _ _ hcs2 hz.out hn6).mono ?_
  rintro e w3 ⟨rfl, hb3⟩
  have b4 := b3.trans (hb3.mono b3.size)
  clear hb3 b3 hcs2 hb1
  go_wp2_with fail
  go_loopw [5] (NoughtR n w3.heap.size w) (fun i _ => n - (intOf i).toNat)
  case atStart => exact ⟨0, Nat.zero_le _, rfl, by simpa [zeros] using zeros_own w3 w.heap.size n hn6 b4.size, b4.alloc b4.size _⟩
  case round =>
    obtain ⟨k, hk, rfl, hown, hbw⟩ := hrel
    by_cases hlt : k < n
    · obtain ⟨old, hold⟩ : ∃ u, wr.cell? ⟨w3.heap.size, k, none⟩ = some u := by
        rw [hown.cellAt k (by omega)]
        exact ⟨_, List.getElem?_eq_getElem (by simp; omega)⟩
      have hfr := hown.frozenAt k
      have hst := hown.stored k (.int .u8 48)
      rw [nought_step n k hlt] at hst
      have hlt' : (k : Int) < (n : Int) := by omega
      go_wp2
      refine ⟨⟨k + 1, by omega, by go_num, hst.1, hbw.grown hst.2 (by have := hbw.size; omega) (fun g hg => by cases hg; exact Nat.le_trans b4.size (Nat.le_refl _))⟩, by simp [intOf]; omega⟩
    · obtain rfl : k = n := by omega
      rw [Nat.sub_self, List.replicate_zero, List.append_nil] at hown
      have hcv : ∀ W, Below wr.heap.size wr W → (convert 33 9 (.slice (some ⟨w3.heap.size, 0, none⟩) k k)).run Try.prog W = .ok (.string (noughts k)) W := by
        intro W hW
        have := run_str (P := Try.prog) W Try.underlying33 Try.underlying5 Try.underlying9 k ((own_cs hown).below hW)
        rwa [List.length_replicate] at this
      have hcv0 := hcv wr (Below.refl _ _)
      have hlt' : (k : Int) ≤ (k : Int) := by omega
      by_cases h5 : 5 ≤ 5 * k % 8
      · have hc : k % 8 = 1 ∨ k % 8 = 3 ∨ k % 8 = 6 := by
          have h8 : k % 8 = 0 ∨ k % 8 = 1 ∨ k % 8 = 2 ∨ k % 8 = 3 ∨ k % 8 = 4 ∨ k % 8 = 5 ∨ k % 8 = 6 ∨ k % 8 = 7 := by omega
          rcases h8 with h | h | h | h | h | h | h | h <;> omega
        rcases hc with hc | hc | hc
        · have g1 : (k : Int) % 8 = 1 := by omega
          have g2 : (k : Int) % 2 = 1 := by omega
          have HC := Lib.hid hc
          clear hc
          have S5 : Sp 5 (noughts k) [] 20 := (sp_noughts (.inr rfl) k).1 (by omega)
          have S4 : Sp 4 (noughts k) [] 20 := (sp_noughts (.inl rfl) k).1 (by omega)
          have hmk4 : ∀ W : World, (Instr.makeSlice 33 (.int .i64 0) (.int .i64 0)).run Try.prog W = .ok (.slice (some ⟨W.heap.size, 0, none⟩) 0 0) (W.alloc (.cells (zerosV 0) 5)) := run_make_zeros 0 (by omega)
          have H5 := Lib.hid S5
          have H4 := Lib.hid S4
          clear S5 S4 HC
          go_wp2_with fail
          refine (OpenHex32 _ _ _ _ H5.out (by rw [noughts_size]; omega)).mono ?_
          rintro e w5 ⟨A5, cap5, rfl, hd5, hb5⟩
          have hcv5 := hcv w5 hb5
          go_wp2_with fail
          refine (OpenHex _ _ _ _ H4.out (by rw [noughts_size]; omega)).mono ?_
          rintro e w6 ⟨A6, cap6, rfl, hd6, hb6⟩
          have b6 := hbw.trans (hb5.mono hbw.size)
          have b7 := b6.trans (hb6.mono b6.size)
          have hlast := hd6.below ((Below.refl w6.heap.size w6).alloc (Nat.le_refl _) (.cells (zerosV 0) 5))
          go_wp2_with fail
          refine (bytesEqn _ _ ([] : List UInt8) ([] : List UInt8) _ _ _ _ _ hlast (cs_new w6 5 (([] : List UInt8).map byteV) (0, 0)) rfl rfl).mono ?_
          rintro e w8 ⟨rfl, rfl⟩
          go_wp2_with fail
          go_ret
          exact ⟨ret_bool (by simp), b7.alloc b7.size _⟩
        · have g1 : (k : Int) % 8 = 3 := by omega
          have g2 : (k : Int) % 2 = 1 := by omega
          have HC := Lib.hid hc
          clear hc
          have S5 : Sp 5 (noughts k) [] 20 := (sp_noughts (.inr rfl) k).1 (by omega)
          have S4 : Sp 4 (noughts k) [] 20 := (sp_noughts (.inl rfl) k).1 (by omega)
          have hmk4 : ∀ W : World, (Instr.makeSlice 33 (.int .i64 0) (.int .i64 0)).run Try.prog W = .ok (.slice (some ⟨W.heap.size, 0, none⟩) 0 0) (W.alloc (.cells (zerosV 0) 5)) := run_make_zeros 0 (by omega)
          have H5 := Lib.hid S5
          have H4 := Lib.hid S4
          clear S5 S4 HC
          go_wp2_with fail
          refine (OpenHex32 _ _ _ _ H5.out (by rw [noughts_size]; omega)).mono ?_
          rintro e w5 ⟨A5, cap5, rfl, hd5, hb5⟩
          have hcv5 := hcv w5 hb5
          go_wp2_with fail
          refine (OpenHex _ _ _ _ H4.out (by rw [noughts_size]; omega)).mono ?_
          rintro e w6 ⟨A6, cap6, rfl, hd6, hb6⟩
          have b6 := hbw.trans (hb5.mono hbw.size)
          have b7 := b6.trans (hb6.mono b6.size)
          have hlast := hd6.below ((Below.refl w6.heap.size w6).alloc (Nat.le_refl _) (.cells (zerosV 0) 5))
          go_wp2_with fail
          refine (bytesEqn _ _ ([] : List UInt8) ([] : List UInt8) _ _ _ _ _ hlast (cs_new w6 5 (([] : List UInt8).map byteV) (0, 0)) rfl rfl).mono ?_
          rintro e w8 ⟨rfl, rfl⟩
          go_wp2_with fail
          go_ret
          exact ⟨ret_bool (by simp), b7.alloc b7.size _⟩
        · have g1 : (k : Int) % 8 = 6 := by omega
          have g2 : (k : Int) % 2 = 0 := by omega
          have HC := Lib.hid hc
          clear hc
          have S5 : Sp 5 (noughts k) [] 20 := (sp_noughts (.inr rfl) k).1 (by omega)
          obtain ⟨m4, hm4⟩ : ∃ m4, m4 = k / 2 := ⟨_, rfl⟩
          have z4 := zeros_length m4
          have g4 : (k : Int) / 2 = (m4 : Int) := by omega
          have S4 : Sp 4 (noughts k) (zeros m4) 0 := by rw [hm4, show k / 2 = 4 * k / 8 from by omega]; exact (sp_noughts (.inl rfl) k).2 (by omega)
          have hmk4 := run_make_zeros m4 (by omega)
          clear hm4
          have H5 := Lib.hid S5
          have H4 := Lib.hid S4
          clear S5 S4 HC
          go_wp2_with fail
          refine (OpenHex32 _ _ _ _ H5.out (by rw [noughts_size]; omega)).mono ?_
          rintro e w5 ⟨A5, cap5, rfl, hd5, hb5⟩
          have hcv5 := hcv w5 hb5
          go_wp2_with fail
          refine (OpenHex _ _ _ _ H4.out (by rw [noughts_size]; omega)).mono ?_
          rintro e w6 ⟨A6, cap6, rfl, hd6, hb6⟩
          have b6 := hbw.trans (hb5.mono hbw.size)
          have b7 := b6.trans (hb6.mono b6.size)
          have hlast := hd6.below ((Below.refl w6.heap.size w6).alloc (Nat.le_refl _) (.cells (zerosV m4) 5))
          go_wp2_with fail
          refine (bytesEqn _ _ (zeros m4) (zeros m4) _ _ _ _ _ hlast (cs_new w6 5 ((zeros m4).map byteV) (0, 0)) z4 z4).mono ?_
          rintro e w8 ⟨rfl, rfl⟩
          go_wp2_with fail
          go_ret
          exact ⟨ret_bool (by simp), b7.alloc b7.size _⟩
      · have hc : k % 8 ≠ 1 ∧ k % 8 ≠ 3 ∧ k % 8 ≠ 6 := by omega
        obtain ⟨kk, hkk⟩ : ∃ kk : Nat, kk = k % 8 := ⟨_, rfl⟩
        have g1 : (k : Int) % 8 = (kk : Int) := by omega
        have gx1 : ((kk : Int) == 1) = false := by simp; omega
        have gx3 : ((kk : Int) == 3) = false := by simp; omega
        have gx6 : ((kk : Int) == 6) = false := by simp; omega
        have HC := Lib.hid hc
        clear hc hkk
        by_cases hodd : k % 2 = 1
        · have g2 : (k : Int) % 2 = 1 := by omega
          clear hodd
          obtain ⟨m5, hm5⟩ : ∃ m5, m5 = 5 * k / 8 := ⟨_, rfl⟩
          have z5 := zeros_length m5
          have g5 : 5 * (k : Int) / 8 = (m5 : Int) := by omega
          have S5 : Sp 5 (noughts k) (zeros m5) 0 := by rw [hm5]; exact (sp_noughts (.inr rfl) k).2 (by omega)
          clear hm5
          have S4 : Sp 4 (noughts k) [] 20 := (sp_noughts (.inl rfl) k).1 (by omega)
          have hmk4 : ∀ W : World, (Instr.makeSlice 33 (.int .i64 0) (.int .i64 0)).run Try.prog W = .ok (.slice (some ⟨W.heap.size, 0, none⟩) 0 0) (W.alloc (.cells (zerosV 0) 5)) := run_make_zeros 0 (by omega)
          have H5 := Lib.hid S5
          have H4 := Lib.hid S4
          clear S5 S4 HC
          go_wp2_with fail
          refine (OpenHex32 _ _ _ _ H5.out (by rw [noughts_size]; omega)).mono ?_
          rintro e w5 ⟨A5, cap5, rfl, hd5, hb5⟩
          have hcv5 := hcv w5 hb5
          go_wp2_with fail
          refine (OpenHex _ _ _ _ H4.out (by rw [noughts_size]; omega)).mono ?_
          rintro e w6 ⟨A6, cap6, rfl, hd6, hb6⟩
          have b6 := hbw.trans (hb5.mono hbw.size)
          have b7 := b6.trans (hb6.mono b6.size)
          have hlast := hd6.below ((Below.refl w6.heap.size w6).alloc (Nat.le_refl _) (.cells (zerosV 0) 5))
          go_wp2_with fail
          refine (bytesEqn _ _ ([] : List UInt8) ([] : List UInt8) _ _ _ _ _ hlast (cs_new w6 5 (([] : List UInt8).map byteV) (0, 0)) rfl rfl).mono ?_
          rintro e w8 ⟨rfl, rfl⟩
          go_wp2_with fail
          go_ret
          exact ⟨ret_bool (by simp), b7.alloc b7.size _⟩
        · have g2 : (k : Int) % 2 = 0 := by omega
          clear hodd
          obtain ⟨m5, hm5⟩ : ∃ m5, m5 = 5 * k / 8 := ⟨_, rfl⟩
          have z5 := zeros_length m5
          have g5 : 5 * (k : Int) / 8 = (m5 : Int) := by omega
          have S5 : Sp 5 (noughts k) (zeros m5) 0 := by rw [hm5]; exact (sp_noughts (.inr rfl) k).2 (by omega)
          clear hm5
          obtain ⟨m4, hm4⟩ : ∃ m4, m4 = k / 2 := ⟨_, rfl⟩
          have z4 := zeros_length m4
          have g4 : (k : Int) / 2 = (m4 : Int) := by omega
          have S4 : Sp 4 (noughts k) (zeros m4) 0 := by rw [hm4, show k / 2 = 4 * k / 8 from by omega]; exact (sp_noughts (.inl rfl) k).2 (by omega)
          have hmk4 := run_make_zeros m4 (by omega)
          clear hm4
          have H5 := Lib.hid S5
          have H4 := Lib.hid S4
          clear S5 S4 HC
          go_wp2_with fail
          refine (OpenHex32 _ _ _ _ H5.out (by rw [noughts_size]; omega)).mono ?_
          rintro e w5 ⟨A5, cap5, rfl, hd5, hb5⟩
          have hcv5 := hcv w5 hb5
          go_wp2_with fail
          refine (OpenHex _ _ _ _ H4.out (by rw [noughts_size]; omega)).mono ?_
          rintro e w6 ⟨A6, cap6, rfl, hd6, hb6⟩
          have b6 := hbw.trans (hb5.mono hbw.size)
          have b7 := b6.trans (hb6.mono b6.size)
          have hlast := hd6.below ((Below.refl w6.heap.size w6).alloc (Nat.le_refl _) (.cells (zerosV m4) 5))
          go_wp2_with fail
          refine (bytesEqn _ _ (zeros m4) (zeros m4) _ _ _ _ _ hlast (cs_new w6 5 ((zeros m4).map byteV) (0, 0)) z4 z4).mono ?_
          rintro e w8 ⟨rfl, rfl⟩
          go_wp2_with fail
          go_ret
          exact ⟨ret_bool (by simp), b7.alloc b7.size _⟩

theorem lengths_u8 (a : Int) (h : (Lit.int .u8 a).wf = true) (w : World) : Calls Try.prog 11 #[.int .u8 a] w fun e w' => e = .returned (.bool true) ∧ Below w.heap.size w w' := by
  have hb := bounds_u8 h
  obtain ⟨n, rfl⟩ := Int.eq_ofNat_of_zero_le hb.1
  exact lengths_core n (by omega) w

end Base
end Go.Proofs.Ytlbonlkogelhkaa
