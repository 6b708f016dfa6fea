/-
  Contracts of package base.
-/
import Derived.Test.YtlbonlkogelhkaaMem
import Derived.Test.YtlbonlkogelhkaaBaseMath
import Derived.Lib.Hide
namespace Go.Proofs.Ytlbonlkogelhkaa
open Go.RowKit
set_option linter.unusedVariables false
namespace Base

theorem info_u8 : (Try.prog.info? 5).map (fun i => (i.zero, i.size, i.bytes)) = some (some (.int .u8 0), 1, 1) := by kernel_rfl

/-- the number of bytes -/
def numB (l : List UInt8) : Nat := BaseM.num 256 (l.map UInt8.toNat)
/-- digits as cells -/
def digV (d : Nat) : Value := byteV (UInt8.ofNat (BaseM.dch d))
def outV (s m N : Nat) : List Value := (BaseM.digs (2 ^ s) m N).map digV

def TxOuter (s : Nat) (l : List UInt8) (w : World) (v bits n i : Value) (wr : World) : Prop :=
  ∃ k r m N : Nat, k ≤ l.length ∧ i = .int .i64 k ∧ bits = .int .i64 r ∧ r < s ∧ 8 * k = s * m + r ∧ n = .int .u32 ((N : Int) % 4294967296) ∧ N = numB (l.take k) ∧
    wr.ownsRow w.heap.size 5 1 v m (outV s m (N / 2 ^ r)) ∧ Below w.heap.size w wr
def TxInner (s k N : Nat) (w : World) (v bits : Value) (wr : World) : Prop :=
  ∃ r m : Nat, bits = .int .i64 r ∧ r < s + 8 ∧ 8 * k + 8 = s * m + r ∧
    wr.ownsRow w.heap.size 5 1 v m (outV s m (N / 2 ^ r)) ∧ Below w.heap.size w wr

theorem or8 (N x : Nat) (hx : x < 256) : bits BinOp.or IntKind.u32 ((N : Int) % 4294967296 * 256 % 4294967296) (x : Int) = ((N * 256 + x : Nat) : Int) % 4294967296 := by
  have e : (N : Int) % 4294967296 * 256 % 4294967296 = ((2 ^ 8 * (N % 16777216) : Nat) : Int) := by omega
  rw [e, u32_or_nat _ _ (by omega) (by omega), ← Nat.two_pow_add_eq_or_of_lt (by omega : x < 2 ^ 8)]
  omega
theorem cases8 {p : Nat → Prop} (h0 : p 0) (h1 : p 1) (h2 : p 2) (h3 : p 3) (h4 : p 4) (h5 : p 5) (h6 : p 6) (h7 : p 7) (r : Nat) (h : r < 8) : p r := by
  match r, h with
  | 0, _ => exact h0
  | 1, _ => exact h1
  | 2, _ => exact h2
  | 3, _ => exact h3
  | 4, _ => exact h4
  | 5, _ => exact h5
  | 6, _ => exact h6
  | 7, _ => exact h7
theorem pow32 (N r : Nat) (hr : r < 8) : N % 4294967296 / 2 ^ r % 32 = N / 2 ^ r % 32 := by
  revert N; exact cases8 (p := fun r => ∀ N : Nat, N % 4294967296 / 2 ^ r % 32 = N / 2 ^ r % 32) (by omega) (by omega) (by omega) (by omega) (by omega) (by omega) (by omega) (by omega) r hr
theorem pow16 (N r : Nat) (hr : r < 8) : N % 4294967296 / 2 ^ r % 16 = N / 2 ^ r % 16 := by
  revert N; exact cases8 (p := fun r => ∀ N : Nat, N % 4294967296 / 2 ^ r % 16 = N / 2 ^ r % 16) (by omega) (by omega) (by omega) (by omega) (by omega) (by omega) (by omega) (by omega) r hr
theorem and31 (N r : Nat) (hr : r < 8) : bits BinOp.and IntKind.u32 ((N : Int) % 4294967296 / 2 ^ r) 31 = ((N / 2 ^ r % 32 : Nat) : Int) := by
  have e : (N : Int) % 4294967296 / 2 ^ r = ((N % 4294967296 / 2 ^ r : Nat) : Int) := by simp
  have hl : N % 4294967296 / 2 ^ r ≤ N % 4294967296 := Nat.div_le_self _ _
  rw [e, show (31 : Int) = ((31 : Nat) : Int) from rfl, u32_and_nat _ _ (by omega) (by omega), show (31 : Nat) = 2 ^ 5 - 1 from rfl, Nat.and_two_pow_sub_one_eq_mod, show 2 ^ 5 = 32 from rfl, pow32 N r hr]
theorem and15 (N r : Nat) (hr : r < 8) : bits BinOp.and IntKind.u32 ((N : Int) % 4294967296 / 2 ^ r) 15 = ((N / 2 ^ r % 16 : Nat) : Int) := by
  have e : (N : Int) % 4294967296 / 2 ^ r = ((N % 4294967296 / 2 ^ r : Nat) : Int) := by simp
  have hl : N % 4294967296 / 2 ^ r ≤ N % 4294967296 := Nat.div_le_self _ _
  rw [e, show (15 : Int) = ((15 : Nat) : Int) from rfl, u32_and_nat _ _ (by omega) (by omega), show (15 : Nat) = 2 ^ 4 - 1 from rfl, Nat.and_two_pow_sub_one_eq_mod, show 2 ^ 4 = 16 from rfl, pow16 N r hr]

theorem shl32 (N r : Nat) (hr : r < 8) : N % 4294967296 * 2 ^ r % 4294967296 % 32 = N * 2 ^ r % 32 := by
  revert N; exact cases8 (p := fun r => ∀ N : Nat, N % 4294967296 * 2 ^ r % 4294967296 % 32 = N * 2 ^ r % 32) (by omega) (by omega) (by omega) (by omega) (by omega) (by omega) (by omega) (by omega) r hr
theorem shl16 (N r : Nat) (hr : r < 8) : N % 4294967296 * 2 ^ r % 4294967296 % 16 = N * 2 ^ r % 16 := by
  revert N; exact cases8 (p := fun r => ∀ N : Nat, N % 4294967296 * 2 ^ r % 4294967296 % 16 = N * 2 ^ r % 16) (by omega) (by omega) (by omega) (by omega) (by omega) (by omega) (by omega) (by omega) r hr
theorem shland31 (N r : Nat) (hr : r < 8) : bits BinOp.and IntKind.u32 ((N : Int) % 4294967296 * 2 ^ r % 4294967296) 31 = ((N * 2 ^ r % 32 : Nat) : Int) := by
  have e : (N : Int) % 4294967296 * 2 ^ r % 4294967296 = ((N % 4294967296 * 2 ^ r % 4294967296 : Nat) : Int) := by rw [Int.natCast_emod, Int.natCast_mul, Int.natCast_emod, Int.natCast_pow]; rfl
  rw [e, show (31 : Int) = ((31 : Nat) : Int) from rfl, u32_and_nat _ _ (by omega) (by omega), show (31 : Nat) = 2 ^ 5 - 1 from rfl, Nat.and_two_pow_sub_one_eq_mod, show 2 ^ 5 = 32 from rfl, shl32 N r hr]
theorem shland15 (N r : Nat) (hr : r < 8) : bits BinOp.and IntKind.u32 ((N : Int) % 4294967296 * 2 ^ r % 4294967296) 15 = ((N * 2 ^ r % 16 : Nat) : Int) := by
  have e : (N : Int) % 4294967296 * 2 ^ r % 4294967296 = ((N % 4294967296 * 2 ^ r % 4294967296 : Nat) : Int) := by rw [Int.natCast_emod, Int.natCast_mul, Int.natCast_emod, Int.natCast_pow]; rfl
  rw [e, show (15 : Int) = ((15 : Nat) : Int) from rfl, u32_and_nat _ _ (by omega) (by omega), show (15 : Nat) = 2 ^ 4 - 1 from rfl, Nat.and_two_pow_sub_one_eq_mod, show 2 ^ 4 = 16 from rfl, shl16 N r hr]

/-- the letters of digits -/
def letters : ByteArray := ⟨#[48, 49, 50, 51, 52, 53, 54, 55, 56, 57, 97, 98, 99, 100, 101, 102, 103, 104, 105, 106, 107, 108, 109, 110, 111, 112, 113, 114, 115, 116, 117, 118]⟩
def digB (d : Nat) : UInt8 := UInt8.ofNat (BaseM.dch d)
theorem dig_idx : ∀ d : Nat, ∀ h : d < 32, ((⟨#[48, 49, 50, 51, 52, 53, 54, 55, 56, 57, 97, 98, 99, 100, 101, 102, 103, 104, 105, 106, 107, 108, 109, 110, 111, 112, 113, 114, 115, 116, 117, 118]⟩ : ByteArray)[d]'h) = digB d := by decide +kernel
theorem outV_eq (s m N : Nat) : outV s m N = ((BaseM.digs (2 ^ s) m N).map digB).map byteV := by unfold outV; rw [List.map_map]; rfl
theorem outV_succ (s m V : Nat) : outV s m (V / 2 ^ s) ++ [digV (V % 2 ^ s)] = outV s (m + 1) V := by simp [outV, BaseM.digs]
theorem numB_succ (l : List UInt8) (k : Nat) (h : k < l.length) : numB (l.take (k + 1)) = numB (l.take k) * 256 + l[k].toNat := by
  unfold numB
  rw [List.take_succ_eq_append_getElem h, List.map_append, List.map_cons, List.map_nil, BaseM.num_snoc]

/-- all bits are told -/
theorem enc_done {s : Nat} (hs : s = 4 ∨ s = 5) (l : List UInt8) (m : Nat) (h : 8 * l.length = s * m) : (BaseM.digs (2 ^ s) m (numB l)).map digB = (BaseM.enc s (l.map UInt8.toNat)).map UInt8.ofNat := by
  have e : BaseM.cnt s l.length = m := by unfold BaseM.cnt; rcases hs with rfl | rfl <;> omega
  unfold BaseM.enc BaseM.encD
  rw [List.length_map, e, ← h, Nat.sub_self, Nat.pow_zero, Nat.mul_one, List.map_map]
  rfl
/-- some bits are left over -/
theorem enc_rest {s : Nat} (hs : s = 4 ∨ s = 5) (l : List UInt8) (m r : Nat) (h : 8 * l.length = s * m + r) (h0 : 0 < r) (h1 : r < s) :
    (BaseM.digs (2 ^ s) m (numB l / 2 ^ r)).map digB ++ [digB (numB l * 2 ^ (s - r) % 2 ^ s)] = (BaseM.enc s (l.map UInt8.toNat)).map UInt8.ofNat := by
  have e : BaseM.cnt s l.length = m + 1 := by unfold BaseM.cnt; rcases hs with rfl | rfl <;> omega
  have e2 : s * (m + 1) - 8 * l.length = s - r := by rw [Nat.mul_succ]; omega
  unfold BaseM.enc BaseM.encD
  rw [List.length_map, e, e2, List.map_map]
  show _ = (BaseM.digs (2 ^ s) (m + 1) (numB l * 2 ^ (s - r))).map digB
  rw [BaseM.digs, List.map_append]
  congr 3
  rw [show 2 ^ s = 2 ^ (s - r) * 2 ^ r from by rw [← Nat.pow_add]; congr 1; omega, Nat.mul_comm (2 ^ (s - r)) (2 ^ r), Nat.mul_div_mul_right _ _ (Nat.pow_pos (by omega))]

set_option maxHeartbeats 400000 in
theorem texted5 (A : Option Addr) (l : List UInt8) (cap : Nat) (w : World) (hc : Cs w A (l.map byteV)) (hl : l.length ≤ 1000000) :
    Calls Try.prog 33 #[.slice A l.length cap, .int .i64 5] w fun e w' => e = .returned (.string ⟨((BaseM.enc 5 (l.map UInt8.toNat)).map UInt8.ofNat).toArray⟩) ∧ Below w.heap.size w w' := by
  obtain ⟨i0, hi, hz0, hz1, hz2⟩ := info_parts info_u8
  go_enter Try.func33, Try.ntmps33
  go_wp2
  go_loopw [5, 6, 7, 12] (TxOuter 5 l w) (fun _ _ _ i _ => l.length - (intOf i).toNat)
  case atStart => exact ⟨0, 0, 0, 0, Nat.zero_le _, rfl, rfl, by omega, by omega, rfl, rfl, World.ownsRow_nil _ _ _ _, Below.refl _ _⟩
  case round =>
    obtain ⟨k, r, m, N, hk, rfl, rfl, hr, hkm, rfl, hN, hown, hbel⟩ := hrel
    have HN : Hid (N = numB (l.take k)) := hN
    have HK : Hid (8 * k = 5 * m + r) := hkm
    clear hN hkm
    by_cases hlt : k < l.length
    · obtain ⟨b, off, rfl, hb, hc0⟩ := hc.byte hlt
      have hc1 := (hbel.cell (p := ⟨b, off + k, none⟩) hb).trans hc0
      have hx : l[k].toNat < 256 := UInt8.toNat_lt _
      obtain ⟨N', hN'⟩ : ∃ N', N' = N * 256 + l[k].toNat := ⟨_, rfl⟩
      have h7 := or8 N l[k].toNat hx
      rw [← hN'] at h7
      have HN' : Hid (N' = N * 256 + l[k].toNat) := hN'
      clear hN'
      go_wp2
      clear h7
      go_loopw [5, 6] (TxInner 5 k N' w) (fun _ b _ => (intOf b).toNat)
      case atStart =>
        refine ⟨r + 8, m, by go_num, by omega, by have := HK.out; omega, ?_, hbel⟩
        rw [HN'.out, Nat.pow_add, Nat.mul_comm (2 ^ r), ← Nat.div_div_eq_div_mul, show (2 : Nat) ^ 8 = 256 from rfl, show (N * 256 + l[k].toNat) / 256 = N from by omega]
        exact hown
      case round =>
        obtain ⟨r', m', rfl, hr', hkm', hown', hbel'⟩ := hrel
        have HK' : Hid (8 * k + 8 = 5 * m' + r') := hkm'
        clear hkm'
        by_cases h5 : 5 ≤ r'
        · have h8 := and31 N' (r' - 5) (by omega)
          have h9 : N' / 2 ^ (r' - 5) % 32 < 32 := Nat.mod_lt _ (by omega)
          obtain ⟨d, hd⟩ : ∃ d, d = N' / 2 ^ (r' - 5) % 32 := ⟨_, rfl⟩
          rw [← hd] at h8 h9
          have HD : Hid (d = N' / 2 ^ (r' - 5) % 32) := hd
          clear hd
          have h9' : (d : Int) < 32 := by omega
          have hix := dig_idx d h9
          have hm : m' ≤ 2000000 := by have := HK'.out; omega
          go_wp2_with (at_builtin; refine wpList_push hown' hbel' [digV d] rfl (by simp [digV, byteV, Value.oneCell']) hi hz0 hz1 hz2 rfl (by decide) rfl _ _ 33 Try.underlying33 rfl rfl rfl (by unfold maxLen; omega) (by omega) ?_; intro v1 w1 hown1 hbel1)
          go_roundw
          case rel =>
            refine ⟨r' - 5, m' + 1, by go_num, by omega, by have := HK'.out; omega, ?_, hbel1⟩
            rw [← outV_succ, ← HD.out, Nat.div_div_eq_div_mul, ← Nat.pow_add, show r' - 5 + 5 = r' from by omega]
            exact hown1
          case measure => simp [intOf]; omega
        · go_wp2
          refine ⟨⟨k + 1, r', m', N', by omega, by go_num, rfl, by omega, by have := HK'.out; omega, rfl, ?_, hown', hbel'⟩, by simp [intOf]; omega⟩
          rw [numB_succ _ _ hlt, ← HN.out]
          exact HN'.out
    · obtain rfl : k = l.length := by omega
      have hN1 : N = numB l := by rw [HN.out, List.take_length]
      by_cases h0 : r = 0
      · subst h0
        have hfin := enc_done (s := 5) (.inr rfl) l m (by have := HK.out; omega)
        have hcv := run_str_own (P := Try.prog) wr Try.underlying33 Try.underlying5 Try.underlying9 (l := (BaseM.digs (2 ^ 5) m N).map digB) (by rw [Nat.pow_zero, Nat.div_one, outV_eq] at hown; exact hown)
        have HN1 : Hid (N = numB l) := hN1
        clear hN1
        go_wp2
        go_ret
        exact ⟨ret_str (by rw [HN1.out, hfin]), hbel⟩
      · have hfin := enc_rest (s := 5) (.inr rfl) l m r (by have := HK.out; omega) (by omega) hr
        rw [← hN1] at hfin
        have HF := Lib.hid hfin
        clear hfin hN1
        have h8 := shland31 N (5 - r) (by omega)
        have h9 : N * 2 ^ (5 - r) % 32 < 32 := Nat.mod_lt _ (by omega)
        obtain ⟨d, hd⟩ : ∃ d, d = N * 2 ^ (5 - r) % 32 := ⟨_, rfl⟩
        rw [← hd] at h8 h9
        have HD : Hid (d = N * 2 ^ (5 - r) % 32) := hd
        clear hd
        have h9' : (d : Int) < 32 := by omega
        have hix := dig_idx d h9
        have hm : m ≤ 2000000 := by have := HK.out; omega
        go_wp2_with (at_builtin; refine wpList_push hown hbel [digV d] rfl (by simp [digV, byteV, Value.oneCell']) hi hz0 hz1 hz2 rfl (by decide) rfl _ _ 33 Try.underlying33 rfl rfl rfl (by unfold maxLen; omega) (by omega) ?_; intro v1 w1 hown1 hbel1; have hcv := run_str_own (P := Try.prog) w1 Try.underlying33 Try.underlying5 Try.underlying9 (l := (BaseM.digs (2 ^ 5) m (N / 2 ^ r)).map digB ++ [digB d]) (by rw [outV_eq] at hown1; rw [List.map_append]; exact hown1))
        go_ret
        exact ⟨ret_str (by rw [← HF.out, HD.out]), hbel1⟩

set_option maxHeartbeats 400000 in
theorem texted4 (A : Option Addr) (l : List UInt8) (cap : Nat) (w : World) (hc : Cs w A (l.map byteV)) (hl : l.length ≤ 1000000) :
    Calls Try.prog 33 #[.slice A l.length cap, .int .i64 4] w fun e w' => e = .returned (.string ⟨((BaseM.enc 4 (l.map UInt8.toNat)).map UInt8.ofNat).toArray⟩) ∧ Below w.heap.size w w' := by
  obtain ⟨i0, hi, hz0, hz1, hz2⟩ := info_parts info_u8
  go_enter Try.func33, Try.ntmps33
  go_wp2
  go_loopw [5, 6, 7, 12] (TxOuter 4 l w) (fun _ _ _ i _ => l.length - (intOf i).toNat)
  case atStart => exact ⟨0, 0, 0, 0, Nat.zero_le _, rfl, rfl, by omega, by omega, rfl, rfl, World.ownsRow_nil _ _ _ _, Below.refl _ _⟩
  case round =>
    obtain ⟨k, r, m, N, hk, rfl, rfl, hr, hkm, rfl, hN, hown, hbel⟩ := hrel
    have HN : Hid (N = numB (l.take k)) := hN
    have HK : Hid (8 * k = 4 * m + r) := hkm
    clear hN hkm
    by_cases hlt : k < l.length
    · obtain ⟨b, off, rfl, hb, hc0⟩ := hc.byte hlt
      have hc1 := (hbel.cell (p := ⟨b, off + k, none⟩) hb).trans hc0
      have hx : l[k].toNat < 256 := UInt8.toNat_lt _
      obtain ⟨N', hN'⟩ : ∃ N', N' = N * 256 + l[k].toNat := ⟨_, rfl⟩
      have h7 := or8 N l[k].toNat hx
      rw [← hN'] at h7
      have HN' : Hid (N' = N * 256 + l[k].toNat) := hN'
      clear hN'
      go_wp2
      clear h7
      go_loopw [5, 6] (TxInner 4 k N' w) (fun _ b _ => (intOf b).toNat)
      case atStart =>
        refine ⟨r + 8, m, by go_num, by omega, by have := HK.out; omega, ?_, hbel⟩
        rw [HN'.out, Nat.pow_add, Nat.mul_comm (2 ^ r), ← Nat.div_div_eq_div_mul, show (2 : Nat) ^ 8 = 256 from rfl, show (N * 256 + l[k].toNat) / 256 = N from by omega]
        exact hown
      case round =>
        obtain ⟨r', m', rfl, hr', hkm', hown', hbel'⟩ := hrel
        have HK' : Hid (8 * k + 8 = 4 * m' + r') := hkm'
        clear hkm'
        by_cases h5 : 4 ≤ r'
        · have h8 := and15 N' (r' - 4) (by omega)
          have h9 : N' / 2 ^ (r' - 4) % 16 < 16 := Nat.mod_lt _ (by omega)
          obtain ⟨d, hd⟩ : ∃ d, d = N' / 2 ^ (r' - 4) % 16 := ⟨_, rfl⟩
          rw [← hd] at h8 h9
          have HD : Hid (d = N' / 2 ^ (r' - 4) % 16) := hd
          clear hd
          have h9' : (d : Int) < 16 := by omega
          have hix := dig_idx d (by omega)
          have hm : m' ≤ 2000000 := by have := HK'.out; omega
          go_wp2_with (at_builtin; refine wpList_push hown' hbel' [digV d] rfl (by simp [digV, byteV, Value.oneCell']) hi hz0 hz1 hz2 rfl (by decide) rfl _ _ 33 Try.underlying33 rfl rfl rfl (by unfold maxLen; omega) (by omega) ?_; intro v1 w1 hown1 hbel1)
          go_roundw
          case rel =>
            refine ⟨r' - 4, m' + 1, by go_num, by omega, by have := HK'.out; omega, ?_, hbel1⟩
            rw [← outV_succ, ← HD.out, Nat.div_div_eq_div_mul, ← Nat.pow_add, show r' - 4 + 4 = r' from by omega]
            exact hown1
          case measure => simp [intOf]; omega
        · go_wp2
          refine ⟨⟨k + 1, r', m', N', by omega, by go_num, rfl, by omega, by have := HK'.out; omega, rfl, ?_, hown', hbel'⟩, by simp [intOf]; omega⟩
          rw [numB_succ _ _ hlt, ← HN.out]
          exact HN'.out
    · obtain rfl : k = l.length := by omega
      have hN1 : N = numB l := by rw [HN.out, List.take_length]
      by_cases h0 : r = 0
      · subst h0
        have hfin := enc_done (s := 4) (.inl rfl) l m (by have := HK.out; omega)
        have hcv := run_str_own (P := Try.prog) wr Try.underlying33 Try.underlying5 Try.underlying9 (l := (BaseM.digs (2 ^ 4) m N).map digB) (by rw [Nat.pow_zero, Nat.div_one, outV_eq] at hown; exact hown)
        have HN1 : Hid (N = numB l) := hN1
        clear hN1
        go_wp2
        go_ret
        exact ⟨ret_str (by rw [HN1.out, hfin]), hbel⟩
      · have hfin := enc_rest (s := 4) (.inl rfl) l m r (by have := HK.out; omega) (by omega) hr
        rw [← hN1] at hfin
        have HF := Lib.hid hfin
        clear hfin hN1
        have h8 := shland15 N (4 - r) (by omega)
        have h9 : N * 2 ^ (4 - r) % 16 < 16 := Nat.mod_lt _ (by omega)
        obtain ⟨d, hd⟩ : ∃ d, d = N * 2 ^ (4 - r) % 16 := ⟨_, rfl⟩
        rw [← hd] at h8 h9
        have HD : Hid (d = N * 2 ^ (4 - r) % 16) := hd
        clear hd
        have h9' : (d : Int) < 16 := by omega
        have hix := dig_idx d (by omega)
        have hm : m ≤ 2000000 := by have := HK.out; omega
        go_wp2_with (at_builtin; refine wpList_push hown hbel [digV d] rfl (by simp [digV, byteV, Value.oneCell']) hi hz0 hz1 hz2 rfl (by decide) rfl _ _ 33 Try.underlying33 rfl rfl rfl (by unfold maxLen; omega) (by omega) ?_; intro v1 w1 hown1 hbel1; have hcv := run_str_own (P := Try.prog) w1 Try.underlying33 Try.underlying5 Try.underlying9 (l := (BaseM.digs (2 ^ 4) m (N / 2 ^ r)).map digB ++ [digB d]) (by rw [outV_eq] at hown1; rw [List.map_append]; exact hown1))
        go_ret
        exact ⟨ret_str (by rw [← HF.out, HD.out]), hbel1⟩

end Base
end Go.Proofs.Ytlbonlkogelhkaa
