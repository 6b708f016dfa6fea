/-
  Contracts of the reference's texts of bytes (signetref1: Hex32, Hex, OpenHex32, OpenHex).
-/
import Derived.Test.YtlbonlkogelhkaaBase2
import Derived.Deep.QuietTactic
import Derived.BigQuiet
namespace Go.Proofs.Ytlbonlkogelhkaa
open Go.RowKit
set_option linter.unusedVariables false
namespace Base

def txt (s m V : Nat) : ByteArray := ⟨((BaseM.digs (2 ^ s) m V).map digB).toArray⟩
def HxOuter (l : List UInt8) (t n bits i : Value) : Prop :=
  ∃ k r m N : Nat, k ≤ l.length ∧ i = .int .i64 k ∧ bits = .int .i64 r ∧ r < 5 ∧ 8 * k = 5 * m + r ∧ n = .int .u32 ((N : Int) % 32) ∧ N = numB (l.take k) ∧ t = .string (txt 5 m (N / 2 ^ r))
def HxInner (k N : Nat) (t bits : Value) : Prop :=
  ∃ r m : Nat, bits = .int .i64 r ∧ r < 13 ∧ 8 * k + 8 = 5 * m + r ∧ t = .string (txt 5 m (N / 2 ^ r))
theorem or8s (N x : Nat) (hx : x < 256) : bits BinOp.or IntKind.u32 ((N : Int) % 32 * 256) (x : Int) = ((N * 256 + x : Nat) : Int) % 8192 := by
  have e : (N : Int) % 32 * 256 = ((2 ^ 8 * (N % 32) : Nat) : Int) := by omega
  rw [e, u32_or_nat _ _ (by omega) (by omega), ← Nat.two_pow_add_eq_or_of_lt (by omega : x < 2 ^ 8)]
  omega

theorem and31s (N r : Nat) (hr : r < 8) : bits BinOp.and IntKind.u32 ((N : Int) % 8192 / 2 ^ r) 31 = ((N / 2 ^ r % 32 : Nat) : Int) := by
  have e : (N : Int) % 8192 / 2 ^ r = ((N % 8192 / 2 ^ r : Nat) : Int) := by simp
  have hl : N % 8192 / 2 ^ r ≤ N % 8192 := Nat.div_le_self _ _
  have e2 : N % 8192 / 2 ^ r % 32 = N / 2 ^ r % 32 := by
    clear e hl
    revert N; exact cases8 (p := fun r => ∀ N : Nat, N % 8192 / 2 ^ r % 32 = N / 2 ^ r % 32) (by omega) (by omega) (by omega) (by omega) (by omega) (by omega) (by omega) (by omega) r hr
  rw [e, show (31 : Int) = ((31 : Nat) : Int) from rfl, u32_and_nat _ _ (by omega) (by omega), show (31 : Nat) = 2 ^ 5 - 1 from rfl, Nat.and_two_pow_sub_one_eq_mod, show 2 ^ 5 = 32 from rfl, e2]
theorem and31t (N : Nat) : bits BinOp.and IntKind.u32 ((N : Int) % 8192) 31 = (N : Int) % 32 := by
  have e : (N : Int) % 8192 = ((N % 8192 : Nat) : Int) := by omega
  rw [e, show (31 : Int) = ((31 : Nat) : Int) from rfl, u32_and_nat _ _ (by omega) (by omega), show (31 : Nat) = 2 ^ 5 - 1 from rfl, Nat.and_two_pow_sub_one_eq_mod]
  omega
theorem shl31s (N r : Nat) (hr : r < 8) : bits BinOp.and IntKind.u32 ((N : Int) % 32 * 2 ^ r % 4294967296) 31 = ((N * 2 ^ r % 32 : Nat) : Int) := by
  have e : (N : Int) % 32 * 2 ^ r % 4294967296 = ((N % 32 * 2 ^ r % 4294967296 : Nat) : Int) := by rw [Int.natCast_emod, Int.natCast_mul, Int.natCast_emod, Int.natCast_pow]; rfl
  have e2 : N % 32 * 2 ^ r % 4294967296 % 32 = N * 2 ^ r % 32 := by
    clear e
    revert N; exact cases8 (p := fun r => ∀ N : Nat, N % 32 * 2 ^ r % 4294967296 % 32 = N * 2 ^ r % 32) (by omega) (by omega) (by omega) (by omega) (by omega) (by omega) (by omega) (by omega) r hr
  rw [e, show (31 : Int) = ((31 : Nat) : Int) from rfl, u32_and_nat _ _ (by omega) (by omega), show (31 : Nat) = 2 ^ 5 - 1 from rfl, Nat.and_two_pow_sub_one_eq_mod, show 2 ^ 5 = 32 from rfl, e2]
theorem dig_ext : ∀ d : Nat, d < 32 → ((⟨#[48, 49, 50, 51, 52, 53, 54, 55, 56, 57, 97, 98, 99, 100, 101, 102, 103, 104, 105, 106, 107, 108, 109, 110, 111, 112, 113, 114, 115, 116, 117, 118]⟩ : ByteArray).extract d (d + 1)) = ⟨#[digB d]⟩ := by decide +kernel
theorem txt_succ (s m V : Nat) : txt s m (V / 2 ^ s) ++ ⟨#[digB (V % 2 ^ s)]⟩ = txt s (m + 1) V := by
  unfold txt
  simp only [BaseM.digs, List.map_append, List.map_cons, List.map_nil]
  apply ByteArray.ext
  simp
theorem txt_size (s m V : Nat) : (txt s m V).size = m := by
  simp [txt, ByteArray.size, BaseM.digs_length]

set_option maxHeartbeats 1000000 in
theorem refHex32 (A : Option Addr) (l : List UInt8) (cap : Nat) (w : World) (hc : Cs w A (l.map byteV)) (hl : l.length ≤ 1000000) :
    Calls Try.prog 27 #[.slice A l.length cap] w fun e w' => e = .returned (.string ⟨((BaseM.enc 5 (l.map UInt8.toNat)).map UInt8.ofNat).toArray⟩) ∧ w = w' := by
  go_enter Try.func27, Try.ntmps27
  go_wp2
  go_loop [3, 4, 5, 6] (HxOuter l) (fun _ _ _ i => l.length - (intOf i).toNat)
  case atStart => exact ⟨0, 0, 0, 0, Nat.zero_le _, rfl, rfl, by omega, by omega, rfl, rfl, rfl⟩
  case round =>
    obtain ⟨k, r, m, N, hk, rfl, rfl, hr, hkm, rfl, hN, rfl⟩ := hrel
    have HN : Hid (N = numB (l.take k)) := hN
    have HK : Hid (8 * k = 5 * m + r) := hkm
    clear hN hkm
    by_cases hlt : k < l.length
    · obtain ⟨b, off, rfl, hb, hc0⟩ := hc.byte hlt
      have hx : l[k].toNat < 256 := UInt8.toNat_lt _
      obtain ⟨N', hN'⟩ : ∃ N', N' = N * 256 + l[k].toNat := ⟨_, rfl⟩
      have h7 := or8s N l[k].toNat hx
      rw [← hN'] at h7
      have HN' : Hid (N' = N * 256 + l[k].toNat) := hN'
      clear hN'
      go_wp2
      clear h7
      go_loop [3, 5] (HxInner k N') (fun _ b => (intOf b).toNat)
      case atStart =>
        refine ⟨r + 8, m, by go_num, by omega, by have := HK.out; omega, ?_⟩
        rw [HN'.out, Nat.pow_add, Nat.mul_comm (2 ^ r), ← Nat.div_div_eq_div_mul, show (2 : Nat) ^ 8 = 256 from rfl, show (N * 256 + l[k].toNat) / 256 = N from by omega]
      case round =>
        obtain ⟨r', m', rfl, hr', hkm', rfl⟩ := hrel
        have HK' : Hid (8 * k + 8 = 5 * m' + r') := hkm'
        clear hkm'
        by_cases h5 : 5 ≤ r'
        · have h8 := and31s N' (r' - 5) (by omega)
          have h9 : N' / 2 ^ (r' - 5) % 32 < 32 := Nat.mod_lt _ (by omega)
          obtain ⟨d, hd⟩ : ∃ d, d = N' / 2 ^ (r' - 5) % 32 := ⟨_, rfl⟩
          rw [← hd] at h8 h9
          have HD : Hid (d = N' / 2 ^ (r' - 5) % 32) := hd
          clear hd
          have h9' : (d : Int) < 32 := by omega
          have hix := dig_ext d h9
          have hsz : (txt 5 m' (N' / 2 ^ r')).size ≤ 2000000 := by rw [txt_size]; have := HK'.out; omega
          go_wp2
          go_round
          case rel =>
            refine ⟨r' - 5, m' + 1, by go_num, by omega, by have := HK'.out; omega, ?_⟩
            rw [← txt_succ, ← HD.out, Nat.div_div_eq_div_mul, ← Nat.pow_add, show r' - 5 + 5 = r' from by omega]
          case measure => simp [intOf]; omega
        · have h8 := and31t N'
          go_wp2
          refine ⟨⟨k + 1, r', m', N', by omega, by go_num, rfl, by omega, by have := HK'.out; omega, rfl, ?_, rfl⟩, by simp [intOf]; omega⟩
          rw [numB_succ _ _ hlt, ← HN.out]
          exact HN'.out
    · obtain rfl : k = l.length := by omega
      have hN1 : N = numB l := by rw [HN.out, List.take_length]
      by_cases h0 : r = 0
      · subst h0
        have hfin := enc_done (s := 5) (.inr rfl) l m (by have := HK.out; omega)
        have HN1 : Hid (N = numB l) := hN1
        clear hN1
        go_wp2
        go_ret
        exact ⟨ret_str (by rw [HN1.out, ← hfin]; rfl), rfl⟩
      · have hfin := enc_rest (s := 5) (.inr rfl) l m r (by have := HK.out; omega) (by omega) hr
        rw [← hN1] at hfin
        have HF := Lib.hid hfin
        clear hfin hN1
        have h8 := shl31s N (5 - r) (by omega)
        have h9 : N * 2 ^ (5 - r) % 32 < 32 := Nat.mod_lt _ (by omega)
        obtain ⟨d, hd⟩ : ∃ d, d = N * 2 ^ (5 - r) % 32 := ⟨_, rfl⟩
        rw [← hd] at h8 h9
        have HD : Hid (d = N * 2 ^ (5 - r) % 32) := hd
        clear hd
        have h9' : (d : Int) < 32 := by omega
        have hix := dig_ext d h9
        have hsz : (txt 5 m (N / 2 ^ r)).size ≤ 2000000 := by rw [txt_size]; have := HK.out; omega
        go_wp2
        go_ret
        refine ⟨ret_str ?_, rfl⟩
        rw [← HF.out, HD.out]
        apply ByteArray.ext
        simp [txt]

theorem dig_ext16 : ∀ d : Nat, d < 16 → ((⟨#[48, 49, 50, 51, 52, 53, 54, 55, 56, 57, 97, 98, 99, 100, 101, 102]⟩ : ByteArray).extract d (d + 1)) = ⟨#[digB d]⟩ := by decide +kernel
def HeR (l : List UInt8) (w : World) (t i : Value) (wr : World) : Prop :=
  ∃ k : Nat, k ≤ l.length ∧ i = .int .i64 k ∧ t = .string (txt 4 (2 * k) (numB (l.take k))) ∧ Below w.heap.size w wr

set_option maxHeartbeats 1000000 in
theorem refHex (A : Option Addr) (l : List UInt8) (cap : Nat) (w : World) (hc : Cs w A (l.map byteV)) (hl : l.length ≤ 1000000) :
    Calls Try.prog 28 #[.slice A l.length cap] w fun e w' => e = .returned (.string ⟨((BaseM.enc 4 (l.map UInt8.toNat)).map UInt8.ofNat).toArray⟩) ∧ Below w.heap.size w w' := by
  go_enter Try.func28, Try.ntmps28
  go_wp2
  go_loopw [3, 4] (HeR l w) (fun _ i _ => l.length - (intOf i).toNat)
  case atStart => exact ⟨0, Nat.zero_le _, rfl, rfl, Below.refl _ _⟩
  case round =>
    obtain ⟨k, hk, rfl, rfl, hbel⟩ := hrel
    by_cases hlt : k < l.length
    · obtain ⟨b, off, rfl, hb, hc0⟩ := hc.byte hlt
      have hc1 := (hbel.cell (p := ⟨b, off + k, none⟩) hb).trans hc0
      have hx : l[k].toNat < 256 := UInt8.toNat_lt _
      have HN := Lib.hid (numB_succ l k hlt)
      generalize l[k].toNat = x at *
      have hlt' : (k : Int) < (l.length : Int) := by omega
      obtain ⟨d1, hd1⟩ : ∃ d, d = x / 16 := ⟨_, rfl⟩
      obtain ⟨d2, hd2⟩ : ∃ d, d = x % 16 := ⟨_, rfl⟩
      have e1 : (x : Int) / 16 = (d1 : Int) := by omega
      have e2 : bits BinOp.and IntKind.u8 (x : Int) 15 = (d2 : Int) := by
        rw [show (15 : Int) = ((15 : Nat) : Int) from rfl, u8_and_nat _ _ (by omega) (by omega), show (15 : Nat) = 2 ^ 4 - 1 from rfl, Nat.and_two_pow_sub_one_eq_mod, hd2]
      have hb1 : d1 < 16 := by omega
      have hb2 : d2 < 16 := by omega
      have f1 : IntKind.u8.wrap ((d1 : Int) + 1) = (d1 : Int) + 1 := by rw [IntKind.wrap_u8']; omega
      have f2 : IntKind.u8.wrap ((d2 : Int) + 1) = (d2 : Int) + 1 := by rw [IntKind.wrap_u8']; omega
      have hx1 := dig_ext16 d1 hb1
      have hx2 := dig_ext16 d2 hb2
      have hb1' : (d1 : Int) < 16 := by omega
      have hb2' : (d2 : Int) < 16 := by omega
      have hsz : (txt 4 (2 * k) (numB (List.take k l))).size ≤ 2000000 := by rw [txt_size]; omega
      have HD1 := Lib.hid hd1
      have HD2 := Lib.hid hd2
      clear hd1 hd2
      go_wp2_with fail
      go_quiet (fail)
      go_wp2
      go_roundw
      case rel =>
        refine ⟨k + 1, by omega, by go_num, ?_, below_drewN hbel _⟩
        congr 1
        rw [HN.out, show 2 * (k + 1) = 2 * k + 1 + 1 from by omega, ← txt_succ 4 (2 * k + 1), ← txt_succ 4 (2 * k), show (numB (List.take k l) * 256 + x) / 2 ^ 4 / 2 ^ 4 = numB (List.take k l) from by omega, show (numB (List.take k l) * 256 + x) / 2 ^ 4 % 2 ^ 4 = d1 from by have := HD1.out; omega, show (numB (List.take k l) * 256 + x) % 2 ^ 4 = d2 from by have := HD2.out; omega]
      case measure => simp [intOf]; omega
    · obtain rfl : k = l.length := by omega
      have hfin := enc_done (s := 4) (.inl rfl) l (2 * l.length) (by omega)
      have HF := Lib.hid hfin
      clear hfin
      go_wp2
      go_ret
      exact ⟨ret_str (by rw [← HF.out, List.take_length]; rfl), hbel⟩

/-- the reference's digit -/
def rval (c : Nat) : Int := match BaseM.dval 32 c with
  | some d => d
  | none => -1
theorem rval_eq : ∀ c : Fin 256, rval c.val = (if 48 ≤ c.val ∧ c.val ≤ 57 then (c.val : Int) - 48 else if 97 ≤ c.val ∧ c.val ≤ 118 then (c.val : Int) - 97 + 10 else if 65 ≤ c.val ∧ c.val ≤ 86 then (c.val : Int) - 65 + 10 else -1) := by decide +kernel
theorem rval_nat {c : Nat} (hc : c < 256) : rval c = (if 48 ≤ c ∧ c ≤ 57 then (c : Int) - 48 else if 97 ≤ c ∧ c ≤ 118 then (c : Int) - 97 + 10 else if 65 ≤ c ∧ c ≤ 86 then (c : Int) - 65 + 10 else -1) := rval_eq ⟨c, hc⟩
set_option maxHeartbeats 1000000 in
theorem refvalue (c : Nat) (hc : c < 256) (w : World) : Calls Try.prog 35 #[.int .u8 c] w fun e w' => e = .returned (.int .i64 (rval c)) ∧ w = w' := by
  have K := Lib.hid (rval_nat hc)
  by_cases h1 : 48 ≤ c
  · by_cases h2 : c ≤ 57
    · go_enter Try.func35, Try.ntmps35
      go_wp2
      go_ret
      exact ⟨ret_int (by rw [K.out, if_pos (by omega)]), rfl⟩
    · by_cases h3 : 97 ≤ c
      · by_cases h4 : c ≤ 118
        · go_enter Try.func35, Try.ntmps35
          go_wp2
          go_ret
          exact ⟨ret_int (by rw [K.out, if_neg (by omega), if_pos (by omega)]), rfl⟩
        · go_enter Try.func35, Try.ntmps35
          go_wp2
          go_ret
          exact ⟨ret_int (by rw [K.out, if_neg (by omega), if_neg (by omega), if_neg (by omega)]), rfl⟩
      · by_cases h4 : 65 ≤ c
        · by_cases h5 : c ≤ 86
          · go_enter Try.func35, Try.ntmps35
            go_wp2
            go_ret
            exact ⟨ret_int (by rw [K.out, if_neg (by omega), if_neg (by omega), if_pos (by omega)]), rfl⟩
          · go_enter Try.func35, Try.ntmps35
            go_wp2
            go_ret
            exact ⟨ret_int (by rw [K.out, if_neg (by omega), if_neg (by omega), if_neg (by omega)]), rfl⟩
        · go_enter Try.func35, Try.ntmps35
          go_wp2
          go_ret
          exact ⟨ret_int (by rw [K.out, if_neg (by omega), if_neg (by omega), if_neg (by omega)]), rfl⟩
  · go_enter Try.func35, Try.ntmps35
    go_wp2
    go_ret
    exact ⟨ret_int (by rw [K.out, if_neg (by omega), if_neg (by omega), if_neg (by omega)]), rfl⟩

set_option maxHeartbeats 1000000 in
theorem bytesEq (A B : Option Addr) (a b : List UInt8) (c d : Nat) (w : World) (ha : Cs w A (a.map byteV)) (hb : Cs w B (b.map byteV)) :
    Calls Try.prog 29 #[.slice A a.length c, .slice B b.length d] w fun e w' => e = .returned (.bool (decide (a = b))) ∧ w = w' := by
  have h1 := run_str (P := Try.prog) w Try.underlying33 Try.underlying5 Try.underlying9 c ha
  have h2 := run_str (P := Try.prog) w Try.underlying33 Try.underlying5 Try.underlying9 d hb
  go_enter Try.func29, Try.ntmps29
  go_wp2
  go_ret
  exact ⟨ret_bool (by rw [Bool.eq_iff_iff]; simp), rfl⟩

def PlaceI (k n : Int) : Int := if k.tmod n < 0 then k.tmod n + n else k.tmod n
theorem placeI_bd (k n : Int) (hn : 0 < n) : 0 ≤ PlaceI k n ∧ PlaceI k n < n := by
  have h1 := Int.tmod_lt_of_pos k hn
  have h2 := Int.lt_tmod_of_pos k hn
  unfold PlaceI; split <;> omega
set_option maxHeartbeats 1000000 in
theorem place (k n : Int) (h0 : -9223372036854775808 ≤ k) (h1 : k ≤ 9223372036854775807) (hn : 0 < n) (hn' : n ≤ 1000000) (w : World) :
    Calls Try.prog 32 #[.int .i64 k, .int .i64 n] w fun e w' => e = .returned (.int .i64 (PlaceI k n)) ∧ w = w' := by
  have h1 := Int.tmod_lt_of_pos k hn
  have h2 := Int.lt_tmod_of_pos k hn
  go_enter Try.func32, Try.ntmps32
  go_wp2
  all_goals
    go_ret
    exact ⟨ret_int (by unfold PlaceI; first | rw [if_pos (by omega)] | rw [if_neg (by omega)]), rfl⟩

def OhR (str : ByteArray) (w : World) (v n bits i : Value) (wr : World) : Prop :=
  ∃ (k r m V M : Nat) (ds : List Nat), k ≤ str.size ∧ i = .int .i64 k ∧ bits = .int .i64 r ∧ r < 8 ∧ 5 * k = 8 * m + r ∧ n = .int .i64 (M : Int) ∧ M = V % 2 ^ r ∧
    BaseM.vals (2 ^ 5) ((strN str).take k) = some ds ∧ V = BaseM.num (2 ^ 5) ds ∧ wr.ownsRow w.heap.size 5 1 v m (natsV (BaseM.digs 256 m (V / 2 ^ r))) ∧ Below w.heap.size w wr
theorem rval_none {c : Nat} (h : BaseM.dval 32 c = none) : rval c = -1 := by unfold rval; rw [h]
theorem rval_some {c d : Nat} (h : BaseM.dval 32 c = some d) : rval c = d := by unfold rval; rw [h]
theorem pow_le {r s : Nat} (h : r ≤ s) : 2 ^ r ≤ 2 ^ s := Nat.pow_le_pow_right (by omega) h
theorem ofInt64 (a : Nat) (ha : a < 9223372036854775808) : (BitVec.ofInt 64 (a : Int)).toNat = a := by
  rw [BitVec.ofInt_natCast, BitVec.toNat_ofNat]; exact Nat.mod_eq_of_lt (by omega)
theorem andI64 (a b : Nat) (ha : a < 4611686018427387904) (hb : b < 4611686018427387904) : bits .and .i64 (a : Int) (b : Int) = ((a &&& b : Nat) : Int) := by
  have hx : a &&& b < 2 ^ 62 := Nat.and_lt_two_pow _ (by omega)
  show IntKind.i64.wrap ((BitVec.ofInt 64 (a : Int) &&& BitVec.ofInt 64 (b : Int)).toNat : Int) = _
  rw [BitVec.toNat_and, ofInt64 a (by omega), ofInt64 b (by omega), IntKind.wrap_i64]
  omega
theorem orI64 (a b : Nat) (ha : a < 4611686018427387904) (hb : b < 4611686018427387904) : bits .or .i64 (a : Int) (b : Int) = ((a ||| b : Nat) : Int) := by
  have hx : a ||| b < 2 ^ 62 := Nat.or_lt_two_pow (by omega) (by omega)
  show IntKind.i64.wrap ((BitVec.ofInt 64 (a : Int) ||| BitVec.ofInt 64 (b : Int)).toNat : Int) = _
  rw [BitVec.toNat_or, ofInt64 a (by omega), ofInt64 b (by omega), IntKind.wrap_i64]
  omega
theorem lowI64 (X r : Nat) (hX : X < 65536) (hr : r < 8) : bits .and .i64 (X : Int) (wrap64 (wrap64 (2 ^ r) - 1)) = ((X % 2 ^ r : Nat) : Int) := by
  have hp : 1 ≤ 2 ^ r ∧ 2 ^ r ≤ 128 := ⟨Nat.pow_pos (by omega), pow_le (by omega : r ≤ 7)⟩
  have hi : ((2 : Int) ^ r) - 1 = ((2 ^ r - 1 : Nat) : Int) := by
    have : ((2 : Int) ^ r) = ((2 ^ r : Nat) : Int) := by simp
    rw [this]; omega
  have hw1 : wrap64 ((2 : Int) ^ r) = (2 : Int) ^ r := by
    have : ((2 : Int) ^ r) = ((2 ^ r : Nat) : Int) := by simp
    exact IntWalk.wrap64_in _ ⟨by omega, by omega⟩
  have hw2 : wrap64 ((2 : Int) ^ r - 1) = (2 : Int) ^ r - 1 := by
    rw [hi]
    exact IntWalk.wrap64_in _ ⟨by omega, by omega⟩
  rw [hw1, hw2, hi, andI64 _ _ (by omega) (by omega), Nat.and_two_pow_sub_one_eq_mod]

set_option maxHeartbeats 1000000 in
theorem refOpenHex32 (str : ByteArray) (hs : str.size ≤ 1000000) (w : World) :
    Calls Try.prog 30 #[.string str] w (Opened (BaseM.dec 5 (strN str)) w) := by
  obtain ⟨i0, hi, hz0, hz1, hz2⟩ := info_parts info_u8
  go_enter Try.func30, Try.ntmps30
  go_wp2
  go_loopw [4, 5, 6, 7] (OhR str w) (fun _ _ _ i _ => str.size - (intOf i).toNat)
  case atStart => exact ⟨0, 0, 0, 0, 0, [], Nat.zero_le _, rfl, rfl, by omega, by omega, rfl, rfl, rfl, rfl, World.ownsRow_nil _ _ _ _, Below.refl _ _⟩
  case round =>
    obtain ⟨k, r, m, V, M, ds, hk, rfl, rfl, hr, hkm, rfl, hM, hvals, hV, hown, hbw⟩ := hrel
    have hM1 : M < 128 := by
      have h1 : M < 2 ^ r := by rw [hM]; exact Nat.mod_lt _ (Nat.pow_pos (by omega))
      have h2 := pow_le (show r ≤ 7 by omega)
      omega
    have HV := Lib.hid hV
    have HK := Lib.hid hkm
    have HD := Lib.hid hvals
    have HM := Lib.hid hM
    clear hV hkm hvals hM
    by_cases hp : k < str.size
    · have hc256 : (str[k]'hp).toNat < 256 := UInt8.toNat_lt _
      have hp' : (k : Int) < (str.size : Int) := by omega
      have HT := Lib.hid (strN_take str k hp)
      generalize hce : (str[k]'hp).toNat = c at *
      cases hdv : BaseM.dval 32 c with
      | none =>
        have hrv := rval_none hdv
        have HDV := Lib.hid hdv
        clear hdv
        go_wp2_with (go_at_call 35; refine (refvalue c hc256 _).mono ?_; rintro e w2 ⟨rfl, rfl⟩)
        go_ret2
        exact opened_bad (BaseM.dec_none (k + 1) (by rw [HT.out, BaseM.vals_snoc, HD.out, show 2 ^ 5 = 32 from rfl, HDV.out]; rfl)) hbw
      | some d =>
        have hd32 := BaseM.dval_lt hdv
        have hrv := rval_some hdv
        have HDV := Lib.hid hdv
        clear hdv
        obtain ⟨X, hX⟩ : ∃ X, X = M * 32 + d := ⟨_, rfl⟩
        have f1 : bits .or .i64 ((M : Int) * 32) (d : Int) = (X : Int) := by
          rw [show (M : Int) * 32 = ((2 ^ 5 * M : Nat) : Int) from by omega, orI64 _ _ (by omega) (by omega), ← Nat.two_pow_add_eq_or_of_lt (by omega : d < 2 ^ 5)]; omega
        have f2 : bits .and .i64 (X : Int) 4095 = (X : Int) := by
          rw [show (4095 : Int) = ((4095 : Nat) : Int) from rfl, andI64 _ _ (by omega) (by omega), show 4095 = 2 ^ 12 - 1 from rfl, Nat.and_two_pow_sub_one_eq_mod, Nat.mod_eq_of_lt (by omega)]
        have hX1 : X < 4096 := by omega
        have HXV : Hid (X = (V * 32 + d) % 2 ^ (r + 5)) := by
          show X = _
          rw [Nat.pow_add, Nat.mul_comm (2 ^ r), Nat.mod_mul, hX, HM.out]
          rw [show (V * 32 + d) % 2 ^ 5 = d from by omega, show (V * 32 + d) / 2 ^ 5 = V from by omega]
          omega
        have hd0 : 0 ≤ (d : Int) := by omega
        have HX := Lib.hid hX
        clear hX
        by_cases h3 : 3 ≤ r
        · have f3 := lowI64 X (r - 3) (by omega) (by omega)
          obtain ⟨b8, hb8, h8⟩ : ∃ b : UInt8, b = UInt8.ofNat (X / 2 ^ (r - 3) % 256) ∧ (X : Int) / 2 ^ (r - 3) % 256 = (b.toNat : Int) := ⟨_, rfl, by simp⟩
          have HB := Lib.hid hb8
          clear hb8
          obtain ⟨Y, hY⟩ : ∃ Y, Y = X % 2 ^ (r - 3) := ⟨_, rfl⟩
          rw [← hY] at f3
          have HY := Lib.hid hY
          clear hY
          have hm : m ≤ 2000000 := by have := HK.out; omega
          go_wp2_with (first | (go_at_call 35; refine (refvalue c hc256 _).mono ?_; rintro e w2 ⟨rfl, rfl⟩) | (at_builtin; refine wpList_push2 hown hbw.size [byteV b8] rfl (by simp [byteV, Value.oneCell']) hi hz0 hz1 hz2 rfl (by decide) rfl _ _ 33 Try.underlying33 rfl rfl rfl (by unfold maxLen; omega) (by omega) ?_; intro v4 w4 hown4 hbw4; have hbw5 := hbw.trans hbw4))
          refine ⟨⟨k + 1, r - 3, m + 1, V * 32 + d, Y, ds ++ [d], by omega, by go_num, by congr 1; omega, by omega, by have := HK.out; omega, rfl, ?_, ?_, ?_, ?_, hbw5⟩, by simp [intOf]; omega⟩
          · rw [HY.out, HXV.out]
            exact Nat.mod_mod_of_dvd _ (Nat.pow_dvd_pow 2 (by omega))
          · rw [HT.out, BaseM.vals_snoc, HD.out, show 2 ^ 5 = 32 from rfl, HDV.out]; rfl
          · rw [BaseM.num_snoc, ← HV.out]
          · rw [← natsV_succ, Nat.div_div_eq_div_mul, show (2 : Nat) ^ (r - 3) * 256 = 2 ^ 5 * 2 ^ r from by rw [show 256 = 2 ^ 8 from rfl, ← Nat.pow_add, ← Nat.pow_add]; congr 1; omega, ← Nat.div_div_eq_div_mul, show (V * 32 + d) / 2 ^ 5 = V from by omega]
            have e : X / 2 ^ (r - 3) % 256 = (V * 32 + d) / 2 ^ (r - 3) % 256 := by
              rw [HXV.out, show r + 5 = (r - 3) + 8 from by omega, Nat.pow_add, Nat.mod_mul_right_div_self, show 2 ^ 8 = 256 from rfl, Nat.mod_mod]
            rw [← e, ← HB.out]
            exact hown4
        · go_wp2_with (go_at_call 35; refine (refvalue c hc256 _).mono ?_; rintro e w2 ⟨rfl, rfl⟩)
          refine ⟨⟨k + 1, r + 5, m, V * 32 + d, X, ds ++ [d], by omega, by go_num, by go_num, by omega, by have := HK.out; omega, rfl, HXV.out, ?_, ?_, ?_, hbw⟩, by simp [intOf]; omega⟩
          · rw [HT.out, BaseM.vals_snoc, HD.out, show 2 ^ 5 = 32 from rfl, HDV.out]; rfl
          · rw [BaseM.num_snoc, ← HV.out]
          · rw [Nat.add_comm r 5, Nat.pow_add, ← Nat.div_div_eq_div_mul, show (V * 32 + d) / 2 ^ 5 = V from by omega]
            exact hown
    · have hkk : k = (strN str).length := by rw [strN_length]; omega
      have hvf : BaseM.vals (2 ^ 5) (strN str) = some ds := by have := HD.out; rwa [hkk, List.take_length] at this
      have hdl : ds.length = k := by rw [BaseM.vals_length hvf, hkk]
      have HVF := Lib.hid hvf
      have HDL := Lib.hid hdl
      clear hvf hdl hkk
      by_cases h5 : 5 ≤ r
      · have h5' : (5 : Int) ≤ (r : Int) := by omega
        go_wp2
        go_ret2
        exact opened_bad ((dec_vals HVF.out).trans (decD_bad HDL.out HK.out hr HV.out (.inl h5))) hbw
      · have h5' : (r : Int) < 5 := by omega
        by_cases hm0 : M = 0
        · have hx0 : ((M : Int) != 0) = false := by simp; omega
          have HM0 := Lib.hid hm0
          clear hm0
          go_wp2
          go_ret2
          exact opened_ok ((dec_vals HVF.out).trans (decD_ok HDL.out HK.out hr HV.out (by rw [← HM.out]; have := HM0.out; omega))) (BaseM.digs_lt (by omega) _ _) hbw hown
        · have hx0 : ((M : Int) != 0) = true := by simp; omega
          go_wp2
          go_ret2
          exact opened_bad ((dec_vals HVF.out).trans (decD_bad HDL.out HK.out hr HV.out (.inr (by rw [← HM.out]; exact hm0)))) hbw

end Base
end Go.Proofs.Ytlbonlkogelhkaa
