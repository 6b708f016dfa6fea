/-
  Contracts of package base: value, opened.
-/
import Derived.Test.YtlbonlkogelhkaaBase
namespace Go.Proofs.Ytlbonlkogelhkaa
open Go.RowKit
set_option linter.unusedVariables false
namespace Base

/-- the first letters -/
def pre (m : Nat) : ByteArray := letters.extract 0 m
theorem pre_size {m : Nat} (h : m ≤ 32) : (pre m).size = m := by
  simp [pre, ByteArray.size_extract, show letters.size = 32 from rfl]; omega
theorem pre_get {m k : Nat} (hm : m ≤ 32) (h : k < (pre m).size) : (pre m)[k]'h = digB k := by
  have hk : k < 32 := by rw [pre_size hm] at h; omega
  have := dig_idx k hk
  rw [← this]
  simp only [pre, ByteArray.getElem_extract, Nat.zero_add]
  rfl
theorem digB_toNat {d : Nat} (h : d < 32) : (digB d).toNat = BaseM.dch d := by
  have := BaseM.dch_lt h
  unfold digB
  simp; omega
def optV : Option Nat → Value
  | some d => .tuple #[.int .u8 d, .bool true]
  | none => .tuple #[.int .u8 0, .bool false]
theorem ret_of {a b : Value} (h : a = b) : Ending.returned a = .returned b := by rw [h]
theorem opt_some {m k c : Nat} (hm : m ≤ 32) (hk : k < m) (h : BaseM.dch k = BaseM.low c) : .tuple #[.int .u8 (k : Int), .bool true] = optV (BaseM.dval m c) := by
  rw [BaseM.dval_some hm hk h]; rfl
theorem opt_none {m c : Nat} (hm : m ≤ 32) (h : ∀ j, j < m → BaseM.dch j ≠ BaseM.low c) : .tuple #[.int .u8 0, .bool false] = optV (BaseM.dval m c) := by
  rw [BaseM.dval_none hm h]; rfl

def ValR (m : Nat) (c : Int) (w : World) (wr : World) : Prop :=
  ∃ k : Nat, k ≤ m ∧ wr.heap[w.heap.size]? = some (.stringIter (pre m) k) ∧ Below w.heap.size w wr ∧ ∀ j, j < k → ((BaseM.dch j : Nat) : Int) ≠ c

set_option maxHeartbeats 1000000 in
theorem value (m : Nat) (hm : m ≤ 32) (r : Int) (h0 : 0 ≤ r) (h1 : r ≤ 2147483647) (w : World) :
    Calls Try.prog 36 #[.int .i32 r, .int .i64 m] w fun e w' => e = .returned (optV (BaseM.dval m r.toNat)) ∧ Below w.heap.size w w' := by
  by_cases hu : 65 ≤ r ∧ r ≤ 90
  · obtain ⟨hu1, hu2⟩ := hu
    go_enter Try.func36, Try.ntmps36
    go_wp2
    go_loopw [] (ValR m (r + 32) w) (fun wr => m - wr.iterPos w.heap.size)
    case atStart => exact ⟨0, Nat.zero_le _, World.iter_heap w _ 0, (Below.refl _ _).alloc (Nat.le_refl _) _, fun j hj => absurd hj (Nat.not_lt_zero _)⟩
    case round =>
      obtain ⟨k, hk, hit, hbw, hno⟩ := hrel
      have hpos0 := iterPos_of hit
      by_cases hp : k < (pre m).size
      · have hkm : k < m := by rwa [pre_size hm] at hp
        have hx := pre_get hm hp
        have hdc := digB_toNat (show k < 32 by omega)
        have hl := BaseM.dch_lt (show k < 32 by omega)
        have hnx : ∀ ty, (Instr.next (.pointer (some ⟨w.heap.size, 0, none⟩)) true ty).run Try.prog wr = .ok (.tuple #[.bool true, .int .i64 k, .int .i32 ((BaseM.dch k : Nat) : Int)]) (wr.iterAt w.heap.size (pre m) (k + 1)) := by
          intro ty
          have := Lib.run_next_ascii_at (P := Try.prog) wr w.heap.size (pre m) k ty hit hp (by rw [hx, hdc]; omega)
          rw [hx, hdc] at this
          exact this
        have hit2 := Lib.iterAt_heap wr w.heap.size (pre m) k (k + 1) hit
        have hbw2 := Lib.below_iterAt hbw (k := w.heap.size) (Nat.le_refl _) (pre m) (k + 1)
        obtain ⟨W1, hW1⟩ : ∃ W1, W1 = wr.iterAt w.heap.size (pre m) (k + 1) := ⟨_, rfl⟩
        rw [← hW1] at hnx hit2 hbw2
        have HX := Lib.hid hno
        have hk32 : (k : Int) < 32 := by omega
        clear hW1 hit hbw hx hdc hno
        by_cases he : ((BaseM.dch k : Nat) : Int) = r + 32
        · have he1 : (((BaseM.dch k : Nat) : Int) == r + 32) = true := by simpa using he
          have HE := Lib.hid he
          clear he
          go_wp2
          go_ret2
          exact ⟨ret_of (opt_some hm hkm (by have := HE.out; unfold BaseM.low; split <;> omega)), hbw2⟩
        · have he1 : (((BaseM.dch k : Nat) : Int) == r + 32) = false := by simpa using he
          have HE := Lib.hid he
          clear he
          go_wp2
          go_roundw
          case rel =>
            refine ⟨k + 1, by omega, hit2, hbw2, fun j hj => ?_⟩
            rcases Nat.lt_or_ge j k with h | h
            · exact HX.out j h
            · obtain rfl : j = k := by omega
              exact HE.out
          case measure => rw [iterPos_of hit2, hpos0]; omega
      · have hend : ∀ ty, (Instr.next (.pointer (some ⟨w.heap.size, 0, none⟩)) true ty).run Try.prog wr = _ := fun ty => Lib.run_next_end_at wr w.heap.size (pre m) k ty hit hp
        obtain rfl : k = m := by rw [pre_size hm] at hp; omega
        have HX := Lib.hid hno
        clear hit hno
        go_wp2
        go_ret2
        exact ⟨ret_of (opt_none hm (fun j hj => by have := HX.out j hj; unfold BaseM.low; split <;> omega)), hbw⟩
  · by_cases hv : 65 ≤ r
    · have hu2 : 90 < r := by omega
      go_enter Try.func36, Try.ntmps36
      go_wp2
      go_loopw [] (ValR m (r) w) (fun wr => m - wr.iterPos w.heap.size)
      case atStart => exact ⟨0, Nat.zero_le _, World.iter_heap w _ 0, (Below.refl _ _).alloc (Nat.le_refl _) _, fun j hj => absurd hj (Nat.not_lt_zero _)⟩
      case round =>
        obtain ⟨k, hk, hit, hbw, hno⟩ := hrel
        have hpos0 := iterPos_of hit
        by_cases hp : k < (pre m).size
        · have hkm : k < m := by rwa [pre_size hm] at hp
          have hx := pre_get hm hp
          have hdc := digB_toNat (show k < 32 by omega)
          have hl := BaseM.dch_lt (show k < 32 by omega)
          have hnx : ∀ ty, (Instr.next (.pointer (some ⟨w.heap.size, 0, none⟩)) true ty).run Try.prog wr = .ok (.tuple #[.bool true, .int .i64 k, .int .i32 ((BaseM.dch k : Nat) : Int)]) (wr.iterAt w.heap.size (pre m) (k + 1)) := by
            intro ty
            have := Lib.run_next_ascii_at (P := Try.prog) wr w.heap.size (pre m) k ty hit hp (by rw [hx, hdc]; omega)
            rw [hx, hdc] at this
            exact this
          have hit2 := Lib.iterAt_heap wr w.heap.size (pre m) k (k + 1) hit
          have hbw2 := Lib.below_iterAt hbw (k := w.heap.size) (Nat.le_refl _) (pre m) (k + 1)
          obtain ⟨W1, hW1⟩ : ∃ W1, W1 = wr.iterAt w.heap.size (pre m) (k + 1) := ⟨_, rfl⟩
          rw [← hW1] at hnx hit2 hbw2
          have HX := Lib.hid hno
          have hk32 : (k : Int) < 32 := by omega
          clear hW1 hit hbw hx hdc hno
          by_cases he : ((BaseM.dch k : Nat) : Int) = r
          · have he1 : (((BaseM.dch k : Nat) : Int) == r) = true := by simpa using he
            have HE := Lib.hid he
            clear he
            go_wp2
            go_ret2
            exact ⟨ret_of (opt_some hm hkm (by have := HE.out; unfold BaseM.low; split <;> omega)), hbw2⟩
          · have he1 : (((BaseM.dch k : Nat) : Int) == r) = false := by simpa using he
            have HE := Lib.hid he
            clear he
            go_wp2
            go_roundw
            case rel =>
              refine ⟨k + 1, by omega, hit2, hbw2, fun j hj => ?_⟩
              rcases Nat.lt_or_ge j k with h | h
              · exact HX.out j h
              · obtain rfl : j = k := by omega
                exact HE.out
            case measure => rw [iterPos_of hit2, hpos0]; omega
        · have hend : ∀ ty, (Instr.next (.pointer (some ⟨w.heap.size, 0, none⟩)) true ty).run Try.prog wr = _ := fun ty => Lib.run_next_end_at wr w.heap.size (pre m) k ty hit hp
          obtain rfl : k = m := by rw [pre_size hm] at hp; omega
          have HX := Lib.hid hno
          clear hit hno
          go_wp2
          go_ret2
          exact ⟨ret_of (opt_none hm (fun j hj => by have := HX.out j hj; unfold BaseM.low; split <;> omega)), hbw⟩
    · have hu2 : r < 65 := by omega
      go_enter Try.func36, Try.ntmps36
      go_wp2
      go_loopw [] (ValR m (r) w) (fun wr => m - wr.iterPos w.heap.size)
      case atStart => exact ⟨0, Nat.zero_le _, World.iter_heap w _ 0, (Below.refl _ _).alloc (Nat.le_refl _) _, fun j hj => absurd hj (Nat.not_lt_zero _)⟩
      case round =>
        obtain ⟨k, hk, hit, hbw, hno⟩ := hrel
        have hpos0 := iterPos_of hit
        by_cases hp : k < (pre m).size
        · have hkm : k < m := by rwa [pre_size hm] at hp
          have hx := pre_get hm hp
          have hdc := digB_toNat (show k < 32 by omega)
          have hl := BaseM.dch_lt (show k < 32 by omega)
          have hnx : ∀ ty, (Instr.next (.pointer (some ⟨w.heap.size, 0, none⟩)) true ty).run Try.prog wr = .ok (.tuple #[.bool true, .int .i64 k, .int .i32 ((BaseM.dch k : Nat) : Int)]) (wr.iterAt w.heap.size (pre m) (k + 1)) := by
            intro ty
            have := Lib.run_next_ascii_at (P := Try.prog) wr w.heap.size (pre m) k ty hit hp (by rw [hx, hdc]; omega)
            rw [hx, hdc] at this
            exact this
          have hit2 := Lib.iterAt_heap wr w.heap.size (pre m) k (k + 1) hit
          have hbw2 := Lib.below_iterAt hbw (k := w.heap.size) (Nat.le_refl _) (pre m) (k + 1)
          obtain ⟨W1, hW1⟩ : ∃ W1, W1 = wr.iterAt w.heap.size (pre m) (k + 1) := ⟨_, rfl⟩
          rw [← hW1] at hnx hit2 hbw2
          have HX := Lib.hid hno
          have hk32 : (k : Int) < 32 := by omega
          clear hW1 hit hbw hx hdc hno
          by_cases he : ((BaseM.dch k : Nat) : Int) = r
          · have he1 : (((BaseM.dch k : Nat) : Int) == r) = true := by simpa using he
            have HE := Lib.hid he
            clear he
            go_wp2
            go_ret2
            exact ⟨ret_of (opt_some hm hkm (by have := HE.out; unfold BaseM.low; split <;> omega)), hbw2⟩
          · have he1 : (((BaseM.dch k : Nat) : Int) == r) = false := by simpa using he
            have HE := Lib.hid he
            clear he
            go_wp2
            go_roundw
            case rel =>
              refine ⟨k + 1, by omega, hit2, hbw2, fun j hj => ?_⟩
              rcases Nat.lt_or_ge j k with h | h
              · exact HX.out j h
              · obtain rfl : j = k := by omega
                exact HE.out
            case measure => rw [iterPos_of hit2, hpos0]; omega
        · have hend : ∀ ty, (Instr.next (.pointer (some ⟨w.heap.size, 0, none⟩)) true ty).run Try.prog wr = _ := fun ty => Lib.run_next_end_at wr w.heap.size (pre m) k ty hit hp
          obtain rfl : k = m := by rw [pre_size hm] at hp; omega
          have HX := Lib.hid hno
          clear hit hno
          go_wp2
          go_ret2
          exact ⟨ret_of (opt_none hm (fun j hj => by have := HX.out j hj; unfold BaseM.low; split <;> omega)), hbw⟩

theorem value32 (r : Int) (h0 : 0 ≤ r) (h1 : r ≤ 2147483647) (w : World) :
    Calls Try.prog 36 #[.int .i32 r, .int .i64 32] w fun e w' => e = .returned (optV (BaseM.dval 32 r.toNat)) ∧ Below w.heap.size w w' := value 32 (by omega) r h0 h1 w
theorem value16 (r : Int) (h0 : 0 ≤ r) (h1 : r ≤ 2147483647) (w : World) :
    Calls Try.prog 36 #[.int .i32 r, .int .i64 16] w fun e w' => e = .returned (optV (BaseM.dval 16 r.toNat)) ∧ Below w.heap.size w w' := value 16 (by omega) r h0 h1 w

/-- what a text was read as -/
def Opened (o : Option (List Nat)) (w : World) (e : Ending) (w' : World) : Prop :=
  Below w.heap.size w w' ∧ ∃ (A : Option Addr) (cap : Nat) (l : List UInt8) (code : Int), e = .returned (.tuple #[.slice A l.length cap, .int .i64 code]) ∧ Cs w' A (l.map byteV) ∧
    ((o = none ∧ l = [] ∧ code = 20) ∨ (o = some (l.map UInt8.toNat) ∧ code = 0))

def natsV (l : List Nat) : List Value := (l.map UInt8.ofNat).map byteV
def strN (s : ByteArray) : List Nat := s.data.toList.map UInt8.toNat
theorem strN_length (s : ByteArray) : (strN s).length = s.size := by unfold strN; rw [List.length_map]; rfl
theorem strN_take (s : ByteArray) (k : Nat) (h : k < s.size) : (strN s).take (k + 1) = (strN s).take k ++ [(s[k]'h).toNat] := by
  rw [List.take_succ_eq_append_getElem (by rw [strN_length]; exact h)]
  simp [strN]
  rfl

def OpR (s : Nat) (str : ByteArray) (w : World) (v bits n : Value) (wr : World) : Prop :=
  ∃ (k r m V : Nat) (ds : List Nat), k ≤ str.size ∧ wr.heap[w.heap.size]? = some (.stringIter str k) ∧ bits = .int .i64 r ∧ r < 8 ∧ s * k = 8 * m + r ∧ n = .int .u32 ((V : Int) % 4294967296) ∧
    BaseM.vals (2 ^ s) ((strN str).take k) = some ds ∧ V = BaseM.num (2 ^ s) ds ∧ wr.ownsRow (w.heap.size + 1) 5 1 v m (natsV (BaseM.digs 256 m (V / 2 ^ r))) ∧ Below w.heap.size w wr ∧ w.heap.size < wr.heap.size

theorem opened_bad {o : Option (List Nat)} {w w' : World} (h : o = none) (hb : Below w.heap.size w w') : Opened o w (.returned (.tuple #[.slice none 0 0, .int .i64 20])) w' :=
  ⟨hb, none, 0, [], 20, rfl, Cs.nil _ _, .inl ⟨h, rfl, rfl⟩⟩
theorem nats_back {ds : List Nat} (h : ∀ d ∈ ds, d < 256) : (ds.map UInt8.ofNat).map UInt8.toNat = ds := by
  rw [List.map_map]
  conv => rhs; rw [← List.map_id ds]
  apply List.map_congr_left
  intro d hd
  have := h d hd
  simp; omega
theorem opened_ok {o : Option (List Nat)} {w w' : World} {ds : List Nat} (h : o = some ds) (hd : ∀ d ∈ ds, d < 256) (hb : Below w.heap.size w w') {B : Nat} {e : TypeId} {v : Value} {m : Nat}
    (hown : w'.ownsRow B e 1 v m (natsV ds)) : Opened o w (.returned (.tuple #[v, .int .i64 0])) w' := by
  obtain ⟨A, cap, rfl, hl, hc⟩ := Cs.of_own hown
  have hm : m = (ds.map UInt8.ofNat).length := by rw [← hl]; simp [natsV]
  refine ⟨hb, A, cap, ds.map UInt8.ofNat, 0, by rw [← hm], hc, .inr ⟨by rw [h, nats_back hd], rfl⟩⟩
theorem dec_vals {s : Nat} {l ds : List Nat} (h : BaseM.vals (2 ^ s) l = some ds) : BaseM.dec s l = BaseM.decD s ds := by unfold BaseM.dec; rw [h]; rfl
theorem decD_bad {s : Nat} {ds : List Nat} {k m r V : Nat} (hl : ds.length = k) (hk : s * k = 8 * m + r) (hr : r < 8) (hV : V = BaseM.num (2 ^ s) ds) (h : s ≤ r ∨ V % 2 ^ r ≠ 0) : BaseM.decD s ds = none := by
  unfold BaseM.decD
  rw [hl, hk, show (8 * m + r) % 8 = r from by omega, ← hV, if_pos h]
theorem decD_ok {s : Nat} {ds : List Nat} {k m r V : Nat} (hl : ds.length = k) (hk : s * k = 8 * m + r) (hr : r < 8) (hV : V = BaseM.num (2 ^ s) ds) (h : ¬ (s ≤ r ∨ V % 2 ^ r ≠ 0)) : BaseM.decD s ds = some (BaseM.digs 256 m (V / 2 ^ r)) := by
  unfold BaseM.decD
  rw [hl, hk, show (8 * m + r) % 8 = r from by omega, show (8 * m + r) / 8 = m from by omega, ← hV, if_neg h]
theorem andLow (N r : Nat) (hr : r < 8) : bits BinOp.and IntKind.u32 ((N : Int) % 4294967296) ((2 ^ r - 1) % 4294967296) = ((N % 2 ^ r : Nat) : Int) := by
  have hp : 1 ≤ 2 ^ r ∧ 2 ^ r ≤ 128 := by
    exact cases8 (p := fun r => 1 ≤ 2 ^ r ∧ 2 ^ r ≤ 128) (by decide) (by decide) (by decide) (by decide) (by decide) (by decide) (by decide) (by decide) r hr
  have hi : ((2 : Int) ^ r) = ((2 ^ r : Nat) : Int) := by simp
  have e2 : ((2 : Int) ^ r - 1) % 4294967296 = ((2 ^ r - 1 : Nat) : Int) := by rw [hi]; omega
  have e : (N : Int) % 4294967296 = ((N % 4294967296 : Nat) : Int) := by omega
  rw [e, e2, u32_and_nat _ _ (by omega) (by omega), Nat.and_two_pow_sub_one_eq_mod]
  revert N; exact cases8 (p := fun r => ∀ N : Nat, (N : Int) % 4294967296 = ((N % 4294967296 : Nat) : Int) → ((N % 4294967296 % 2 ^ r : Nat) : Int) = ((N % 2 ^ r : Nat) : Int)) (by omega) (by omega) (by omega) (by omega) (by omega) (by omega) (by omega) (by omega) r hr
theorem byteOf (N r : Nat) (hr : r < 8) : ∃ b : UInt8, b = UInt8.ofNat (N / 2 ^ r % 256) ∧ (N : Int) % 4294967296 / 2 ^ r % 256 = (b.toNat : Int) := by
  refine ⟨_, rfl, ?_⟩
  have e : (N : Int) % 4294967296 / 2 ^ r % 256 = ((N % 4294967296 / 2 ^ r % 256 : Nat) : Int) := by simp
  have e2 : N % 4294967296 / 2 ^ r % 256 = N / 2 ^ r % 256 := by
    revert N; exact cases8 (p := fun r => ∀ N : Nat, (N : Int) % 4294967296 / 2 ^ r % 256 = ((N % 4294967296 / 2 ^ r % 256 : Nat) : Int) → N % 4294967296 / 2 ^ r % 256 = N / 2 ^ r % 256) (by omega) (by omega) (by omega) (by omega) (by omega) (by omega) (by omega) (by omega) r hr
  rw [e, e2]
  simp
theorem natsV_succ (m V : Nat) : natsV (BaseM.digs 256 m (V / 256)) ++ [byteV (UInt8.ofNat (V % 256))] = natsV (BaseM.digs 256 (m + 1) V) := by simp [natsV, BaseM.digs]
theorem or5 (N x : Nat) (hx : x < 32) : bits BinOp.or IntKind.u32 ((N : Int) % 4294967296 * 32 % 4294967296) (x : Int) = ((N * 32 + x : Nat) : Int) % 4294967296 := by
  have e : (N : Int) % 4294967296 * 32 % 4294967296 = ((2 ^ 5 * (N % 134217728) : Nat) : Int) := by omega
  rw [e, u32_or_nat _ _ (by omega) (by omega), ← Nat.two_pow_add_eq_or_of_lt (by omega : x < 2 ^ 5)]
  omega

theorem or4 (N x : Nat) (hx : x < 16) : bits BinOp.or IntKind.u32 ((N : Int) % 4294967296 * 16 % 4294967296) (x : Int) = ((N * 16 + x : Nat) : Int) % 4294967296 := by
  have e : (N : Int) % 4294967296 * 16 % 4294967296 = ((2 ^ 4 * (N % 268435456) : Nat) : Int) := by omega
  rw [e, u32_or_nat _ _ (by omega) (by omega), ← Nat.two_pow_add_eq_or_of_lt (by omega : x < 2 ^ 4)]
  omega

set_option maxHeartbeats 1000000 in
theorem opened5 (str : ByteArray) (hs : str.size ≤ 1000000) (w : World) :
    Calls Try.prog 34 #[.string str, .int .i64 5] w (Opened (BaseM.dec 5 (strN str)) w) := by
  obtain ⟨i0, hi, hz0, hz1, hz2⟩ := info_parts info_u8
  go_enter Try.func34, Try.ntmps34
  go_wp2
  go_loopw [6, 7, 8] (OpR 5 str w) (fun _ _ _ wr => str.size - wr.iterPos w.heap.size)
  case atStart => exact ⟨0, 0, 0, 0, [], Nat.zero_le _, World.iter_heap w _ 0, rfl, by omega, by omega, rfl, rfl, rfl, World.ownsRow_nil _ _ _ _, (Below.refl _ _).alloc (Nat.le_refl _) _, by simp [World.iter]⟩
  case round =>
    obtain ⟨k, r, m, V, ds, hk, hit, rfl, hr, hkm, rfl, hvals, hV, hown, hbw, hlt⟩ := hrel
    have hpos0 := iterPos_of hit
    have HV := Lib.hid hV
    have HK := Lib.hid hkm
    have HD := Lib.hid hvals
    clear hV hkm hvals
    by_cases hp : k < str.size
    · have hc256 : (str[k]'hp).toNat < 256 := UInt8.toNat_lt _
      by_cases hasc : (str[k]'hp).toNat < 128
      · have hnx : ∀ ty, (Instr.next (.pointer (some ⟨w.heap.size, 0, none⟩)) true ty).run Try.prog wr = _ := fun ty => Lib.run_next_ascii_at wr w.heap.size str k ty hit hp hasc
        have hit2 := Lib.iterAt_heap wr w.heap.size str k (k + 1) hit
        have hbw2 := Lib.below_iterAt hbw (k := w.heap.size) (Nat.le_refl _) str (k + 1)
        have hown2 := ownsRow_iterAt hown (k := w.heap.size) (by omega) str (k + 1)
        have hlt2 : w.heap.size < (wr.iterAt w.heap.size str (k + 1)).heap.size := by rw [Lib.iterAt_size]; exact hlt
        obtain ⟨W1, hW1⟩ : ∃ W1, W1 = wr.iterAt w.heap.size str (k + 1) := ⟨_, rfl⟩
        rw [← hW1] at hnx hit2 hbw2 hown2 hlt2
        have HT := Lib.hid (strN_take str k hp)
        clear hW1 hit hbw hown hlt
        generalize (str[k]'hp).toNat = c at *
        cases hdv : BaseM.dval 32 c with
        | none =>
          have HDV := Lib.hid hdv
          clear hdv
          go_wp2_with (go_at_call 36; refine (value32 _ (by omega) (by omega) _).mono ?_; rintro e w2 ⟨rfl, hb2⟩; rw [Int.toNat_natCast, HDV.out]; simp only [optV])
          go_ret2
          exact opened_bad (BaseM.dec_none (k + 1) (by rw [HT.out, BaseM.vals_snoc, HD.out, show 2 ^ 5 = 32 from rfl, HDV.out]; rfl)) (hbw2.trans (hb2.mono (Nat.le_of_lt hlt2)))
        | some d =>
          have hd32 := BaseM.dval_lt hdv
          have HDV := Lib.hid hdv
          clear hdv
          have h7 := or5 V d hd32
          obtain ⟨V', hV'⟩ : ∃ V', V' = V * 32 + d := ⟨_, rfl⟩
          rw [← hV'] at h7
          have HV' := Lib.hid hV'
          clear hV'
          by_cases h3 : 3 ≤ r
          · obtain ⟨b8, hb8, h8⟩ := byteOf V' (r - 3) (by omega)
            have HB := Lib.hid hb8
            clear hb8
            have hm : m ≤ 2000000 := by have := HK.out; omega
            go_wp2_with (go_at_call 36; refine (value32 _ (by omega) (by omega) _).mono ?_; rintro e w2 ⟨rfl, hb2⟩; rw [Int.toNat_natCast, HDV.out]; simp only [optV]; have hit3 := (hb2.block _ hlt2).trans hit2; have hbw3 := hbw2.trans (hb2.mono (Nat.le_of_lt hlt2)); have hown3 := own_below hown2 hb2; have hlt3 := Nat.lt_of_lt_of_le hlt2 hb2.size; go_wp2_with (at_builtin; refine wpList_push2 hown3 (by omega) [byteV b8] rfl (by simp [byteV, Value.oneCell']) hi hz0 hz1 hz2 rfl (by decide) rfl _ _ 33 Try.underlying33 rfl rfl rfl (by unfold maxLen; omega) (by omega) ?_; intro v4 w4 hown4 hbw4; have hit4 := (hbw4.block w.heap.size (by omega)).trans hit3; have hbw5 := hbw3.trans (hbw4.mono (by omega)); have hlt4 := Nat.lt_of_lt_of_le hlt3 hbw4.size))
            go_roundw
            case rel =>
              refine ⟨k + 1, r - 3, m + 1, V', ds ++ [d], by omega, hit4, by go_num, by omega, by have := HK.out; omega, rfl, ?_, ?_, ?_, hbw5, hlt4⟩
              · rw [HT.out, BaseM.vals_snoc, HD.out, show 2 ^ 5 = 32 from rfl, HDV.out]; rfl
              · rw [BaseM.num_snoc, ← HV.out, HV'.out]
              · rw [← natsV_succ, ← HB.out, Nat.div_div_eq_div_mul, show 256 = 2 ^ 8 from rfl, ← Nat.pow_add, show r - 3 + 8 = 5 + r from by omega, Nat.pow_add, ← Nat.div_div_eq_div_mul, HV'.out, show (V * 32 + d) / 2 ^ 5 = V from by omega]
                exact hown4
            case measure => rw [iterPos_of hit4, hpos0]; omega
          · go_wp2_with (go_at_call 36; refine (value32 _ (by omega) (by omega) _).mono ?_; rintro e w2 ⟨rfl, hb2⟩; rw [Int.toNat_natCast, HDV.out]; simp only [optV]; have hit3 := (hb2.block _ hlt2).trans hit2; have hbw3 := hbw2.trans (hb2.mono (Nat.le_of_lt hlt2)); have hown3 := own_below hown2 hb2; have hlt3 := Nat.lt_of_lt_of_le hlt2 hb2.size)
            refine ⟨⟨k + 1, r + 5, m, V', ds ++ [d], by omega, hit3, by go_num, by omega, by have := HK.out; omega, rfl, ?_, ?_, ?_, hbw3, hlt3⟩, by rw [iterPos_of hit3, hpos0]; omega⟩
            · rw [HT.out, BaseM.vals_snoc, HD.out, show 2 ^ 5 = 32 from rfl, HDV.out]; rfl
            · rw [BaseM.num_snoc, ← HV.out, HV'.out]
            · rw [Nat.add_comm r 5, Nat.pow_add, ← Nat.div_div_eq_div_mul, HV'.out, show (V * 32 + d) / 2 ^ 5 = V from by omega]
              exact hown3
      · obtain ⟨hh1, hh2⟩ := decode_high str k hp (by omega)
        have hh3 := decode_le str k
        have hnx : ∀ ty, (Instr.next (.pointer (some ⟨w.heap.size, 0, none⟩)) true ty).run Try.prog wr = _ := fun ty => Lib.run_next_any_at wr w.heap.size str k ty hit hp
        have hbw2 := Lib.below_iterAt hbw (k := w.heap.size) (Nat.le_refl _) str (k + (Utf8.decode str k).2)
        have hlt2 : w.heap.size < (wr.iterAt w.heap.size str (k + (Utf8.decode str k).2)).heap.size := by rw [Lib.iterAt_size]; exact hlt
        obtain ⟨W1, hW1⟩ : ∃ W1, W1 = wr.iterAt w.heap.size str (k + (Utf8.decode str k).2) := ⟨_, rfl⟩
        rw [← hW1] at hnx hbw2 hlt2
        have HT := Lib.hid (strN_take str k hp)
        have HA := Lib.hid hasc
        clear hW1 hit hbw hown hlt hasc
        generalize (Utf8.decode str k).1 = c at *
        have HDV := Lib.hid (BaseM.dval_high (most := 32) (c := c) (by omega) hh1)
        go_wp2_with (go_at_call 36; refine (value32 _ (by omega) (by omega) _).mono ?_; rintro e w2 ⟨rfl, hb2⟩; rw [Int.toNat_natCast, HDV.out]; simp only [optV])
        go_ret2
        refine opened_bad (BaseM.dec_none (k + 1) ?_) (hbw2.trans (hb2.mono (Nat.le_of_lt hlt2)))
        rw [HT.out, BaseM.vals_snoc, HD.out, show 2 ^ 5 = 32 from rfl, BaseM.dval_high (by omega) (by have := HA.out; omega)]; rfl
    · have hend : ∀ ty, (Instr.next (.pointer (some ⟨w.heap.size, 0, none⟩)) true ty).run Try.prog wr = _ := fun ty => Lib.run_next_end_at wr w.heap.size str k ty hit hp
      have hkk : k = (strN str).length := by rw [strN_length]; omega
      have hvf : BaseM.vals (2 ^ 5) (strN str) = some ds := by have := HD.out; rwa [hkk, List.take_length] at this
      have hdl : ds.length = k := by rw [BaseM.vals_length hvf, hkk]
      have hal := andLow V r hr
      obtain ⟨x, hx⟩ : ∃ x, x = V % 2 ^ r := ⟨_, rfl⟩
      rw [← hx] at hal
      have HX := Lib.hid hx
      have HVF := Lib.hid hvf
      have HDL := Lib.hid hdl
      clear hx hvf hdl hkk
      by_cases hbad : 5 ≤ r ∨ x ≠ 0
      · have HBAD := Lib.hid hbad
        by_cases h5 : 5 ≤ r
        · clear hbad
          go_wp2
          go_ret2
          exact opened_bad ((dec_vals HVF.out).trans (decD_bad HDL.out HK.out hr HV.out (by rw [← HX.out]; exact HBAD.out))) hbw
        · have hx0 : ((x : Int) != 0) = true := by simp; omega
          have h5' : (r : Int) < 5 := by omega
          clear hbad
          go_wp2
          go_ret2
          exact opened_bad ((dec_vals HVF.out).trans (decD_bad HDL.out HK.out hr HV.out (by rw [← HX.out]; exact HBAD.out))) hbw
      · have HBAD := Lib.hid hbad
        have hx0 : ((x : Int) != 0) = false := by simp; omega
        have h5' : (r : Int) < 5 := by omega
        clear hbad
        go_wp2
        go_ret2
        exact opened_ok ((dec_vals HVF.out).trans (decD_ok HDL.out HK.out hr HV.out (by rw [← HX.out]; exact HBAD.out))) (BaseM.digs_lt (by omega) _ _) hbw hown

set_option maxHeartbeats 1000000 in
theorem opened4 (str : ByteArray) (hs : str.size ≤ 1000000) (w : World) :
    Calls Try.prog 34 #[.string str, .int .i64 4] w (Opened (BaseM.dec 4 (strN str)) w) := by
  obtain ⟨i0, hi, hz0, hz1, hz2⟩ := info_parts info_u8
  go_enter Try.func34, Try.ntmps34
  go_wp2
  go_loopw [6, 7, 8] (OpR 4 str w) (fun _ _ _ wr => str.size - wr.iterPos w.heap.size)
  case atStart => exact ⟨0, 0, 0, 0, [], Nat.zero_le _, World.iter_heap w _ 0, rfl, by omega, by omega, rfl, rfl, rfl, World.ownsRow_nil _ _ _ _, (Below.refl _ _).alloc (Nat.le_refl _) _, by simp [World.iter]⟩
  case round =>
    obtain ⟨k, r, m, V, ds, hk, hit, rfl, hr, hkm, rfl, hvals, hV, hown, hbw, hlt⟩ := hrel
    have hpos0 := iterPos_of hit
    have HV := Lib.hid hV
    have HK := Lib.hid hkm
    have HD := Lib.hid hvals
    clear hV hkm hvals
    by_cases hp : k < str.size
    · have hc256 : (str[k]'hp).toNat < 256 := UInt8.toNat_lt _
      by_cases hasc : (str[k]'hp).toNat < 128
      · have hnx : ∀ ty, (Instr.next (.pointer (some ⟨w.heap.size, 0, none⟩)) true ty).run Try.prog wr = _ := fun ty => Lib.run_next_ascii_at wr w.heap.size str k ty hit hp hasc
        have hit2 := Lib.iterAt_heap wr w.heap.size str k (k + 1) hit
        have hbw2 := Lib.below_iterAt hbw (k := w.heap.size) (Nat.le_refl _) str (k + 1)
        have hown2 := ownsRow_iterAt hown (k := w.heap.size) (by omega) str (k + 1)
        have hlt2 : w.heap.size < (wr.iterAt w.heap.size str (k + 1)).heap.size := by rw [Lib.iterAt_size]; exact hlt
        obtain ⟨W1, hW1⟩ : ∃ W1, W1 = wr.iterAt w.heap.size str (k + 1) := ⟨_, rfl⟩
        rw [← hW1] at hnx hit2 hbw2 hown2 hlt2
        have HT := Lib.hid (strN_take str k hp)
        clear hW1 hit hbw hown hlt
        generalize (str[k]'hp).toNat = c at *
        cases hdv : BaseM.dval 16 c with
        | none =>
          have HDV := Lib.hid hdv
          clear hdv
          go_wp2_with (go_at_call 36; refine (value16 _ (by omega) (by omega) _).mono ?_; rintro e w2 ⟨rfl, hb2⟩; rw [Int.toNat_natCast, HDV.out]; simp only [optV])
          go_ret2
          exact opened_bad (BaseM.dec_none (k + 1) (by rw [HT.out, BaseM.vals_snoc, HD.out, show 2 ^ 4 = 16 from rfl, HDV.out]; rfl)) (hbw2.trans (hb2.mono (Nat.le_of_lt hlt2)))
        | some d =>
          have hd32 := BaseM.dval_lt hdv
          have HDV := Lib.hid hdv
          clear hdv
          have h7 := or4 V d hd32
          obtain ⟨V', hV'⟩ : ∃ V', V' = V * 16 + d := ⟨_, rfl⟩
          rw [← hV'] at h7
          have HV' := Lib.hid hV'
          clear hV'
          by_cases h3 : 4 ≤ r
          · obtain ⟨b8, hb8, h8⟩ := byteOf V' (r - 4) (by omega)
            have HB := Lib.hid hb8
            clear hb8
            have hm : m ≤ 2000000 := by have := HK.out; omega
            go_wp2_with (go_at_call 36; refine (value16 _ (by omega) (by omega) _).mono ?_; rintro e w2 ⟨rfl, hb2⟩; rw [Int.toNat_natCast, HDV.out]; simp only [optV]; have hit3 := (hb2.block _ hlt2).trans hit2; have hbw3 := hbw2.trans (hb2.mono (Nat.le_of_lt hlt2)); have hown3 := own_below hown2 hb2; have hlt3 := Nat.lt_of_lt_of_le hlt2 hb2.size; go_wp2_with (at_builtin; refine wpList_push2 hown3 (by omega) [byteV b8] rfl (by simp [byteV, Value.oneCell']) hi hz0 hz1 hz2 rfl (by decide) rfl _ _ 33 Try.underlying33 rfl rfl rfl (by unfold maxLen; omega) (by omega) ?_; intro v4 w4 hown4 hbw4; have hit4 := (hbw4.block w.heap.size (by omega)).trans hit3; have hbw5 := hbw3.trans (hbw4.mono (by omega)); have hlt4 := Nat.lt_of_lt_of_le hlt3 hbw4.size))
            go_roundw
            case rel =>
              refine ⟨k + 1, r - 4, m + 1, V', ds ++ [d], by omega, hit4, by go_num, by omega, by have := HK.out; omega, rfl, ?_, ?_, ?_, hbw5, hlt4⟩
              · rw [HT.out, BaseM.vals_snoc, HD.out, show 2 ^ 4 = 16 from rfl, HDV.out]; rfl
              · rw [BaseM.num_snoc, ← HV.out, HV'.out]
              · rw [← natsV_succ, ← HB.out, Nat.div_div_eq_div_mul, show 256 = 2 ^ 8 from rfl, ← Nat.pow_add, show r - 4 + 8 = 4 + r from by omega, Nat.pow_add, ← Nat.div_div_eq_div_mul, HV'.out, show (V * 16 + d) / 2 ^ 4 = V from by omega]
                exact hown4
            case measure => rw [iterPos_of hit4, hpos0]; omega
          · go_wp2_with (go_at_call 36; refine (value16 _ (by omega) (by omega) _).mono ?_; rintro e w2 ⟨rfl, hb2⟩; rw [Int.toNat_natCast, HDV.out]; simp only [optV]; have hit3 := (hb2.block _ hlt2).trans hit2; have hbw3 := hbw2.trans (hb2.mono (Nat.le_of_lt hlt2)); have hown3 := own_below hown2 hb2; have hlt3 := Nat.lt_of_lt_of_le hlt2 hb2.size)
            refine ⟨⟨k + 1, r + 4, m, V', ds ++ [d], by omega, hit3, by go_num, by omega, by have := HK.out; omega, rfl, ?_, ?_, ?_, hbw3, hlt3⟩, by rw [iterPos_of hit3, hpos0]; omega⟩
            · rw [HT.out, BaseM.vals_snoc, HD.out, show 2 ^ 4 = 16 from rfl, HDV.out]; rfl
            · rw [BaseM.num_snoc, ← HV.out, HV'.out]
            · rw [Nat.add_comm r 4, Nat.pow_add, ← Nat.div_div_eq_div_mul, HV'.out, show (V * 16 + d) / 2 ^ 4 = V from by omega]
              exact hown3
      · obtain ⟨hh1, hh2⟩ := decode_high str k hp (by omega)
        have hh3 := decode_le str k
        have hnx : ∀ ty, (Instr.next (.pointer (some ⟨w.heap.size, 0, none⟩)) true ty).run Try.prog wr = _ := fun ty => Lib.run_next_any_at wr w.heap.size str k ty hit hp
        have hbw2 := Lib.below_iterAt hbw (k := w.heap.size) (Nat.le_refl _) str (k + (Utf8.decode str k).2)
        have hlt2 : w.heap.size < (wr.iterAt w.heap.size str (k + (Utf8.decode str k).2)).heap.size := by rw [Lib.iterAt_size]; exact hlt
        obtain ⟨W1, hW1⟩ : ∃ W1, W1 = wr.iterAt w.heap.size str (k + (Utf8.decode str k).2) := ⟨_, rfl⟩
        rw [← hW1] at hnx hbw2 hlt2
        have HT := Lib.hid (strN_take str k hp)
        have HA := Lib.hid hasc
        clear hW1 hit hbw hown hlt hasc
        generalize (Utf8.decode str k).1 = c at *
        have HDV := Lib.hid (BaseM.dval_high (most := 16) (c := c) (by omega) hh1)
        go_wp2_with (go_at_call 36; refine (value16 _ (by omega) (by omega) _).mono ?_; rintro e w2 ⟨rfl, hb2⟩; rw [Int.toNat_natCast, HDV.out]; simp only [optV])
        go_ret2
        refine opened_bad (BaseM.dec_none (k + 1) ?_) (hbw2.trans (hb2.mono (Nat.le_of_lt hlt2)))
        rw [HT.out, BaseM.vals_snoc, HD.out, show 2 ^ 4 = 16 from rfl, BaseM.dval_high (by omega) (by have := HA.out; omega)]; rfl
    · have hend : ∀ ty, (Instr.next (.pointer (some ⟨w.heap.size, 0, none⟩)) true ty).run Try.prog wr = _ := fun ty => Lib.run_next_end_at wr w.heap.size str k ty hit hp
      have hkk : k = (strN str).length := by rw [strN_length]; omega
      have hvf : BaseM.vals (2 ^ 4) (strN str) = some ds := by have := HD.out; rwa [hkk, List.take_length] at this
      have hdl : ds.length = k := by rw [BaseM.vals_length hvf, hkk]
      have hal := andLow V r hr
      obtain ⟨x, hx⟩ : ∃ x, x = V % 2 ^ r := ⟨_, rfl⟩
      rw [← hx] at hal
      have HX := Lib.hid hx
      have HVF := Lib.hid hvf
      have HDL := Lib.hid hdl
      clear hx hvf hdl hkk
      by_cases hbad : 4 ≤ r ∨ x ≠ 0
      · have HBAD := Lib.hid hbad
        by_cases h5 : 4 ≤ r
        · clear hbad
          go_wp2
          go_ret2
          exact opened_bad ((dec_vals HVF.out).trans (decD_bad HDL.out HK.out hr HV.out (by rw [← HX.out]; exact HBAD.out))) hbw
        · have hx0 : ((x : Int) != 0) = true := by simp; omega
          have h5' : (r : Int) < 4 := by omega
          clear hbad
          go_wp2
          go_ret2
          exact opened_bad ((dec_vals HVF.out).trans (decD_bad HDL.out HK.out hr HV.out (by rw [← HX.out]; exact HBAD.out))) hbw
      · have HBAD := Lib.hid hbad
        have hx0 : ((x : Int) != 0) = false := by simp; omega
        have h5' : (r : Int) < 4 := by omega
        clear hbad
        go_wp2
        go_ret2
        exact opened_ok ((dec_vals HVF.out).trans (decD_ok HDL.out HK.out hr HV.out (by rw [← HX.out]; exact HBAD.out))) (BaseM.digs_lt (by omega) _ _) hbw hown

end Base
end Go.Proofs.Ytlbonlkogelhkaa
