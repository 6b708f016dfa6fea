/-
  Texts merged by a program (Tag, Eq8, Ver, SecR, PubR, RelR2, SignR, OpSg).
-/
import Derived.Lib.Hide
import Derived.Laws.StructEq
import Derived.Test.YthogembgndkmpaaGreatDoorHk1
import Derived.Test.YthogembgndkmpaaGreatDoorHk2
import Derived.Test.YthogembgndkmpaaGreatDoorHk3
import Derived.Test.YthogembgndkmpaaGreatDoorHk5
import Derived.Test.YthogembgndkmpaaGreatDoorHk6
import Derived.Test.YthogembgndkmpaaGreatDoorHk8
import Derived.Test.YthogembgndkmpaaGreatDoorHk9
set_option linter.unusedSimpArgs false
set_option linter.unusedVariables false
/- digest.Tag and signetref7.Tag: a key's tag. -/
namespace Go.Proofs.YthogembgndkmpaaGreatDoor
open Go.RowKit
namespace W
def tagS (l : List UInt8) : Nat → Nat
  | 0 => 0
  | k + 1 => tagS l k + (if k % 2 = 0 then 256 * (l.getD k 0).toNat else (l.getD k 0).toNat)
def tagN (l : List UInt8) : Nat := (tagS l l.length + tagS l l.length / 65536 % 65536) % 65536
theorem tagS_le (l : List UInt8) : ∀ k, tagS l k ≤ 65280 * k
  | 0 => Nat.le_refl _
  | k + 1 => by
    have ih := tagS_le l k
    have h := (l.getD k 0).toNat_lt
    unfold tagS
    split <;> omega
theorem tag_even {l : List UInt8} {k : Nat} (h : k < l.length) (h2 : k % 2 = 0) : tagS l (k + 1) = tagS l k + 256 * (l[k]).toNat := by
  show tagS l k + _ = _
  rw [if_pos h2, List.getD_eq_getElem?_getD, List.getElem?_eq_getElem h]; rfl
theorem tag_odd {l : List UInt8} {k : Nat} (h : k < l.length) (h2 : ¬ k % 2 = 0) : tagS l (k + 1) = tagS l k + (l[k]).toNat := by
  show tagS l k + _ = _
  rw [if_neg h2, List.getD_eq_getElem?_getD, List.getElem?_eq_getElem h]; rfl
def TagL (l : List UInt8) (w : World) (v i : Value) (wr : World) : Prop := ∃ k : Nat, k ≤ l.length ∧ i = .int .i64 (k : Int) ∧ v = .int .u64 ((tagS l k : Nat) : Int) ∧ wr = w
def TagLR (l : List UInt8) (w : World) (v i : Value) (wr : World) : Prop := ∃ k : Nat, k ≤ l.length ∧ i = .int .i64 (k : Int) ∧ v = .int .u32 ((tagS l k : Nat) : Int) ∧ wr = w
theorem and_low64 (n : Nat) (h : n < 4294967296) : bits .and .u64 (n : Int) 65535 = ((n % 65536 : Nat) : Int) := by
  show IntKind.u64.wrap (((BitVec.ofInt 64 (n : Int)) &&& (BitVec.ofInt 64 65535)).toNat : Int) = _
  have h1 : (BitVec.ofInt 64 (n : Int)).toNat = n := by simp; omega
  have h2 : (BitVec.ofInt 64 65535).toNat = 2 ^ 16 - 1 := by decide
  rw [BitVec.toNat_and, h1, h2, Nat.and_two_pow_sub_one_eq_mod]
  simp [IntKind.wrap, IntKind.bits, IntKind.signed]
  omega
theorem and_low32 (n : Nat) (h : n < 4294967296) : bits .and .u32 (n : Int) 65535 = ((n % 65536 : Nat) : Int) := by
  show IntKind.u32.wrap (((BitVec.ofInt 32 (n : Int)) &&& (BitVec.ofInt 32 65535)).toNat : Int) = _
  have h1 : (BitVec.ofInt 32 (n : Int)).toNat = n := by simp; omega
  have h2 : (BitVec.ofInt 32 65535).toNat = 2 ^ 16 - 1 := by decide
  rw [BitVec.toNat_and, h1, h2, Nat.and_two_pow_sub_one_eq_mod]
  simp [IntKind.wrap, IntKind.bits, IntKind.signed]
  omega
set_option maxRecDepth 100000 in
set_option maxHeartbeats 4000000 in
theorem RTag (A : Option Addr) (cap : Nat) (l : List UInt8) (w : World) (hc : Cs w A (l.map byteV)) (hl : l.length ≤ 10000) :
    Calls Tryz.prog 8 #[.slice A l.length cap] w fun e w' => e = .returned (.int .u16 ((tagN l : Nat) : Int)) ∧ w' = w := by
  go_enter Tryz.func8, Tryz.ntmps8
  go_wp2_with fail
  go_loopw [3, 4] (fun v i wr => TagLR l w v i wr) (fun _ i _ => l.length - (intOf i).toNat)
  case atStart => exact ⟨0, Nat.zero_le _, rfl, rfl, rfl⟩
  case round =>
    obtain ⟨k, hk, rfl, rfl, hwr⟩ := hrel
    rw [hwr]
    clear hwr
    have hle := tagS_le l k
    by_cases hlt : k < l.length
    · obtain ⟨b, off, rfl, hb, c0⟩ := hc.byte (l := l) (i := k) hlt
      have hx := (l[k]).toNat_lt
      by_cases h2 : k % 2 = 0
      · have HS := Lib.hid (tag_even hlt h2)
        have h2i : (k : Int) % 2 = 0 := by omega
        generalize l[k] = x at *
        generalize tagS l k = n at *
        go_wp2_with fail
        refine ⟨⟨k + 1, by omega, by go_num, ?_, rfl⟩, by simp [intOf]; omega⟩
        rw [HS.out]
        first
          | (congr 1; omega)
          | rw [Int.natCast_add]
      · have HS := Lib.hid (tag_odd hlt h2)
        have h2i : (k : Int) % 2 = 1 := by omega
        generalize l[k] = x at *
        generalize tagS l k = n at *
        go_wp2_with fail
        refine ⟨⟨k + 1, by omega, by go_num, ?_, rfl⟩, by simp [intOf]; omega⟩
        rw [HS.out]
        first
          | (congr 1; omega)
          | rw [Int.natCast_add]
    · have hkl : k = l.length := by omega
      subst hkl
      have HE : Hid (tagN l = (tagS l l.length + tagS l l.length / 65536 % 65536) % 65536) := Lib.hid rfl
      have ha := and_low32 (tagS l l.length / 65536) (by omega)
      rw [show ((tagS l l.length / 65536 : Nat) : Int) = ((tagS l l.length : Nat) : Int) / 65536 from by omega] at ha
      generalize tagS l l.length = n at *
      go_wp2_with fail
      go_ret
      refine ⟨?_, rfl⟩
      rw [HE.out]
      congr 2
set_option maxRecDepth 100000 in
set_option maxHeartbeats 4000000 in
theorem Tag (A : Option Addr) (cap : Nat) (l : List UInt8) (w : World) (hc : Cs w A (l.map byteV)) (hl : l.length ≤ 10000) :
    Calls Tryz.prog 32 #[.slice A l.length cap] w fun e w' => e = .returned (.int .u16 ((tagN l : Nat) : Int)) ∧ w' = w := by
  go_enter Tryz.func32, Tryz.ntmps32
  go_wp2_with fail
  go_loopw [3, 4, 5, 8] (fun v _ _ i wr => TagL l w v i wr) (fun _ _ _ i _ => l.length - (intOf i).toNat)
  case atStart => exact ⟨0, Nat.zero_le _, rfl, rfl, rfl⟩
  case round =>
    obtain ⟨k, hk, rfl, rfl, hwr⟩ := hrel
    rw [hwr]
    clear hwr
    have hle := tagS_le l k
    by_cases hlt : k < l.length
    · obtain ⟨b, off, rfl, hb, c0⟩ := hc.byte (l := l) (i := k) hlt
      have hx := (l[k]).toNat_lt
      by_cases h2 : k % 2 = 0
      · have HS := Lib.hid (tag_even hlt h2)
        have h2i : (k : Int) % 2 = 0 := by omega
        generalize l[k] = x at *
        generalize tagS l k = n at *
        go_wp2_with fail
        refine ⟨⟨k + 1, by omega, by go_num, ?_, rfl⟩, by simp [intOf]; omega⟩
        rw [HS.out]
        first
          | (congr 1; omega)
          | rw [Int.natCast_add]
      · have HS := Lib.hid (tag_odd hlt h2)
        have h2i : (k : Int) % 2 = 1 := by omega
        generalize l[k] = x at *
        generalize tagS l k = n at *
        go_wp2_with fail
        refine ⟨⟨k + 1, by omega, by go_num, ?_, rfl⟩, by simp [intOf]; omega⟩
        rw [HS.out]
        first
          | (congr 1; omega)
          | rw [Int.natCast_add]
    · have hkl : k = l.length := by omega
      subst hkl
      have HE : Hid (tagN l = (tagS l l.length + tagS l l.length / 65536 % 65536) % 65536) := Lib.hid rfl
      have ha := and_low64 (tagS l l.length / 65536) (by omega)
      rw [show ((tagS l l.length / 65536 : Nat) : Int) = ((tagS l l.length : Nat) : Int) / 65536 from by omega] at ha
      generalize tagS l l.length = n at *
      go_wp2_with fail
      go_ret
      refine ⟨?_, rfl⟩
      rw [HE.out]
      congr 2
end W
end Go.Proofs.YthogembgndkmpaaGreatDoor

/- Eight bytes held against eight. -/
namespace Go.Proofs.YthogembgndkmpaaGreatDoor
open Go.RowKit
namespace W
theorem part8 (l : List UInt8) (i : Nat) (h : i < l.length) (W : World) : (part 5 (l.map byteV).toArray i).run Tryz.prog W = .ok (byteV (l[i])) W := by
  simp [part, h]
theorem eqlD (d : Nat) (W : World) (a b : List UInt8) (ha : a.length = 8) (hb : b.length = 8) : (Op.equalIn (d + 1 + 1) 23 (.agg (a.map byteV).toArray) (.agg (b.map byteV).toArray)).run Tryz.prog W = .ok (a == b) W := by
  have hs : (sizeOf 5).run Tryz.prog W = .ok 1 W := by
    simp [sizeOf, typeInfo]
    kernel_rfl
  have he : ∀ i (h1 : i < a.length) (h2 : i < b.length), (Op.equalIn (d + 1) 5 (byteV a[i]) (byteV b[i])).run Tryz.prog W = .ok (a[i] == b[i]) W := fun i h1 h2 => by
    unfold byteV
    rw [run_equalIn_int W d 5 .u8 .u8 _ _ Tryz.underlying5]
    have e : (((a[i]).toNat : Int) == ((b[i]).toNat : Int)) = (a[i] == b[i]) := by
      rw [Bool.eq_iff_iff]
      simp only [beq_iff_eq, Int.natCast_inj, UInt8.toNat_inj]
    rw [e]
  rw [Op.equalIn]
  simp only [Sem.run_bind, run_underlying Tryz.underlying23, Result.andThen_ok, hs, Std.Legacy.Range.forIn_eq_forIn_range', Std.Legacy.Range.size, Nat.mul_one]
  have step : ∀ n k, k + n = 8 → (forIn (m := Sem) (List.range' k n) ((none : Option Bool), ()) fun i __s => do
            let __do_lift ← part 5 (a.map byteV).toArray i
            let __do_lift_1 ← part 5 (b.map byteV).toArray i
            let __do_lift ← Op.equalIn (d + 1) 5 __do_lift __do_lift_1
            if (!__do_lift) = true then pure (ForInStep.done (some false, ())) else pure (ForInStep.yield (none, ()))).run Tryz.prog W = .ok (if a.drop k == b.drop k then (none, ()) else (some false, ())) W := by
    intro n
    induction n with
    | zero =>
      intro k hk
      have hk8 : k = 8 := by omega
      subst hk8
      rw [List.drop_of_length_le (by omega), List.drop_of_length_le (by omega)]
      simp
    | succ n ih =>
      intro k hk
      have h1 : k < a.length := by omega
      have h2 : k < b.length := by omega
      have hd : (a.drop k == b.drop k) = ((a[k] == b[k]) && (a.drop (k + 1) == b.drop (k + 1))) := by
        rw [List.drop_eq_getElem_cons h1, List.drop_eq_getElem_cons h2, List.cons_beq_cons]
      rw [List.range'_succ, List.forIn_cons, hd]
      simp only [Sem.run_bind, part8 a k h1 W, part8 b k h2 W, Result.andThen_ok, he k h1 h2]
      generalize (a[k] == b[k]) = c
      cases c
      · simp
      · simp only [Bool.not_true, Bool.false_eq_true, if_false, Sem.run_pure, Result.andThen_ok, Bool.true_and]
        exact ih (k + 1) (by omega)
  have h8 := step 8 0 rfl
  rw [show (8 - 0 + 1 - 1) / 1 = 8 from rfl, h8]
  simp only [Result.andThen_ok, List.drop_zero]
  by_cases e : (a == b) = true
  · rw [e]; simp
  · have e' : (a == b) = false := by simpa using e
    rw [e']; simp
theorem Eql8 (W : World) (ca cb : Array Value) (a b : List UInt8) (Ra : Row8 ca a) (Rb : Row8 cb b) : (binOp .eql 23 (.agg ca) (.agg cb)).run Tryz.prog W = .ok (.bool (a == b)) W := by
  rw [run_eql_struct W 23 ca cb, Ra.eq, Rb.eq]
  have h := eqlD 9998 W a b Ra.len Rb.len
  rw [show (10000 : Nat) = 9998 + 1 + 1 from rfl, h]
  rfl
end W
end Go.Proofs.YthogembgndkmpaaGreatDoor

/- tree.Verify. -/
namespace Go.Proofs.YthogembgndkmpaaGreatDoor
open Go.RowKit
namespace W
/-- from a leaf up, by the sisters -/
def climb (ks : List UInt32) : Nat → Nat → List UInt8 → List UInt8 → List UInt8
  | 0, _, x, _ => x
  | n + 1, leaf, x, rest => climb ks n (leaf / 2) (if leaf % 2 = 0 then short ks 4 [x, rest.take 8] else short ks 4 [rest.take 8, x]) (rest.drop 8)
def verT (ks : List UInt32) (root : List UInt8) (h : Nat) (msg sig : List UInt8) : Bool :=
  decide ((word sig 0).toNat / 2 ^ h = 0) && (climb ks h (word sig 0).toNat (opn ks msg ((sig.drop 4).take 512)) (sig.drop 516) == root)
theorem sliceS8 (p : Addr) (n c : Nat) (h : 8 ≤ c) (W : World) : (Instr.sliceAt 28 (.slice (some p) n c) none (some (.int .i64 8)) none).run Tryz.prog W = .ok (.slice (some p) 8 c) W := by
  have h' : (8 : Int) ≤ (c : Int) := by omega
  simp [go_sem, h']
theorem wpList_cutS8 {ops : Array Oper} {rest : List Oper} {o : Oper} {a : Act} {w : World} {Q : Exit → Act → World → Prop} (hgd : o.guard = none) (x : Operand) (ho : o.op = .slice 28 x none (some (.const (.int .i64 8))) none)
    (p : Addr) (n c : Nat) (hx : a.eval x = .slice (some p) n c) (h8 : 8 ≤ c) (h : wpList Tryz.prog ops Q rest (a.put o.dst (.slice (some p) 8 c)) w) : wpList Tryz.prog ops Q (o :: rest) a w := by
  refine wpList_plain hgd fun K hK => ?_
  have hs := sliceS8 p n c h8 w
  have e : a.eval (.const (.int .i64 8)) = .int .i64 8 := rfl
  unfold Oper.wp execOp
  simp only [ho, hx, e, Sem.run_bind, Sem.run_pure, Result.andThen_ok, Option.map_some, Option.map_none, hs]
  exact hK _ _ h
theorem and1 (n : Nat) (h : n < 4294967296) : bits .and .u32 (n : Int) 1 = ((n % 2 : Nat) : Int) := by
  have h1 := w_and (UInt32.ofNat n) 1
  have e : (UInt32.ofNat n).toNat = n := by rw [UInt32.toNat_ofNat']; exact Nat.mod_eq_of_lt h
  rw [e, show (((1 : UInt32).toNat : Nat) : Int) = 1 from rfl] at h1
  rw [h1, UInt32.toNat_and, e, show (1 : UInt32).toNat = 1 from rfl, Nat.and_one_is_mod]
def VerR (ks : List UInt32) (h : Nat) (sig x0 : List UInt8) (l0 : Nat) (w V : World) (gN : Nat) (v9 v13 : Value) (wr : World) : Prop := ∃ (j n : Nat) (x : List UInt8) (A : Option Addr) (c : Nat), j ≤ h ∧ v9 = .int .u32 (n : Int) ∧ n < 4294967296 ∧ v13 = .slice A (8 * (h - j)) c ∧ 8 * (h - j) ≤ c ∧ Cs w A ((sig.drop (516 + 8 * j)).map byteV) ∧
  x.length = 8 ∧ wr.heap[gN]? = some (.cells (x.map byteV).toArray 23 (0, 0)) ∧ climb ks h l0 x0 (sig.drop 516) = climb ks (h - j) n x (sig.drop (516 + 8 * j)) ∧ Kept (fun k => k = gN) V wr
set_option maxRecDepth 100000 in
set_option maxHeartbeats 20000000 in
theorem VerifyT (A S R : Option Addr) (cap sc rc : Nat) (ks : List UInt32) (root msg sig : List UInt8) (h : Nat) (w : World) (hk : ArrU w 1 100 ks) (hkl : ks.length = 64) (hb : Cs w A (msg.map byteV)) (hbl : msg.length ≤ 1000000) (hc1 : msg.length ≤ cap) (hc2 : cap ≤ maxLen) (hn : A = none → cap = 0)
    (hS : Cs w S (sig.map byteV)) (hsl : sig.length = 516 + 8 * h) (hsc : sig.length ≤ sc) (hR : Cs w R (root.map byteV)) (hrl : root.length = 8) (hh : h ≤ 10) (hh1 : 1 ≤ h) :
    Calls Tryz.prog 36 #[.slice R root.length rc, .int .i64 (h : Int), .slice A msg.length cap, .slice S sig.length sc] w fun e w' => e = .returned (.bool (verT ks root h msg sig)) ∧ Below w.heap.size w w' := by
  obtain ⟨gS, oS, rfl, hgS, hx0⟩ := hS.byte (l := sig) (i := 0) (by omega)
  clear hx0
  have b516 : (516 : Int) ≤ (sc : Int) := by omega
  have b4 : ¬ sc = 4 := by omega
  have b5 : ¬ sc = 516 := by omega
  have b6 : (516 : Int) ≤ (sig.length : Int) := by omega
  have HB := Lib.hid (And.intro hb (And.intro hS (And.intro hR hk)))
  have hk1 := hk.lt
  have m1 : IntKind.i64.wrap (8 * (h : Int)) = 8 * (h : Int) := IntWalk.i64_in _ (by omega)
  have m2 : IntKind.i64.wrap (516 + 8 * (h : Int)) = 516 + 8 * (h : Int) := IntWalk.i64_in _ (by omega)
  have h0 : (0 : Int) ≤ (h : Int) := by omega
  have h10 : (h : Int) ≤ 10 := by omega
  have hsli : ((sig.length : Nat) : Int) = 516 + 8 * (h : Int) := by omega
  have hLf := fun W (hW : Cs W (some ⟨gS, oS, none⟩) (sig.map byteV)) => Leaf (some ⟨gS, oS, none⟩) sc sig W hW (by omega)
  have HLF := Lib.hid hLf
  have HN := Lib.hid (And.intro hsl (And.intro hsc (And.intro hrl (And.intro hc1 (And.intro hbl hkl)))))
  clear hb hS hR hk hLf hsc hc1 hbl hkl hsl
  rw [hrl]
  clear hrl
  go_enter Tryz.func36, Tryz.ntmps36
  go_wp2_with fail
  refine (HLF.out w HB.out.2.1).mono ?_
  rintro e w1 ⟨rfl, q, rfl⟩
  have hw0 : ∀ n, Below w.heap.size w (w.drewN n) := fun n => ⟨rfl, rfl, rfl, Nat.le_refl _, fun _ _ => rfl⟩
  by_cases hlf : (word sig 0).toNat / 2 ^ h = 0
  · have hlfi : ((word sig 0).toNat : Int) / 2 ^ h = 0 := by
      have e : ((2 : Int) ^ h) = ((2 ^ h : Nat) : Int) := by rw [Int.natCast_pow]; rfl
      rw [e, ← Int.natCast_ediv, hlf]
      rfl
    have HD : Hid (verT ks root h msg sig = (climb ks h (word sig 0).toNat (opn ks msg ((sig.drop 4).take 512)) (sig.drop 516) == root)) := Lib.hid (by unfold verT; rw [decide_eq_true hlf, Bool.true_and])
    have hwl := (word sig 0).toNat_lt
    clear hlf
    have hs1 : ((sig.drop 4).take 512).length = 512 := by have := HN.out.1; simp; omega
    have hcs : Cs (w.drewN q) (some ⟨gS, oS + 4, none⟩) (((sig.drop 4).take 512).map byteV) := by
      have g := HB.out.2.1.drop' 4 sc (by rw [List.length_map]; exact HN.out.2.1)
      rw [if_neg b4, Option.map_some, add_plain] at g
      have g2 := g.take' 512
      rw [← List.map_drop, ← List.map_take] at g2
      exact g2
    have hOp := Open A (some ⟨gS, oS + 4, none⟩) cap (sc - 4) ks msg ((sig.drop 4).take 512) (w.drewN q) HB.out.2.2.2 HN.out.2.2.2.2.2 HB.out.1 HN.out.2.2.2.2.1 HN.out.2.2.2.1 hc2 hn hcs hs1 (by omega)
    rw [hs1] at hOp
    have R8 : Row8 ((opn ks msg ((sig.drop 4).take 512)).map byteV).toArray (opn ks msg ((sig.drop 4).take 512)) := ⟨rfl, short_len _ _ _⟩
    have HO := Lib.hid hOp
    clear hOp hcs hs1
    generalize opn ks msg ((sig.drop 4).take 512) = x0 at *
    generalize hcc : (x0.map byteV).toArray = c0 at *
    have HC := Lib.hid hcc
    clear hcc
    go_wp2_with fail
    refine HO.out.mono ?_
    rintro e w1 ⟨rfl, hb1⟩
    have hb1' : Below w.heap.size w w1 := (hw0 q).trans hb1
    have hz : (w1.alloc (.cells z8 23)).heap[w1.heap.size]? = some (.cells z8 23 (0, 0)) := heap_alloc_new w1 _
    have hbz : Below w1.heap.size w1 (w1.alloc (.cells z8 23)) := (Below.refl _ _).alloc (Nat.le_refl _) _
    have hrb := setRow_heap (w1.alloc (.cells z8 23)) w1.heap.size _ c0 _ _ hz
    have hbr : Below w1.heap.size w1 ((w1.alloc (.cells z8 23)).setRow w1.heap.size c0) := hbz.trans ⟨rfl, rfl, rfl, by simp, fun k hk => setRow_other (w1.alloc (.cells z8 23)) w1.heap.size k _ (by omega)⟩
    have HX := Lib.hid (And.intro hz (And.intro hrb (hb1'.trans (hbr.mono hb1'.size))))
    have hw1 : w.heap.size ≤ w1.heap.size := hb1'.size
    clear hz hbz hrb hbr hb1 hb1' HO
    go_wp2_with (first
      | (refine wpList_store_row rfl 23 (.tmp 11) (.tmp 49) rfl w1.heap.size c0 rfl (by kernel_rfl) 23 z8 HX.out.1 R8.info R8.old R8.all ?_; change wpList _ _ _ _ _ ((w1.alloc (.cells z8 23)).setRow w1.heap.size c0); have HV := Lib.hid HX.out.2; clear HX; generalize (w1.alloc (.cells z8 23)).setRow w1.heap.size c0 = V at *))
    have hgV : w1.heap.size < V.heap.size := lt_block HV.out.1
    generalize w1.heap.size = gN at *
    have hS0 : Cs w (some ⟨gS, oS + 516, none⟩) ((sig.drop (516 + 8 * 0)).map byteV) := by
      have g := HB.out.2.1.drop' 516 sc (by rw [List.length_map]; exact HN.out.2.1)
      rw [if_neg b5, Option.map_some, add_plain, ← List.map_drop] at g
      exact g
    have hl0 : sig.length - 516 = 8 * (h - 0) := by have := HN.out.1; omega
    have hc0 : 8 * (h - 0) ≤ sc - 516 := by have := HN.out.1; have := HN.out.2.1; omega
    have HS0 := Lib.hid (And.intro hS0 (And.intro hl0 hc0))
    clear hS0 hl0 hc0
    go_loopw [9, 13, 14] (fun v9 v13 _ wr => VerR ks h sig x0 (word sig 0).toNat w V gN v9 v13 wr) (fun _ v13 _ _ => match v13 with | .slice _ n _ => n | _ => 0)
    case atStart => exact ⟨0, (word sig 0).toNat, x0, _, sc - 516, Nat.zero_le _, rfl, hwl, by rw [HS0.out.2.1], HS0.out.2.2, HS0.out.1, by have := R8.len; exact this, by rw [HC.out]; exact HV.out.1, by simp, Kept.refl _ _⟩
    case round =>
      obtain ⟨j, n, x, A', c, hj, rfl, hn32, rfl, hcap, hcs, hxl, hrow, hcl, hkp⟩ := hrel
      have hbw : Below w.heap.size w wr := HV.out.2.trans (hkp.below HV.out.2.size (fun k hk e => by omega))
      have hgr : gN < wr.heap.size := lt_block hrow
      by_cases hlt : j < h
      · have hdl : (sig.drop (516 + 8 * j)).length = 8 * (h - j) := by rw [List.length_drop]; have := HN.out.1; omega
        have hS8 : ((sig.drop (516 + 8 * j)).take 8).length = 8 := by simp; have := HN.out.1; omega
        obtain ⟨gA, oA, rfl, hgA, hx0⟩ := hcs.byte (l := sig.drop (516 + 8 * j)) (i := 0) (by omega)
        have hcw : Cs wr (some ⟨gA, oA, none⟩) (((sig.drop (516 + 8 * j)).take 8).map byteV) := by
          have g := (csB hcs hbw hgA).take' 8
          rw [← List.map_take] at g
          exact g
        have hc8 : 8 ≤ c := by omega
        have hc8' : (8 : Int) ≤ (c : Int) := by omega
        have hL0 : (0 : Int) < ((8 * (h - j) : Nat) : Int) := by omega
        have hL8 : (8 : Int) ≤ ((8 * (h - j) : Nat) : Int) := by omega
        have hnext : Cs w (if c = 8 then some ⟨gA, oA, none⟩ else some ⟨gA, oA + 8, none⟩) ((sig.drop (516 + 8 * (j + 1))).map byteV) := by
          have g := hcs.drop' 8 c (by rw [List.length_map]; omega)
          rw [Option.map_some, add_plain, ← List.map_drop, List.drop_drop, show 516 + 8 * j + 8 = 516 + 8 * (j + 1) from by omega] at g
          exact g
        have hcl2 : climb ks (h - j) n x (sig.drop (516 + 8 * j)) = climb ks (h - (j + 1)) (n / 2) (if n % 2 = 0 then short ks 4 [x, (sig.drop (516 + 8 * j)).take 8] else short ks 4 [(sig.drop (516 + 8 * j)).take 8, x]) (sig.drop (516 + 8 * (j + 1))) := by
          rw [show h - j = (h - (j + 1)) + 1 from by omega]
          show climb ks (h - (j + 1)) (n / 2) _ ((sig.drop (516 + 8 * j)).drop 8) = _
          rw [List.drop_drop, show 516 + 8 * j + 8 = 516 + 8 * (j + 1) from by omega]
        have hLm : 8 * (h - j) = 8 * (h - (j + 1)) + 8 := by omega
        rw [hcl2] at hcl
        have Rx : Row8 (x.map byteV).toArray x := ⟨rfl, hxl⟩
        have Rs : Row8 (((sig.drop (516 + 8 * j)).take 8).map byteV).toArray ((sig.drop (516 + 8 * j)).take 8) := ⟨rfl, hS8⟩
        have hz : (wr.alloc (.cells z8 23)).heap[wr.heap.size]? = some (.cells z8 23 (0, 0)) := heap_alloc_new wr _
        have hbz : Below wr.heap.size wr (wr.alloc (.cells z8 23)) := (Below.refl _ _).alloc (Nat.le_refl _) _
        have HY := Lib.hid (And.intro hrow (And.intro hkp (And.intro hbw (And.intro hnext (And.intro hcl (And.intro hLm (And.intro hcw hcap)))))))
        clear hrow hkp hbw hnext hcl hLm hcap hcl2 hx0 hcs hdl hcw
        generalize (sig.drop (516 + 8 * j)).take 8 = s8 at *
        have hrb := setRow_heap (wr.alloc (.cells z8 23)) wr.heap.size _ (s8.map byteV).toArray _ _ hz
        have hbr : Below wr.heap.size wr ((wr.alloc (.cells z8 23)).setRow wr.heap.size (s8.map byteV).toArray) := hbz.trans ⟨rfl, rfl, rfl, by simp, fun k hk => setRow_other (wr.alloc (.cells z8 23)) wr.heap.size k _ (by omega)⟩
        have HX := Lib.hid (And.intro hz (And.intro hrb hbr))
        have HLL := Lib.hid (rfl : 8 * (h - j) = 8 * (h - j))
        clear hz hbz hrb hbr
        generalize hLg : 8 * (h - j) = L at *
        clear hLg
        generalize hxc : (x.map byteV).toArray = xc at *
        generalize hsc : (s8.map byteV).toArray = scc at *
        clear hxc hsc
        have hand := and1 n hn32
        have hwX : gN < wr.heap.size := hgr
        have HCL := HY.out.2.2.2.2.1
        have HNX := HY.out.2.2.2.1
        have HCLh := Lib.hid HCL
        have HNXh := Lib.hid HNX
        clear HCL HNX
        have HNN : Hid (((n : Int) / 2) = ((n / 2 : Nat) : Int)) := Lib.hid (by omega)
        have hn2 : n / 2 < 4294967296 := by omega
        have hkw : ArrU wr 1 100 ks := HB.out.2.2.2.keep (HY.out.2.2.1.block 1 hk1)
        have HKW := Lib.hid hkw
        clear hkw
        by_cases hpar : n % 2 = 0
        · rw [if_pos hpar] at HCLh
          rw [hpar] at hand
          have R2 : Row8 ((short ks 4 [x, s8]).map byteV).toArray (short ks 4 [x, s8]) := ⟨rfl, short_len _ _ _⟩
          have HR2 := Lib.hid (And.intro R2.info (And.intro R2.old R2.all))
          by_cases hc : c = 8
          · rw [if_pos hc] at HNXh
            subst hc
            go_wp2_with (first
              | (refine wpList_cutS8 rfl (.tmp 58) rfl ⟨gA, oA, none⟩ _ 8 rfl hc8 (wpList_at8 rfl (.tmp 59) rfl (some ⟨gA, oA, none⟩) 8 8 rfl (Nat.le_refl _) (wpList_load_mid rfl 23 (.tmp 60) rfl gA oA rfl (s8.map byteV) (.array 8 5) (Cs.range HY.out.2.2.2.2.2.2.1) Tryz.underlying23 rfl (by rw [List.length_map, hS8]; exact hi8) ?_)))
              | (refine wpList_store_row rfl 23 (.tmp 14) (.tmp 61) rfl wr.heap.size (s8.map byteV).toArray rfl (by kernel_rfl) 23 z8 HX.out.1 (by rw [Rs.eq.symm]; exact Rs.info) (by rw [Rs.eq.symm]; exact Rs.old) (by rw [Rs.eq.symm]; exact Rs.all) ?_; rw [← Rs.eq]; change wpList _ _ _ _ _ ((wr.alloc (.cells z8 23)).setRow wr.heap.size scc); have hX2 := HX.out.2.1; have hX3 := HX.out.2.2; clear HX; generalize (wr.alloc (.cells z8 23)).setRow wr.heap.size scc = WX at *; have hX1 := (hX3.block gN hgr).trans HY.out.1)
              | (refine wpList_load_row rfl 23 (.tmp 11) rfl gN rfl 23 xc (0, 0) _ hX1 Tryz.underlying23 rfl Rx.info ?_)
              | (refine wpList_load_row rfl 23 (.tmp 14) rfl wr.heap.size rfl 23 scc (0, 0) _ hX2 Tryz.underlying23 rfl Rs.info ?_))
            have HX4 := Lib.hid (And.intro hX1 hX3)
            refine (Above xc scc x s8 Rx Rs ks WX (HKW.out.keep (hX3.block 1 (Nat.lt_of_lt_of_le hk1 HY.out.2.2.1.size))) HN.out.2.2.2.2.2).mono ?_
            clear hX1 hX2 hX3
            rintro e w3 ⟨rfl, hb3⟩
            have hr3 := (hb3.block gN (Nat.lt_of_lt_of_le hgr HX4.out.2.size)).trans HX4.out.1
            have HR3 := Lib.hid (And.intro hr3 hb3)
            clear hr3 hb3
            go_wp2_with (first
              | (refine wpList_store_row rfl 23 (.tmp 11) (.tmp 67) rfl gN ((short ks 4 [x, s8]).map byteV).toArray rfl rfl 23 _ HR3.out.1 HR2.out.1 (by rw [Rx.size, R2.size]) HR2.out.2.2 ?_))
            have hrE := setRow_heap w3 gN _ ((short ks 4 [x, s8]).map byteV).toArray _ _ HR3.out.1
            have hkE : Kept (fun k => k = gN) V (w3.setRow gN ((short ks 4 [x, s8]).map byteV).toArray) := by
              refine HY.out.2.1.trans ((((Kept.of_ext HX4.out.2).mono (fun _ _ h => h.elim)).trans (((Kept.of_ext HR3.out.2).mono (fun _ _ h => h.elim)))).trans ⟨rfl, rfl, rfl, by simp, fun k hk hne => setRow_other w3 gN k _ hne⟩)
            have hcE := HY.out.2.2.2.2.2.2.2
            have hLE := HY.out.2.2.2.2.2.1
            refine ⟨⟨j + 1, n / 2, short ks 4 [x, s8], (some ⟨gA, oA, none⟩), 8 - 8, by omega, by rw [HNN.out], hn2, ?_, by omega, HNXh.out, short_len _ _ _, hrE, HCLh.out, hkE⟩, ?_⟩
            · rw [hLE, Nat.add_sub_cancel]
            · show L - 8 < L
              omega
          · rw [if_neg hc] at HNXh
            skip
            go_wp2_with (first
              | (refine wpList_cutS8 rfl (.tmp 58) rfl ⟨gA, oA, none⟩ _ c rfl hc8 (wpList_at8 rfl (.tmp 59) rfl (some ⟨gA, oA, none⟩) 8 c rfl (Nat.le_refl _) (wpList_load_mid rfl 23 (.tmp 60) rfl gA oA rfl (s8.map byteV) (.array 8 5) (Cs.range HY.out.2.2.2.2.2.2.1) Tryz.underlying23 rfl (by rw [List.length_map, hS8]; exact hi8) ?_)))
              | (refine wpList_store_row rfl 23 (.tmp 14) (.tmp 61) rfl wr.heap.size (s8.map byteV).toArray rfl (by kernel_rfl) 23 z8 HX.out.1 (by rw [Rs.eq.symm]; exact Rs.info) (by rw [Rs.eq.symm]; exact Rs.old) (by rw [Rs.eq.symm]; exact Rs.all) ?_; rw [← Rs.eq]; change wpList _ _ _ _ _ ((wr.alloc (.cells z8 23)).setRow wr.heap.size scc); have hX2 := HX.out.2.1; have hX3 := HX.out.2.2; clear HX; generalize (wr.alloc (.cells z8 23)).setRow wr.heap.size scc = WX at *; have hX1 := (hX3.block gN hgr).trans HY.out.1)
              | (refine wpList_load_row rfl 23 (.tmp 11) rfl gN rfl 23 xc (0, 0) _ hX1 Tryz.underlying23 rfl Rx.info ?_)
              | (refine wpList_load_row rfl 23 (.tmp 14) rfl wr.heap.size rfl 23 scc (0, 0) _ hX2 Tryz.underlying23 rfl Rs.info ?_))
            have HX4 := Lib.hid (And.intro hX1 hX3)
            refine (Above xc scc x s8 Rx Rs ks WX (HKW.out.keep (hX3.block 1 (Nat.lt_of_lt_of_le hk1 HY.out.2.2.1.size))) HN.out.2.2.2.2.2).mono ?_
            clear hX1 hX2 hX3
            rintro e w3 ⟨rfl, hb3⟩
            have hr3 := (hb3.block gN (Nat.lt_of_lt_of_le hgr HX4.out.2.size)).trans HX4.out.1
            have HR3 := Lib.hid (And.intro hr3 hb3)
            clear hr3 hb3
            go_wp2_with (first
              | (refine wpList_store_row rfl 23 (.tmp 11) (.tmp 67) rfl gN ((short ks 4 [x, s8]).map byteV).toArray rfl rfl 23 _ HR3.out.1 HR2.out.1 (by rw [Rx.size, R2.size]) HR2.out.2.2 ?_))
            have hrE := setRow_heap w3 gN _ ((short ks 4 [x, s8]).map byteV).toArray _ _ HR3.out.1
            have hkE : Kept (fun k => k = gN) V (w3.setRow gN ((short ks 4 [x, s8]).map byteV).toArray) := by
              refine HY.out.2.1.trans ((((Kept.of_ext HX4.out.2).mono (fun _ _ h => h.elim)).trans (((Kept.of_ext HR3.out.2).mono (fun _ _ h => h.elim)))).trans ⟨rfl, rfl, rfl, by simp, fun k hk hne => setRow_other w3 gN k _ hne⟩)
            have hcE := HY.out.2.2.2.2.2.2.2
            have hLE := HY.out.2.2.2.2.2.1
            refine ⟨⟨j + 1, n / 2, short ks 4 [x, s8], (some ⟨gA, oA + 8, none⟩), c - 8, by omega, by rw [HNN.out], hn2, ?_, by omega, HNXh.out, short_len _ _ _, hrE, HCLh.out, hkE⟩, ?_⟩
            · rw [hLE, Nat.add_sub_cancel]
            · show L - 8 < L
              omega
        · rw [if_neg hpar] at HCLh
          rw [show n % 2 = 1 from by omega] at hand
          have R2 : Row8 ((short ks 4 [s8, x]).map byteV).toArray (short ks 4 [s8, x]) := ⟨rfl, short_len _ _ _⟩
          have HR2 := Lib.hid (And.intro R2.info (And.intro R2.old R2.all))
          by_cases hc : c = 8
          · rw [if_pos hc] at HNXh
            subst hc
            go_wp2_with (first
              | (refine wpList_cutS8 rfl (.tmp 58) rfl ⟨gA, oA, none⟩ _ 8 rfl hc8 (wpList_at8 rfl (.tmp 59) rfl (some ⟨gA, oA, none⟩) 8 8 rfl (Nat.le_refl _) (wpList_load_mid rfl 23 (.tmp 60) rfl gA oA rfl (s8.map byteV) (.array 8 5) (Cs.range HY.out.2.2.2.2.2.2.1) Tryz.underlying23 rfl (by rw [List.length_map, hS8]; exact hi8) ?_)))
              | (refine wpList_store_row rfl 23 (.tmp 14) (.tmp 61) rfl wr.heap.size (s8.map byteV).toArray rfl (by kernel_rfl) 23 z8 HX.out.1 (by rw [Rs.eq.symm]; exact Rs.info) (by rw [Rs.eq.symm]; exact Rs.old) (by rw [Rs.eq.symm]; exact Rs.all) ?_; rw [← Rs.eq]; change wpList _ _ _ _ _ ((wr.alloc (.cells z8 23)).setRow wr.heap.size scc); have hX2 := HX.out.2.1; have hX3 := HX.out.2.2; clear HX; generalize (wr.alloc (.cells z8 23)).setRow wr.heap.size scc = WX at *; have hX1 := (hX3.block gN hgr).trans HY.out.1)
              | (refine wpList_load_row rfl 23 (.tmp 11) rfl gN rfl 23 xc (0, 0) _ hX1 Tryz.underlying23 rfl Rx.info ?_)
              | (refine wpList_load_row rfl 23 (.tmp 14) rfl wr.heap.size rfl 23 scc (0, 0) _ hX2 Tryz.underlying23 rfl Rs.info ?_))
            have HX4 := Lib.hid (And.intro hX1 hX3)
            refine (Above scc xc s8 x Rs Rx ks WX (HKW.out.keep (hX3.block 1 (Nat.lt_of_lt_of_le hk1 HY.out.2.2.1.size))) HN.out.2.2.2.2.2).mono ?_
            clear hX1 hX2 hX3
            rintro e w3 ⟨rfl, hb3⟩
            have hr3 := (hb3.block gN (Nat.lt_of_lt_of_le hgr HX4.out.2.size)).trans HX4.out.1
            have HR3 := Lib.hid (And.intro hr3 hb3)
            clear hr3 hb3
            go_wp2_with (first
              | (refine wpList_store_row rfl 23 (.tmp 11) (.tmp 70) rfl gN ((short ks 4 [s8, x]).map byteV).toArray rfl rfl 23 _ HR3.out.1 HR2.out.1 (by rw [Rx.size, R2.size]) HR2.out.2.2 ?_))
            have hrE := setRow_heap w3 gN _ ((short ks 4 [s8, x]).map byteV).toArray _ _ HR3.out.1
            have hkE : Kept (fun k => k = gN) V (w3.setRow gN ((short ks 4 [s8, x]).map byteV).toArray) := by
              refine HY.out.2.1.trans ((((Kept.of_ext HX4.out.2).mono (fun _ _ h => h.elim)).trans (((Kept.of_ext HR3.out.2).mono (fun _ _ h => h.elim)))).trans ⟨rfl, rfl, rfl, by simp, fun k hk hne => setRow_other w3 gN k _ hne⟩)
            have hcE := HY.out.2.2.2.2.2.2.2
            have hLE := HY.out.2.2.2.2.2.1
            refine ⟨⟨j + 1, n / 2, short ks 4 [s8, x], (some ⟨gA, oA, none⟩), 8 - 8, by omega, by rw [HNN.out], hn2, ?_, by omega, HNXh.out, short_len _ _ _, hrE, HCLh.out, hkE⟩, ?_⟩
            · rw [hLE, Nat.add_sub_cancel]
            · show L - 8 < L
              omega
          · rw [if_neg hc] at HNXh
            skip
            go_wp2_with (first
              | (refine wpList_cutS8 rfl (.tmp 58) rfl ⟨gA, oA, none⟩ _ c rfl hc8 (wpList_at8 rfl (.tmp 59) rfl (some ⟨gA, oA, none⟩) 8 c rfl (Nat.le_refl _) (wpList_load_mid rfl 23 (.tmp 60) rfl gA oA rfl (s8.map byteV) (.array 8 5) (Cs.range HY.out.2.2.2.2.2.2.1) Tryz.underlying23 rfl (by rw [List.length_map, hS8]; exact hi8) ?_)))
              | (refine wpList_store_row rfl 23 (.tmp 14) (.tmp 61) rfl wr.heap.size (s8.map byteV).toArray rfl (by kernel_rfl) 23 z8 HX.out.1 (by rw [Rs.eq.symm]; exact Rs.info) (by rw [Rs.eq.symm]; exact Rs.old) (by rw [Rs.eq.symm]; exact Rs.all) ?_; rw [← Rs.eq]; change wpList _ _ _ _ _ ((wr.alloc (.cells z8 23)).setRow wr.heap.size scc); have hX2 := HX.out.2.1; have hX3 := HX.out.2.2; clear HX; generalize (wr.alloc (.cells z8 23)).setRow wr.heap.size scc = WX at *; have hX1 := (hX3.block gN hgr).trans HY.out.1)
              | (refine wpList_load_row rfl 23 (.tmp 11) rfl gN rfl 23 xc (0, 0) _ hX1 Tryz.underlying23 rfl Rx.info ?_)
              | (refine wpList_load_row rfl 23 (.tmp 14) rfl wr.heap.size rfl 23 scc (0, 0) _ hX2 Tryz.underlying23 rfl Rs.info ?_))
            have HX4 := Lib.hid (And.intro hX1 hX3)
            refine (Above scc xc s8 x Rs Rx ks WX (HKW.out.keep (hX3.block 1 (Nat.lt_of_lt_of_le hk1 HY.out.2.2.1.size))) HN.out.2.2.2.2.2).mono ?_
            clear hX1 hX2 hX3
            rintro e w3 ⟨rfl, hb3⟩
            have hr3 := (hb3.block gN (Nat.lt_of_lt_of_le hgr HX4.out.2.size)).trans HX4.out.1
            have HR3 := Lib.hid (And.intro hr3 hb3)
            clear hr3 hb3
            go_wp2_with (first
              | (refine wpList_store_row rfl 23 (.tmp 11) (.tmp 70) rfl gN ((short ks 4 [s8, x]).map byteV).toArray rfl rfl 23 _ HR3.out.1 HR2.out.1 (by rw [Rx.size, R2.size]) HR2.out.2.2 ?_))
            have hrE := setRow_heap w3 gN _ ((short ks 4 [s8, x]).map byteV).toArray _ _ HR3.out.1
            have hkE : Kept (fun k => k = gN) V (w3.setRow gN ((short ks 4 [s8, x]).map byteV).toArray) := by
              refine HY.out.2.1.trans ((((Kept.of_ext HX4.out.2).mono (fun _ _ h => h.elim)).trans (((Kept.of_ext HR3.out.2).mono (fun _ _ h => h.elim)))).trans ⟨rfl, rfl, rfl, by simp, fun k hk hne => setRow_other w3 gN k _ hne⟩)
            have hcE := HY.out.2.2.2.2.2.2.2
            have hLE := HY.out.2.2.2.2.2.1
            refine ⟨⟨j + 1, n / 2, short ks 4 [s8, x], (some ⟨gA, oA + 8, none⟩), c - 8, by omega, by rw [HNN.out], hn2, ?_, by omega, HNXh.out, short_len _ _ _, hrE, HCLh.out, hkE⟩, ?_⟩
            · rw [hLE, Nat.add_sub_cancel]
            · show L - 8 < L
              omega
      · have hjh : j = h := by omega
        subst hjh
        have hcl0 : climb ks j (word sig 0).toNat x0 (sig.drop 516) = x := by
          rw [hcl, Nat.sub_self]
          rfl
        rw [hcl0] at HD
        have hL0 : 8 * (j - j) = 0 := by omega
        simp only [hL0]
        obtain ⟨gR, oR, rfl, hgR, hx0⟩ := HB.out.2.2.1.byte (l := root) (i := 0) (by have := HN.out.2.2.1; omega)
        have hrw : Cs wr (some ⟨gR, oR, none⟩) (root.map byteV) := csB HB.out.2.2.1 hbw hgR
        have Rx : Row8 (x.map byteV).toArray x := ⟨rfl, hxl⟩
        have Rr : Row8 (root.map byteV).toArray root := ⟨rfl, HN.out.2.2.1⟩
        have heq : ∀ W, (binOp .eql 23 (.agg (x.map byteV).toArray) (.agg (root.map byteV).toArray)).run Tryz.prog W = .ok (.bool (x == root)) W := fun W => Eql8 W _ _ x root Rx Rr
        have hat : ∀ W, (Instr.arrayAt 23 (.slice (some ⟨gR, oR, none⟩) 8 rc)).run Tryz.prog W = .ok (.pointer (some ⟨gR, oR, none⟩)) W := fun W => at8 W _ 8 _ (Nat.le_refl _)
        have hcx : Cs wr (some ⟨gN, 0, none⟩) (x.map byteV) := row8_cs Rx hrow
        have hl8x : (x.map byteV).length = 8 := by simp [hxl]
        have hl8r : (root.map byteV).length = 8 := by simp [HN.out.2.2.1]
        have HY := Lib.hid (And.intro hrw (And.intro hcx hbw))
        clear hrow hkp hbw hcl hcap hx0 hcs hcl0 hL0 hrw hcx
        generalize (x == root) = ans at *
        generalize x.map byteV = xm at *
        generalize root.map byteV = rm at *
        have hall := ext_all wr
        go_wp2_with fail
        refine wp_region_ext mixed1 (by kernel_rfl) ?_
        refine BigFrame.wpQuiet_want rfl (fun K hK => quiet_load_mid (b := gN) (off := 0) (cs := xm) (d := .array 8 5) rfl (by simp [Act.eval]) (fun W hW => Cs.range (Cs.below HY.out.2.1 hW)) Tryz.underlying23 rfl (by rw [hl8x]; exact hi8) (hK _ ?_))
        iterate 2 (refine wpQuiet_step (fun K hK => ?_); go_simp; refine hK _ ?_; clear hK K)
        refine BigFrame.wpQuiet_want rfl (fun K hK => quiet_load_mid (b := gR) (off := oR) (cs := rm) (d := .array 8 5) rfl (by simp [Act.eval]) (fun W hW => Cs.range (Cs.below HY.out.1 hW)) Tryz.underlying23 rfl (by rw [hl8r]; exact hi8) (hK _ ?_))
        iterate 2 (refine wpQuiet_step (fun K hK => ?_); go_simp; refine hK _ ?_; clear hK K)
        refine wpQuiet_nil ?_
        intro W hW
        go_wp2_with fail
        go_ret
        exact ⟨ret_bool HD.out.symm, HY.out.2.2.trans (Below.mono hW HY.out.2.2.size)⟩
  · have hlfi : ¬ ((word sig 0).toNat : Int) / 2 ^ h = 0 := by
      have e : ((2 : Int) ^ h) = ((2 ^ h : Nat) : Int) := by rw [Int.natCast_pow]; rfl
      rw [e, ← Int.natCast_ediv]
      intro hz
      exact hlf (by exact_mod_cast hz)
    have HD : Hid (verT ks root h msg sig = false) := Lib.hid (by unfold verT; rw [decide_eq_false hlf, Bool.false_and])
    clear hlf
    go_wp2_with fail
    go_ret
    refine ⟨ret_bool HD.out.symm, hw0 _⟩
end W
end Go.Proofs.YthogembgndkmpaaGreatDoor

/- signetref7: four, Secret, Get, Digest. -/
namespace Go.Proofs.YthogembgndkmpaaGreatDoor
open Go.RowKit
namespace W
theorem Four (n : Nat) (hn : n < 4294967296) (w : World) : Calls Tryz.prog 52 #[.int .u32 (n : Int)] w fun e w' => ∃ v', e = .returned v' ∧ w'.ownsRow w.heap.size 5 1 v' 4 ((Nm.be4 n).map byteV) ∧ Below w.heap.size w w' := by
  have hP := Nm.RPut4 w.heap.size (.slice none 0 0) 0 [] n w (World.ownsRow_nil _ _ _ _) (Nat.le_refl _) (by omega) hn
  have HP := Lib.hid hP
  clear hP
  go_enter Tryz.func52, Tryz.ntmps52
  go_wp2_with fail
  refine HP.out.mono ?_
  rintro e w2 ⟨v', rfl, hown, hm⟩
  have hb : Below w.heap.size w w2 := hm.kept.below (Nat.le_refl _) (fun k hk h => by cases h)
  go_wp2_with fail
  go_ret
  exact ⟨_, rfl, by simpa using hown, hb⟩
/-- a secret -/
def secr (ks : List UInt32) (seed : List UInt8) (leaf : Nat) (bit v : UInt8) : List UInt8 := short ks 1 [seed, Nm.be4 leaf, [bit], [v]]
/-- a block of eight cells -/
def cellF (g : Nat) (c : Array Value) : Fact := ⟨fun v W => W.heap[g]? = some (.cells c 23 (0, 0)), fun v W W' hE h => (Below.block hE g (lt_block h)).trans h⟩
set_option maxRecDepth 100000 in
set_option maxHeartbeats 20000000 in
theorem SecretR (cs : Array Value) (seed : List UInt8) (Rs : Row8 cs seed) (leaf : Nat) (hl : leaf < 4294967296) (bit v : UInt8) (w : World) :
    Calls Tryz.prog 26 #[.agg cs, .int .u32 (leaf : Int), .int .u8 (bit.toNat : Int), .int .u8 (v.toNat : Int)] w fun e w' => e = .returned (.agg ((secr ks0 seed leaf bit v).map byteV).toArray) ∧ Below w.heap.size w w' := by
  have HF := Lib.hid (fun w => Four leaf hl w)
  go_enter Tryz.func26, Tryz.ntmps26
  go_wp2_with fail
  generalize hW1 : World.alloc _ _ = W1
  have hsa : W1.heap[w.heap.size]? = some (.cells cs 23 (0, 0)) := by
    rw [← hW1, Below.heap_alloc _ _ _ (by simp)]
    exact heap_alloc_new w _
  have hsz : W1.heap[w.heap.size + 1]? = some (.cells z8 23 (0, 0)) := by
    rw [← hW1]
    have h := heap_alloc_new (w.alloc (.cells cs 23)) (.cells z8 23)
    rw [show (w.alloc (.cells cs 23)).heap.size = w.heap.size + 1 from by simp] at h
    exact h
  have hb1 : Below w.heap.size w W1 := by
    rw [← hW1]
    exact ((Below.refl _ _).alloc (Nat.le_refl _) _).alloc (by simp) _
  have hs2 : W1.heap.size = w.heap.size + 2 := by
    have := lt_block hsz
    rw [← hW1]
    simp
  have H1 := Lib.hid (And.intro hsa (And.intro hsz hb1))
  have R2 : Row8 ((secr ks0 seed leaf bit v).map byteV).toArray (secr ks0 seed leaf bit v) := ⟨rfl, short_len _ _ _⟩
  have HSH : Hid (secr ks0 seed leaf bit v = short ks0 1 [seed, Nm.be4 leaf, [bit], [v]]) := Lib.hid rfl
  have hsl := Rs.len
  clear hsa hsz hb1 hW1
  generalize ((secr ks0 seed leaf bit v).map byteV).toArray = c at *
  refine wp_region_x (by kernel_rfl) (by kernel_rfl) (w.heap.size + 1) (by omega) [.c (.is (.slice (some ⟨w.heap.size, 0, none⟩) 8 8)), .c (.is (.int .u32 (leaf : Int))), .c (.own W1.heap.size 5 1 4 ((Nm.be4 leaf).map byteV)), .c (.is (.int .u8 (bit.toNat : Int))), .c (.own W1.heap.size 5 1 1 [byteV bit]), .c (.is (.int .u8 (v.toNat : Int))), .c (.own W1.heap.size 5 1 1 [byteV v]),
    .c (Nm.blobsF [seed, Nm.be4 leaf, [bit], [v]]), .c (.is (.agg c)), .c (cellF (w.heap.size + 1) c)] (by kernel_rfl) (fun i => if i = 9 then 3 else 0) (fun j => if j = 2 ∨ j = 4 ∨ j = 6 ∨ j = 7 ∨ j = 9 then 3 else 0) (by kernel_rfl) ?_
    (fun W => W.heap[w.heap.size]? = some (.cells cs 23 (0, 0)) ∧ W.heap[w.heap.size + 1]? = some (.cells z8 23 (0, 0))) ⟨H1.out.1, H1.out.2.1⟩ (fun W W' hE h => ⟨(Below.block hE _ (lt_block h.1)).trans h.1, (Below.block hE _ (lt_block h.2)).trans h.2⟩) (fun W W' hE h => ⟨(hE.block _ (by omega)).trans h.1, (hE.block _ (by omega)).trans h.2⟩) ?_ ?_
  · intro j vals
    rcases j with _ | _ | _ | _ | _ | _ | _ | _ | _ | _ | j
    all_goals first
      | exact plain_is _
      | exact trivial
      | (rw [if_neg (by omega)]; exact plain_any)
  · intro i o hio vals W hC haf hI0
    have hBW : W1.heap.size ≤ W.heap.size := hC.size
    rcases i with _ | _ | _ | _ | _ | _ | _ | _ | _ | _ | i
    all_goals first
      | (exfalso; simp at hio; done)
      | skip
    all_goals
      simp at hio
      subst hio
      simp [bindD, rdB, Region.binds, dfAt, DF.d_at] at haf
    all_goals first
      | (simp [opYield_def, yieldUpon, relAct, dstAt, Act.put, Region.wanted, go_sem, haf, Ext.refl, dfAt, DF.d_at, kindX]; done)
      | skip
    · simp [opYield_def, yieldUpon, relAct, dstAt, Act.put, Region.wanted, go_sem, haf, dfAt, DF.d_at, kindX]
      refine (HF.out W).mono fun e W' h5 => ?_
      obtain ⟨v', he, ho, hb⟩ := h5
      exact ⟨v', he, hb, own_base ho hBW⟩
    · simp [opYield_def, yieldUpon, relAct, dstAt, Act.put, Region.wanted, go_sem, haf, dfAt, DF.d_at, kindX]
      exact ⟨(Below.refl _ _).alloc (Nat.le_refl _) _, Nm.own_rowC W W1.heap.size 5 [byteV bit] hBW (by simp)⟩
    · simp [opYield_def, yieldUpon, relAct, dstAt, Act.put, Region.wanted, go_sem, haf, dfAt, DF.d_at, kindX]
      exact ⟨(Below.refl _ _).alloc (Nat.le_refl _) _, Nm.own_rowC W W1.heap.size 5 [byteV v] hBW (by simp)⟩
    · obtain ⟨h0, h2, h4, h6⟩ := haf
      obtain ⟨A2, c2, e2, _, q2⟩ := Cs.of_own h2
      obtain ⟨A4, c4, e4, _, q4⟩ := Cs.of_own h4
      obtain ⟨A6, c6, e6, _, q6⟩ := Cs.of_own h6
      have hsd : W.heap[w.heap.size]? = some (.cells cs 23 (0, 0)) := (hC.block _ (Nat.lt_succ_self _)).trans H1.out.1
      simp [opYield_def, yieldUpon, relAct, dstAt, Act.put, Region.wanted, go_sem, h0, e2, e4, e6, dfAt, DF.d_at, kindX]
      have hbz : Below W.heap.size W (W.alloc (.cells #[.slice (some ⟨w.heap.size, 0, none⟩) 8 8, .slice A2 4 c2, .slice A4 1 c4, .slice A6 1 c6] 28)) := (Below.refl _ _).alloc (Nat.le_refl _) _
      have hs1 := heap_alloc_new W (.cells #[.slice (some ⟨w.heap.size, 0, none⟩) 8 8, .slice A2 4 c2, .slice A4 1 c4, .slice A6 1 c6] 28)
      refine ⟨hbz, ?_⟩
      refine ⟨some ⟨W.heap.size, 0, none⟩, [⟨some ⟨w.heap.size, 0, none⟩, seed, 8⟩, ⟨A2, Nm.be4 leaf, c2⟩, ⟨A4, [bit], c4⟩, ⟨A6, [v], c6⟩], rfl, ?_, rfl, ?_⟩
      · intro i u hu
        refine ⟨_, _, rfl, lt_block hs1, ?_⟩
        rw [Nat.zero_add, cell_of_row _ _ _ _ _ _ hs1]
        simp [Blob.v, hsl, Nm.be4] at hu ⊢
        exact hu
      · intro b hb
        simp at hb
        rcases hb with rfl | rfl | rfl | rfl
        · exact Cs.below (row8_cs Rs hsd) hbz
        · exact Cs.below q2 hbz
        · exact Cs.below q4 hbz
        · exact Cs.below q6 hbz
    · obtain ⟨A7, bs, e7, q7, hls, hbl⟩ := haf
      simp [opYield_def, yieldUpon, relAct, dstAt, Act.put, Region.wanted, go_sem, e7, dfAt, DF.d_at, kindX]
      have hbn : bs.length = 4 := by
        have := congrArg List.length hls
        simpa using this
      refine (ShortR 1 1 rfl A7 4 4 bs hbn.symm W q7 hbl (by omega) (by rw [hls]; simp [parts, lp_len, hsl, Nm.be4])).mono fun e W' h5 => ?_
      rw [hls, ← HSH.out, ← R2.eq] at h5
      first
        | exact ⟨h5.2, h5.1⟩
        | exact ⟨h5.1, h5.2⟩
        | exact ⟨_, h5.1, h5.2, rfl⟩
        | exact ⟨_, h5.1, h5.2⟩
    · have hI := hI0 (fun k hk hk2 => by
        by_cases h9 : k = 9
        · exact .inl h9
        · exfalso; simp [h9] at hk2)
      refine yield_store rfl rfl (g := w.heap.size + 1) (cells := c) (old := z8) (t := 23) ?_ ?_ hI.2 R2.info R2.old R2.all ?_
      · simp [relAct, dstAt, Act.put, Act.eval]
      · simp [relAct, dstAt, Act.put, Act.eval, haf]
      refine ⟨?_, setRow_heap W (w.heap.size + 1) _ c _ _ hI.2⟩
      exact ⟨rfl, rfl, rfl, by simp, fun k hk => setRow_other W (w.heap.size + 1) k _ (by omega)⟩
  · intro vals W hE hF
    have h9 := hF 9 (by show 9 < 10; omega) (by kernel_rfl)
    simp [dfAt] at h9
    simp [relAct, dstAt, Act.put]
    clear hF
    have hrb : W.heap[w.heap.size + 1]? = some (.cells c 23 (0, 0)) := h9
    clear h9
    have hbw : Below w.heap.size w W := H1.out.2.2.trans (hE.mono (Nat.le_succ _))
    go_wp2_with fail
    refine bodyPost_ret (v := .agg c) (results_cell_row rfl _ _ (w.heap.size + 1) 23 c (0, 0) _ rfl hrb Tryz.underlying23 rfl R2.info) rfl ⟨by rw [R2.eq], hbw⟩
end W
end Go.Proofs.YthogembgndkmpaaGreatDoor

/- signetref7.Public. -/
namespace Go.Proofs.YthogembgndkmpaaGreatDoor
open Go.RowKit
namespace W
/-- the locks of a leaf: of n places (two a bit) -/
def lockAt (ks : List UInt32) (seed : List UInt8) (leaf j : Nat) : List UInt8 := short ks 2 [secr ks seed leaf (UInt8.ofNat (j / 2)) (UInt8.ofNat (j % 2))]
def locksR (ks : List UInt32) (seed : List UInt8) (leaf n : Nat) : List UInt8 := (List.range n).flatMap (lockAt ks seed leaf)
def pubR (ks : List UInt32) (seed : List UInt8) (leaf : Nat) : List UInt8 := short ks 3 [locksR ks seed leaf 64]
theorem locksR_succ (ks : List UInt32) (seed : List UInt8) (leaf n : Nat) : locksR ks seed leaf (n + 1) = locksR ks seed leaf n ++ lockAt ks seed leaf n := by
  unfold locksR
  rw [List.range_succ, List.flatMap_append]
  simp
theorem locksR_len (ks : List UInt32) (seed : List UInt8) (leaf : Nat) : ∀ n, (locksR ks seed leaf n).length = 8 * n
  | 0 => rfl
  | n + 1 => by
    rw [locksR_succ, List.length_append, locksR_len ks seed leaf n]
    have : (lockAt ks seed leaf n).length = 8 := short_len _ _ _
    omega
def PubL (ks : List UInt32) (seed : List UInt8) (leaf B : Nat) (V : World) (k : Nat) (v i : Value) (wr : World) : Prop := ∃ j : Nat, j ≤ 2 ∧ i = .int .i64 (j : Int) ∧ wr.ownsRow B 5 1 v (8 * (2 * k + j)) ((locksR ks seed leaf (2 * k + j)).map byteV) ∧ Below B V wr
def PubO (ks : List UInt32) (seed : List UInt8) (leaf B : Nat) (V : World) (v i : Value) (wr : World) : Prop := ∃ k : Nat, k ≤ 32 ∧ i = .int .i64 (k : Int) ∧ wr.ownsRow B 5 1 v (8 * (2 * k)) ((locksR ks seed leaf (2 * k)).map byteV) ∧ Below B V wr
theorem u8_ofNat (n : Nat) (h : n < 256) : (((UInt8.ofNat n).toNat : Nat) : Int) = (n : Int) := by
  rw [UInt8.toNat_ofNat', Nat.mod_eq_of_lt (by simpa using h)]
set_option maxRecDepth 100000 in
set_option maxHeartbeats 20000000 in
theorem PublicR (cs : Array Value) (seed : List UInt8) (Rs : Row8 cs seed) (leaf : Nat) (hl : leaf < 4294967296) (w : World) :
    Calls Tryz.prog 21 #[.agg cs, .int .u32 (leaf : Int)] w fun e w' => e = .returned (.agg ((pubR ks0 seed leaf).map byteV).toArray) ∧ Below w.heap.size w w' := by
  go_enter Tryz.func21, Tryz.ntmps21
  go_wp2_with fail
  generalize hW1 : World.alloc _ _ = W1
  have hsa : W1.heap[w.heap.size]? = some (.cells cs 23 (0, 0)) := by
    rw [← hW1, Below.heap_alloc _ _ _ (by simp)]
    exact heap_alloc_new w _
  have hsz : W1.heap[w.heap.size + 1]? = some (.cells z8 23 (0, 0)) := by
    rw [← hW1]
    have h := heap_alloc_new (w.alloc (.cells cs 23)) (.cells z8 23)
    rw [show (w.alloc (.cells cs 23)).heap.size = w.heap.size + 1 from by simp] at h
    exact h
  have hb1 : Below w.heap.size w W1 := by
    rw [← hW1]
    exact ((Below.refl _ _).alloc (Nat.le_refl _) _).alloc (by simp) _
  have hs2 : W1.heap.size = w.heap.size + 2 := by rw [← hW1]; simp
  have H1 := Lib.hid (And.intro hsa (And.intro hsz (And.intro hb1 hs2)))
  clear hsa hsz hb1 hW1 hs2
  go_loopw [5, 6, 7, 8, 9] (fun v i _ _ _ wr => PubO ks0 seed leaf (w.heap.size + 2) W1 v i wr) (fun _ i _ _ _ _ => 32 - (intOf i).toNat)
  case atStart => exact ⟨0, Nat.zero_le _, rfl, World.ownsRow_nil _ _ _ _, Below.refl _ _⟩
  case round =>
    obtain ⟨k, hk, rfl, hown, hbel⟩ := hrel
    by_cases hlt : k < 32
    · have HO := Lib.hid (And.intro hown hbel)
      clear hown hbel
      have hkd : decide ((k : Int) < 32) = true := by simp; omega
      go_wp2_with fail
      try simp only [hkd]
      go_loopw [5, 7, 8, 9] (fun v i _ _ wr => PubL ks0 seed leaf (w.heap.size + 2) W1 k v i wr) (fun _ i _ _ _ => 2 - (intOf i).toNat)
      case atStart => exact ⟨0, Nat.zero_le _, rfl, HO.out.1, HO.out.2⟩
      case round =>
        clear HO
        obtain ⟨j, hj, rfl, hown, hbel⟩ := hrel
        have hB0 : w.heap.size + 2 ≤ wr.heap.size := by have := hbel.size; rw [H1.out.2.2.2] at this; exact this
        have hsd : wr.heap[w.heap.size]? = some (.cells cs 23 (0, 0)) := (hbel.block _ (by omega)).trans H1.out.1
        by_cases hlt2 : j < 2
        · have hS := fun W => SecretR cs seed Rs leaf hl (UInt8.ofNat k) (UInt8.ofNat j) W
          rw [u8_ofNat k (by omega), u8_ofNat j (by omega)] at hS
          have HS := Lib.hid hS
          have HX := Lib.hid (And.intro hown hbel)
          have lk : (k : Int) < 256 := by omega
          have lj : (j : Int) < 256 := by omega
          clear hS hown hbel
          go_wp2_with (first
            | (refine wpList_load_row rfl 23 (.tmp 2) rfl w.heap.size rfl 23 cs (0, 0) _ hsd Tryz.underlying23 rfl Rs.info ?_))
          refine (HS.out wr).mono ?_
          rintro e w1 ⟨rfl, hb1⟩
          have R1 : Row8 ((secr ks0 seed leaf (UInt8.ofNat k) (UInt8.ofNat j)).map byteV).toArray (secr ks0 seed leaf (UInt8.ofNat k) (UInt8.ofNat j)) := ⟨rfl, short_len _ _ _⟩
          have HLK : Hid (lockAt ks0 seed leaf (2 * k + j) = short ks0 2 [secr ks0 seed leaf (UInt8.ofNat k) (UInt8.ofNat j)]) := Lib.hid (by unfold lockAt; rw [show (2 * k + j) / 2 = k from by omega, show (2 * k + j) % 2 = j from by omega])
          generalize secr ks0 seed leaf (UInt8.ofNat k) (UInt8.ofNat j) = sec at *
          generalize hc1 : (sec.map byteV).toArray = c1 at *
          have hz : (w1.alloc (.cells z8 23)).heap[w1.heap.size]? = some (.cells z8 23 (0, 0)) := heap_alloc_new w1 _
          have hbz : Below w1.heap.size w1 (w1.alloc (.cells z8 23)) := (Below.refl _ _).alloc (Nat.le_refl _) _
          have hrb := setRow_heap (w1.alloc (.cells z8 23)) w1.heap.size _ c1 _ _ hz
          have hbr : Below w1.heap.size w1 ((w1.alloc (.cells z8 23)).setRow w1.heap.size c1) := hbz.trans ⟨rfl, rfl, rfl, by simp, fun k hk => setRow_other (w1.alloc (.cells z8 23)) w1.heap.size k _ (by omega)⟩
          have HZ := Lib.hid (And.intro hz (And.intro hrb (hb1.trans (hbr.mono hb1.size))))
          clear hz hbz hrb hbr hb1 hc1
          go_wp2_with (first
            | (refine wpList_store_row rfl 23 (.tmp 8) (.tmp 24) rfl w1.heap.size c1 rfl (by kernel_rfl) 23 z8 HZ.out.1 R1.info R1.old R1.all ?_; change wpList _ _ _ _ _ ((w1.alloc (.cells z8 23)).setRow w1.heap.size c1); have HV := Lib.hid HZ.out.2; clear HZ; generalize (w1.alloc (.cells z8 23)).setRow w1.heap.size c1 = V at *))
          have hL := LockR (some ⟨w1.heap.size, 0, none⟩) 8 sec V (row8_cs R1 HV.out.1) (by rw [R1.len]; omega)
          rw [R1.len] at hL
          refine hL.mono ?_
          clear hL
          rintro e w2 ⟨rfl, hb2⟩
          rw [← HLK.out]
          have R2 : Row8 ((lockAt ks0 seed leaf (2 * k + j)).map byteV).toArray (lockAt ks0 seed leaf (2 * k + j)) := ⟨rfl, by rw [HLK.out]; exact short_len _ _ _⟩
          have HLS := Lib.hid (locksR_succ ks0 seed leaf (2 * k + j))
          have hll := locksR_len ks0 seed leaf (2 * k + j)
          generalize lockAt ks0 seed leaf (2 * k + j) = lo at *
          generalize hc2 : (lo.map byteV).toArray = c2 at *
          have hz : (w2.alloc (.cells z8 23)).heap[w2.heap.size]? = some (.cells z8 23 (0, 0)) := heap_alloc_new w2 _
          have hbz : Below w2.heap.size w2 (w2.alloc (.cells z8 23)) := (Below.refl _ _).alloc (Nat.le_refl _) _
          have hrb := setRow_heap (w2.alloc (.cells z8 23)) w2.heap.size _ c2 _ _ hz
          have hbr : Below w2.heap.size w2 ((w2.alloc (.cells z8 23)).setRow w2.heap.size c2) := hbz.trans ⟨rfl, rfl, rfl, by simp, fun k hk => setRow_other (w2.alloc (.cells z8 23)) w2.heap.size k _ (by omega)⟩
          have hbV : Below wr.heap.size wr V := HV.out.2
          have hb3 := hbV.trans (hb2.mono hbV.size)
          have HZ := Lib.hid (And.intro hz (And.intro hrb (hb3.trans (hbr.mono hb3.size))))
          clear hz hbz hrb hbr hb3 hb2 hbV hc2
          go_wp2_with (first
            | (refine wpList_store_row rfl 23 (.tmp 9) (.tmp 26) rfl w2.heap.size c2 rfl (by kernel_rfl) 23 z8 HZ.out.1 R2.info R2.old R2.all ?_; change wpList _ _ _ _ _ ((w2.alloc (.cells z8 23)).setRow w2.heap.size c2); have HV2 := Lib.hid HZ.out.2; clear HZ; generalize (w2.alloc (.cells z8 23)).setRow w2.heap.size c2 = V2 at *; have hcl := row8_cs R2 HV2.out.1; have hoV := own_below HX.out.1 HV2.out.2)
            | (at_builtin; refine wpList_bytes hoV (Nat.le_trans hB0 HV2.out.2.size) hcl rfl (.tmp 27) (.tmp 28) Tryz.underlying28 rfl rfl (by rw [R2.len]; rfl) (by rw [R2.len]; omega) ?_; intro v3 w3 hown3 hbw3))
          have hN : PubL ks0 seed leaf (w.heap.size + 2) W1 k v3 (.int .i64 ((j : Int) + 1)) w3 := by
            refine ⟨j + 1, by omega, by go_num, ?_, (HX.out.2.trans (HV2.out.2.mono hB0)).trans hbw3⟩
            rw [← Nat.add_assoc, HLS.out]
            rw [R2.len] at hown3
            rw [show 8 * (2 * k + j + 1) = 8 * (2 * k + j) + 8 from by omega]
            exact hown3
          refine ⟨?_, by simp [intOf]; omega⟩
          first
            | exact hN
            | ((repeat apply Exists.intro); exact ⟨hN, rfl⟩)
        · have hj2 : j = 2 := by omega
          subst hj2
          have HO := Lib.hid (And.intro hown hbel)
          clear hown hbel hsd
          go_wp2_with fail
          refine ⟨⟨k + 1, by omega, by go_num, ?_, HO.out.2⟩, by simp [intOf]; omega⟩
          rw [show 2 * (k + 1) = 2 * k + 2 from by omega]
          exact HO.out.1
    · have hk32 : k = 32 := by omega
      subst hk32
      have hl64 := locksR_len ks0 seed leaf 64
      obtain ⟨A3, c3, rfl, _, h3c⟩ := Cs.of_own hown
      have hB0 : w.heap.size + 2 ≤ wr.heap.size := by have := hbel.size; rw [H1.out.2.2.2] at this; exact this
      have hbw : Below w.heap.size w wr := H1.out.2.2.1.trans (hbel.mono (by omega))
      have hzr : wr.heap[w.heap.size + 1]? = some (.cells z8 23 (0, 0)) := (hbel.block _ (by omega)).trans H1.out.2.1
      have hbz : Below wr.heap.size wr (wr.alloc (.cells #[.slice A3 512 c3] 28)) := (Below.refl _ _).alloc (Nat.le_refl _) _
      have hs1 := heap_alloc_new wr (.cells #[.slice A3 512 c3] 28)
      have hcs : Cs (wr.alloc (.cells #[.slice A3 512 c3] 28)) (some ⟨wr.heap.size, 0, none⟩) ([(⟨A3, locksR ks0 seed leaf 64, c3⟩ : Blob)].map Blob.v) := by
        intro i u hu
        refine ⟨_, _, rfl, lt_block hs1, ?_⟩
        rw [Nat.zero_add, cell_of_row _ _ _ _ _ _ hs1]
        simp [Blob.v, hl64] at hu ⊢
        exact hu
      have hll := lp_len (locksR ks0 seed leaf 64)
      have hS := ShortR 3 3 rfl (some ⟨wr.heap.size, 0, none⟩) 1 1 [(⟨A3, locksR ks0 seed leaf 64, c3⟩ : Blob)] rfl _ hcs (by
        intro b hb
        obtain rfl : b = ⟨A3, locksR ks0 seed leaf 64, c3⟩ := by simpa using hb
        exact Cs.below h3c hbz) (by simp) (by simp [parts]; omega)
      have R : Row8 ((short ks0 3 ([(⟨A3, locksR ks0 seed leaf 64, c3⟩ : Blob)].map (·.l))).map byteV).toArray (pubR ks0 seed leaf) := ⟨rfl, short_len _ _ _⟩
      generalize ((short ks0 3 ([(⟨A3, locksR ks0 seed leaf 64, c3⟩ : Blob)].map (·.l))).map byteV).toArray = c at *
      have HS := Lib.hid hS
      have HZ0 := Lib.hid (And.intro hzr (And.intro hbw hbz))
      have hzs := lt_block hzr
      clear hS hcs hs1 hbz hzr hbw hown hbel h3c
      go_wp2_with fail
      refine HS.out.mono ?_
      rintro e w2 ⟨rfl, hb2⟩
      have hb3 : Below wr.heap.size wr w2 := HZ0.out.2.2.trans (hb2.mono HZ0.out.2.2.size)
      have hz2 := (hb3.block _ hzs).trans HZ0.out.1
      have HZ := Lib.hid hz2
      have hbw2 := HZ0.out.2.1.trans (hb3.mono HZ0.out.2.1.size)
      clear hz2 hb3 hb2 HZ0
      go_wp2_with (first
        | (refine wpList_store_row rfl 23 (.tmp 4) (.tmp 32) rfl (w.heap.size + 1) c rfl rfl 23 z8 HZ.out R.info R.old R.all ?_))
      have hrb := setRow_heap w2 (w.heap.size + 1) _ c _ _ HZ.out
      refine bodyPost_ret (v := .agg c) (results_cell_row rfl _ _ (w.heap.size + 1) 23 c (0, 0) _ rfl hrb Tryz.underlying23 rfl R.info) rfl ⟨by rw [R.eq], ?_⟩
      exact hbw2.trans ⟨rfl, rfl, rfl, by simp, fun k hk => setRow_other w2 (w.heap.size + 1) k _ (by omega)⟩
end W
end Go.Proofs.YthogembgndkmpaaGreatDoor

/- A region that draws its order: laws that serve most. -/
namespace Go.Proofs.YthogembgndkmpaaGreatDoor
open Go.RowKit
namespace Nm
theorem kills_none (bd : Edge → Bool) (ops : Array Oper) : killsX bd ops (fun _ _ => false) = true := by
  unfold killsX
  simp
/-- a region that draws, under whatever relations, values' facts of one value each -/
theorem wp_region_r2 {P : Program} {ops : Array Oper} {id : Nat} {Q : Exit → Act → World → Prop} {a0 : Act} {w0 : World} (hm : P.follows .mixedOrders = true) (hB : relB2 ops = true)
    (kills : Nat → Nat → Bool) (hkB : killsX bindD ops kills = true) (T : Nat → World → World → Prop) (C : World → Prop) (R : Nat → Value → World → Prop)
    (I0 : World → Prop) (kills0 : Nat → Bool) (hI0 : I0 { w0 with drawn := w0.drawn + 1 }) (hIst : ∀ i W W', kills0 i = false → C W → I0 W → T i W W' → I0 W')
    (hC0 : C { w0 with drawn := w0.drawn + 1 }) (hC : ∀ i W W', C W → T i W W' → C W')
    (hR : ∀ i j v W W', i ≠ j → kills i j = false → waitsT ops ops.size j i = false → C W → R j v W → T i W W' → R j v W')
    (step : ∀ i o, ops[i]? = some o → ∀ vals W, C W → (∀ e ∈ o.after, bindD e = true → R e.on (vals e.on) W) → ((∀ k, k < ops.size → kills0 k = true → k = i ∨ waitsT ops ops.size k i = true) → I0 W) →
      opYield P ops o (relAct ops a0 (fun _ => true) vals i) W (fun v W' => T i W W' ∧ R i v W'))
    (hend : ∀ vals W, C W → (∀ j, j < ops.size → (∀ i, i < ops.size → kills i j = false) → R j (vals j) W) → Q .normal (relAct ops a0 (fun _ => true) vals ops.size) W) :
    (Code.region id ops true).wp P Q a0 w0 := by
  refine wp_region_t bindD (fun e h => bindD_binds h) hm hB kills hkB T C (fun j vals W => R j (vals j) W) (fun j vals i v W hij _ h => ?_) I0 kills0 hI0 hIst hC0 hC (fun i j v W W' h1 h2 h3 h4 h5 h6 => hR i j (v j) W W' h1 h2 h3 h4 h5 h6) ?_ hend
  · simp only
    rw [if_neg (fun h => hij h.symm)]
    exact h
  · intro i o hio vals W hC haf hI
    refine opYield_mono ?_ (step i o hio vals W hC haf hI)
    intro v W' h
    simpa using h
/-- a region that draws and writes nothing that was there, assigns or none -/
theorem wp_region_m2 {P : Program} {ops : Array Oper} {id : Nat} {Q : Exit → Act → World → Prop} {a0 : Act} {w0 : World} (hm : P.follows .mixedOrders = true) (hB : relB2 ops = true) (fs : List Fact)
    (step : ∀ i o, ops[i]? = some o → ∀ vals W, Ext w0 W → (∀ e ∈ o.after, bindD e = true → (factAt fs e.on).p (vals e.on) W) →
      opYield P ops o (relAct ops a0 (fun _ => true) vals i) W (fun v W' => Ext W W' ∧ (factAt fs i).p v W'))
    (hend : ∀ vals W, Ext w0 W → (∀ j, j < ops.size → (factAt fs j).p (vals j) W) → Q .normal (relAct ops a0 (fun _ => true) vals ops.size) W) :
    (Code.region id ops true).wp P Q a0 w0 :=
  wp_region_r2 hm hB (fun _ _ => false) (kills_none _ _) (fun _ W W' => Ext W W') (fun W => Ext w0 W) (fun j v W => (factAt fs j).p v W) (fun _ => True) (fun _ => false) trivial (fun _ _ _ _ _ _ _ => trivial)
    ⟨rfl, rfl, rfl, Nat.le_refl _, fun _ _ => rfl⟩ (fun i W W' h1 h2 => Ext.trans h1 h2) (fun i j v W W' _ _ _ _ h1 h2 => (factAt fs j).st v W W' h2 h1)
    (fun i o hio vals W hC haf _ => step i o hio vals W hC haf) (fun vals W hC hR => hend vals W hC (fun j hj => hR j hj (fun _ _ => rfl)))
theorem less16 (x y : Nat) (w : World) : Calls Tryz.prog 171 #[.int .u16 x, .int .u16 y] w fun e w' => e = .returned (.bool (decide (x < y))) ∧ w' = w := by
  go_enter Tryz.func171, Tryz.ntmps171
  go_wp2
  go_ret
  exact ⟨rfl, rfl⟩
end Nm
end Go.Proofs.YthogembgndkmpaaGreatDoor

/- signetref7.Sign. -/
namespace Go.Proofs.YthogembgndkmpaaGreatDoor
open Go.RowKit
namespace W
theorem bit_eq (d : UInt32) (i : Nat) (hi : i < 32) : bits .and .u32 ((d.toNat : Int) / 2 ^ (31 - i)) 1 % 256 = ((bitN d i : Nat) : Int) := by
  have h1 := w_and (d >>> UInt32.ofNat (31 - i)) 1
  rw [show (((1 : UInt32).toNat : Nat) : Int) = 1 from rfl] at h1
  rw [w_shr d (31 - i) (by omega), h1, UInt32.toNat_and, show (1 : UInt32).toNat = 1 from rfl, Nat.and_one_is_mod]
  have h2 : (d >>> UInt32.ofNat (31 - i)).toNat = d.toNat / 2 ^ (31 - i) := by
    have := w_shr d (31 - i) (by omega)
    have e2 : ((d.toNat : Int) / 2 ^ (31 - i)) = ((d.toNat / 2 ^ (31 - i) : Nat) : Int) := by push_cast; rfl
    rw [e2] at this
    exact_mod_cast this.symm
  rw [h2]
  unfold bitN
  omega
/-- what a signature has for a bit -/
def sg16 (ks : List UInt32) (seed : List UInt8) (leaf : Nat) (d : UInt32) (i : Nat) : List UInt8 :=
  secr ks seed leaf (UInt8.ofNat i) (UInt8.ofNat (bitN d i)) ++ short ks 2 [secr ks seed leaf (UInt8.ofNat i) (UInt8.ofNat (1 - bitN d i))]
def sgn (ks : List UInt32) (seed : List UInt8) (leaf : Nat) (d : UInt32) (n : Nat) : List UInt8 := (List.range n).flatMap (sg16 ks seed leaf d)
theorem sg16_len (ks : List UInt32) (seed : List UInt8) (leaf : Nat) (d : UInt32) (i : Nat) : (sg16 ks seed leaf d i).length = 16 := by
  unfold sg16 secr
  rw [List.length_append, short_len, short_len]
theorem sgn_succ (ks : List UInt32) (seed : List UInt8) (leaf : Nat) (d : UInt32) (n : Nat) : sgn ks seed leaf d (n + 1) = sgn ks seed leaf d n ++ sg16 ks seed leaf d n := by
  unfold sgn
  rw [List.range_succ, List.flatMap_append]
  simp
theorem sgn_len (ks : List UInt32) (seed : List UInt8) (leaf : Nat) (d : UInt32) : ∀ n, (sgn ks seed leaf d n).length = 16 * n
  | 0 => rfl
  | n + 1 => by
    rw [sgn_succ, List.length_append, sgn_len ks seed leaf d n, sg16_len]
    omega
def SgnL (ks : List UInt32) (seed : List UInt8) (leaf : Nat) (d : UInt32) (B : Nat) (V : World) (v i : Value) (wr : World) : Prop := ∃ k : Nat, k ≤ 32 ∧ i = .int .i64 (k : Int) ∧ wr.ownsRow B 5 1 v (16 * k) ((sgn ks seed leaf d k).map byteV) ∧ Below B V wr
/-- append of bytes to a row of the call's own, in a region that draws: what was there is kept, but for the row's block -/
theorem yield_bytesM {ops : Array Oper} {o : Oper} {a : Act} {W : World} {R : Value → World → Prop} (hgd : o.guard = none) (sl x : Operand) {t : TypeId} (ht : Tryz.prog.underlying t = some (.slice 5))
    (ho : o.op = .call { callee := .builtin .append, args := #[sl, x], argTypes := #[t, t] }) {B : Nat} {v : Value} {n : Nat} {xs us : List Value} (hs : a.eval sl = v) (hown : W.ownsRow B 5 1 v n xs) (hB : B ≤ W.heap.size)
    {b : Addr} {c : Nat} (hx : a.eval x = .slice (some b) us.length c) (hcs : Cs W (some b) us) (h1 : ∀ u ∈ us, u.oneCell' = true) (hn : n + us.length ≤ 1000000000)
    (h : ∀ v' W', W'.ownsRow B 5 1 v' (n + us.length) (xs ++ us) → Moved v W v' W' → R v' W') : opYield Tryz.prog ops o a W R := by
  obtain ⟨i0, hi, hz0, hz1, hz2⟩ := info_parts info_u8
  have hw : Region.wanted o (yielded ops a.tmps) = true := by simp [Region.wanted, hgd]
  rw [opYield_def, if_pos hw]
  obtain ⟨v', W', hr, h2, h3, _, hat⟩ := run_append_own_at (P := Tryz.prog) W B t o.type 5 i0 _ 1 1 ht hi hz0 hz1 hz2 rfl (by decide) v n xs hown b us.length c us (by simp) hcs.cells h1 (by unfold maxLen; omega) (by omega) hB
  unfold execOp
  simp only [ho, resolve, invoke, builtin, Sem.run_bind, Sem.run_pure, Result.andThen_ok, List.map_toArray, List.map_cons, List.map_nil, hs, hx, hr]
  refine h v' W' h2 ⟨Kept.of_grown h3, fun k hk => ?_⟩
  rcases hat with hat | hat
  · exact .inl (hat ▸ hk)
  · rw [hat] at hk
    cases hk
    exact .inr (Nat.le_refl _)
/-- eight bytes laid into a new block -/
theorem new8 (w : World) (c : Array Value) : (w.alloc (.cells z8 23)).heap[w.heap.size]? = some (.cells z8 23 (0, 0)) ∧ ((w.alloc (.cells z8 23)).setRow w.heap.size c).heap[w.heap.size]? = some (.cells c 23 (0, 0)) ∧ Below w.heap.size w ((w.alloc (.cells z8 23)).setRow w.heap.size c) := by
  have hz : (w.alloc (.cells z8 23)).heap[w.heap.size]? = some (.cells z8 23 (0, 0)) := heap_alloc_new w _
  have hbz : Below w.heap.size w (w.alloc (.cells z8 23)) := (Below.refl _ _).alloc (Nat.le_refl _) _
  exact ⟨hz, setRow_heap (w.alloc (.cells z8 23)) w.heap.size _ c _ _ hz, hbz.trans ⟨rfl, rfl, rfl, by simp, fun k hk => setRow_other (w.alloc (.cells z8 23)) w.heap.size k _ (by omega)⟩⟩
theorem ownsRow_mono' {w : World} {base base' : Nat} {e : TypeId} {size : Nat} {v : Value} {n : Nat} {xs : List Value} (h : w.ownsRow base e size v n xs) (hb : base' ≤ base) : w.ownsRow base' e size v n xs := by
  obtain ⟨h1, h2 | ⟨g, c, cur, a, b, d⟩⟩ := h
  · exact ⟨h1, .inl h2⟩
  · exact ⟨h1, .inr ⟨g, c, cur, a, Nat.le_trans hb b, d⟩⟩
set_option maxRecDepth 100000 in
set_option maxHeartbeats 20000000 in
theorem SignR (cs : Array Value) (seed : List UInt8) (Rs : Row8 cs seed) (leaf : Nat) (hl : leaf < 4294967296) (A : Option Addr) (cap : Nat) (msg : List UInt8) (w : World) (hb : Cs w A (msg.map byteV)) (hbl : msg.length ≤ 1000000) :
    Calls Tryz.prog 12 #[.agg cs, .int .u32 (leaf : Int), .slice A msg.length cap] w fun e w' => ∃ v, e = .returned v ∧ w'.ownsRow w.heap.size 5 1 v 512 ((sgn ks0 seed leaf (dig ks0 msg) 32).map byteV) ∧ Below w.heap.size w w' := by
  have hb0 : Below w.heap.size w (w.alloc (.cells cs 23)) := (Below.refl _ _).alloc (Nat.le_refl _) _
  have hsa := heap_alloc_new w (.cells cs 23)
  have hs1 : (w.alloc (.cells cs 23)).heap.size = w.heap.size + 1 := by simp
  have hD := DigestR A cap msg (w.alloc (.cells cs 23)) (hb.below hb0) hbl
  have HD := Lib.hid (And.intro hD (And.intro hb0 (And.intro hsa hs1)))
  clear hD hb0 hsa hs1 hb
  go_enter Tryz.func12, Tryz.ntmps12
  go_wp2_with fail
  refine HD.out.1.mono ?_
  rintro e V ⟨rfl, hb2⟩
  have hbV := HD.out.2.1.trans (hb2.mono HD.out.2.1.size)
  have hsV := (hb2.block _ (lt_block HD.out.2.2.1)).trans HD.out.2.2.1
  have hV : w.heap.size + 1 ≤ V.heap.size := by have := hb2.size; rw [HD.out.2.2.2] at this; exact this
  have HV := Lib.hid (And.intro hbV hsV)
  clear hb2 hbV hsV HD
  generalize hdd : dig ks0 msg = d at *
  have HDD := Lib.hid hdd
  clear hdd
  go_wp2_with fail
  go_loopw [8, 9, 10, 11, 12, 13] (fun v i _ _ _ _ wr => SgnL ks0 seed leaf d (w.heap.size + 1) V v i wr) (fun _ i _ _ _ _ _ => 32 - (intOf i).toNat)
  case atStart => exact ⟨0, Nat.zero_le _, rfl, World.ownsRow_nil _ _ _ _, Below.refl _ _⟩
  case round =>
    obtain ⟨k, hk, rfl, hown, hbel⟩ := hrel
    by_cases hlt : k < 32
    · have hsd : wr.heap[w.heap.size]? = some (.cells cs 23 (0, 0)) := (hbel.block _ (Nat.lt_succ_self _)).trans HV.out.2
      have hB0 : w.heap.size + 1 ≤ wr.heap.size := Nat.le_trans hV hbel.size
      have hbit := bit_eq d k hlt
      have hv2 : bitN d k = 0 ∨ bitN d k = 1 := by unfold bitN; omega
      have hS1 := fun W => SecretR cs seed Rs leaf hl (UInt8.ofNat k) (UInt8.ofNat (bitN d k)) W
      have hS2 := fun W => SecretR cs seed Rs leaf hl (UInt8.ofNat k) (UInt8.ofNat (1 - bitN d k)) W
      rw [u8_ofNat k (by omega), u8_ofNat _ (by omega)] at hS1
      rw [u8_ofNat k (by omega), u8_ofNat _ (by omega)] at hS2
      have hsg : sg16 ks0 seed leaf d k = secr ks0 seed leaf (UInt8.ofNat k) (UInt8.ofNat (bitN d k)) ++ short ks0 2 [secr ks0 seed leaf (UInt8.ofNat k) (UInt8.ofNat (1 - bitN d k))] := rfl
      have hss := sgn_succ ks0 seed leaf d k
      rw [hsg] at hss
      have HSS := Lib.hid hss
      have R1 : Row8 ((secr ks0 seed leaf (UInt8.ofNat k) (UInt8.ofNat (bitN d k))).map byteV).toArray (secr ks0 seed leaf (UInt8.ofNat k) (UInt8.ofNat (bitN d k))) := ⟨rfl, short_len _ _ _⟩
      have R2 : Row8 ((secr ks0 seed leaf (UInt8.ofNat k) (UInt8.ofNat (1 - bitN d k))).map byteV).toArray (secr ks0 seed leaf (UInt8.ofNat k) (UInt8.ofNat (1 - bitN d k))) := ⟨rfl, short_len _ _ _⟩
      have HS := Lib.hid (And.intro hS1 hS2)
      have HX := Lib.hid (And.intro hown hbel)
      clear hS1 hS2 hsg hss hown hbel
      generalize secr ks0 seed leaf (UInt8.ofNat k) (UInt8.ofNat (bitN d k)) = s1 at *
      generalize secr ks0 seed leaf (UInt8.ofNat k) (UInt8.ofNat (1 - bitN d k)) = s2 at *
      generalize hc1 : (s1.map byteV).toArray = c1 at *
      generalize hc2 : (s2.map byteV).toArray = c2 at *
      clear hc1 hc2
      generalize bitN d k = v at *
      have m0 : (0 : Int) ≤ 31 - (k : Int) := by omega
      have m1 : IntKind.u8.wrap (1 - (v : Int)) = ((1 - v : Nat) : Int) := by rw [Nm.wrap8']; omega
      have m2 : (1 - (v : Int)) = ((1 - v : Nat) : Int) := by omega
      obtain ⟨u, hu⟩ : ∃ u : Nat, u = 1 - v := ⟨_, rfl⟩
      rw [← hu] at m1 m2 HS
      have m3 : IntKind.u8.wrap (u : Int) = (u : Int) := by rw [Nm.wrap8']; omega
      have HU := Lib.hid hu
      clear hu
      go_wp2_with (first
        | (refine wpList_load_row rfl 23 (.tmp 3) rfl w.heap.size rfl 23 cs (0, 0) _ hsd Tryz.underlying23 rfl Rs.info ?_))
      refine (HS.out.1 wr).mono ?_
      rintro e w1 ⟨rfl, hb1⟩
      have hw1 := hb1.size
      have hn1 := new8 w1 c1
      have HN1 := Lib.hid (And.intro hn1.1 (And.intro hn1.2.1 (hb1.trans (hn1.2.2.mono hb1.size))))
      clear hn1 hb1
      go_wp2_with (first
        | (refine wpList_store_row rfl 23 (.tmp 11) (.tmp 31) rfl w1.heap.size c1 rfl (by kernel_rfl) 23 z8 HN1.out.1 R1.info R1.old R1.all ?_; change wpList _ _ _ _ _ ((w1.alloc (.cells z8 23)).setRow w1.heap.size c1); have HV1 := Lib.hid HN1.out.2; clear HN1; generalize (w1.alloc (.cells z8 23)).setRow w1.heap.size c1 = V1 at *; have hsd1 := (Below.block HV1.out.2 _ (lt_block hsd)).trans hsd)
        | (refine wpList_load_row rfl 23 (.tmp 3) rfl w.heap.size rfl 23 cs (0, 0) _ hsd1 Tryz.underlying23 rfl Rs.info ?_))
      refine (HS.out.2 V1).mono ?_
      rintro e w2 ⟨rfl, hb2⟩
      have hn2 := new8 w2 c2
      have hbx := (HV1.out.2 : Below wr.heap.size wr V1)
      have hb12 := hbx.trans (hb2.mono hbx.size)
      have h1k : w2.heap[w1.heap.size]? = some (.cells c1 23 (0, 0)) := (hb2.block _ (lt_block HV1.out.1)).trans HV1.out.1
      have h1l := lt_block h1k
      have HN2 := Lib.hid (And.intro hn2.1 (And.intro hn2.2.1 (And.intro (hb12.trans (hn2.2.2.mono hb12.size)) ((hn2.2.2.block _ h1l).trans h1k))))
      clear hn2 hb2 hbx hb12 h1k hsd1
      go_wp2_with (first
        | (refine wpList_store_row rfl 23 (.tmp 12) (.tmp 38) rfl w2.heap.size c2 rfl (by kernel_rfl) 23 z8 HN2.out.1 R2.info R2.old R2.all ?_; change wpList _ _ _ _ _ ((w2.alloc (.cells z8 23)).setRow w2.heap.size c2); have HV2 := Lib.hid HN2.out.2; clear HN2; generalize (w2.alloc (.cells z8 23)).setRow w2.heap.size c2 = V2 at *))
      have hL := LockR (some ⟨w2.heap.size, 0, none⟩) 8 s2 V2 (row8_cs R2 HV2.out.1) (by rw [R2.len]; omega)
      rw [R2.len] at hL
      refine hL.mono ?_
      clear hL
      rintro e w3 ⟨rfl, hb3⟩
      have R3 : Row8 ((short ks0 2 [s2]).map byteV).toArray (short ks0 2 [s2]) := ⟨rfl, short_len _ _ _⟩
      generalize short ks0 2 [s2] = s3 at *
      generalize hc3 : (s3.map byteV).toArray = c3 at *
      clear hc3
      have h23 : w2.heap.size < w3.heap.size := Nat.lt_of_lt_of_le (lt_block HV2.out.1) hb3.size
      have h13 : w1.heap.size < w3.heap.size := Nat.lt_trans h1l h23
      have hn3 := new8 w3 c3
      have hbx := HV2.out.2.1
      have hb23 := hbx.trans (hb3.mono hbx.size)
      have h1k : w3.heap[w1.heap.size]? = some (.cells c1 23 (0, 0)) := (hb3.block _ (lt_block HV2.out.2.2)).trans HV2.out.2.2
      have HN3 := Lib.hid (And.intro hn3.1 (And.intro hn3.2.1 (And.intro (hb23.trans (hn3.2.2.mono hb23.size)) ((hn3.2.2.block _ (lt_block h1k)).trans h1k))))
      clear hn3 hb3 hbx hb23 h1k
      go_wp2_with (first
        | (refine wpList_store_row rfl 23 (.tmp 13) (.tmp 40) rfl w3.heap.size c3 rfl (by kernel_rfl) 23 z8 HN3.out.1 R3.info R3.old R3.all ?_; change wpList _ _ _ _ _ ((w3.alloc (.cells z8 23)).setRow w3.heap.size c3); have HV3 := Lib.hid HN3.out.2; clear HN3; generalize (w3.alloc (.cells z8 23)).setRow w3.heap.size c3 = V3 at *))
      obtain ⟨i0, hi, hz0, hz1, hz2⟩ := info_parts info_u8
      have hlen := sgn_len ks0 seed leaf d k
      have hoV := own_below HX.out.1 HV3.out.2.1
      have HO := Lib.hid (And.intro (row8_cs R1 HV3.out.2.2) (And.intro (row8_cs R3 HV3.out.1) (And.intro (HX.out.2.trans (Below.mono HV3.out.2.1 hB0)) (Nat.le_trans hB0 HV3.out.2.1.size))))
      have hg1 : w1.heap.size < V3.heap.size := lt_block HV3.out.2.2
      have hg3 : w3.heap.size < V3.heap.size := lt_block HV3.out.1
      have HX0 := Lib.hid HX.out.1
      have H13 := Lib.hid h13
      clear HV2 HV3 HX HS h13
      generalize sgn ks0 seed leaf d k = xs at *
      have hob : ∀ b, u8.ownBlock = some b → b < w1.heap.size := fun b hb => by
        have := (HX0.out.lt b hb).2
        omega
      have hlt12 : w1.heap.size < w3.heap.size := H13.out
      have HS0 : Hid (∀ b, (u8.ownBlock = some b ∨ V3.heap.size ≤ b) → b ≠ w1.heap.size ∧ b ≠ w3.heap.size) := Lib.hid (fun b hb => by
        rcases hb with hb | hb
        · have := hob b hb
          omega
        · omega)
      have hbV := HO.out.2.2.2
      refine Nm.wp_region_r2 (by kernel_rfl) (by kernel_rfl) (fun i j => i == 4 && j == 2) (by kernel_rfl) (fun i W W' => if i = 2 ∨ i = 4 then Kept (fun b => u8.ownBlock = some b ∨ V3.heap.size ≤ b) W W' else W' = W)
        (fun W => Kept (fun b => u8.ownBlock = some b ∨ V3.heap.size ≤ b) V3 W)
        (fun j v W => match j with
          | 0 => v = u8
          | 1 => v = .slice (some ⟨w1.heap.size, 0, none⟩) 8 8
          | 2 => W.ownsRow (w.heap.size + 1) 5 1 v (16 * k + 8) ((xs ++ s1).map byteV) ∧ ∀ b, v.ownBlock = some b → u8.ownBlock = some b ∨ V3.heap.size ≤ b
          | 3 => v = .slice (some ⟨w3.heap.size, 0, none⟩) 8 8
          | 4 => W.ownsRow (w.heap.size + 1) 5 1 v (16 * k + 8 + 8) ((xs ++ s1 ++ s3).map byteV)
          | 5 => W.ownsRow (w.heap.size + 1) 5 1 v (16 * k + 8 + 8) ((xs ++ s1 ++ s3).map byteV)
          | _ => True) (fun W => W.ownsRow (w.heap.size + 1) 5 1 u8 (16 * k) (xs.map byteV)) (fun i => i == 2 || i == 4) hoV ?_ ((Kept.refl _ _).drew) ?_ ?_ ?_ ?_
      · intro i W W' h1 _ h3 h4
        have hi2 : ¬ (i = 2 ∨ i = 4) := by simpa using h1
        rw [if_neg hi2] at h4
        rw [h4]
        exact h3
      · intro i W W' h1 h2
        by_cases hi2 : i = 2 ∨ i = 4
        · rw [if_pos hi2] at h2
          exact h1.trans h2
        · rw [if_neg hi2] at h2
          rw [h2]
          exact h1
      · intro i j v W W' hij hk0 hwt hC hR hT
        by_cases hi2 : i = 2 ∨ i = 4
        · rcases j with _ | _ | _ | _ | _ | _ | j
          · exact hR
          · exact hR
          · exfalso
            rcases hi2 with rfl | rfl
            · exact hij rfl
            · simp at hk0
          · exact hR
          · exfalso
            rcases hi2 with rfl | rfl
            · exact absurd (hwt.symm.trans (by kernel_rfl) : false = true) (by decide)
            · exact hij rfl
          · exfalso
            rcases hi2 with rfl | rfl
            · exact absurd (hwt.symm.trans (by kernel_rfl) : false = true) (by decide)
            · exact absurd (hwt.symm.trans (by kernel_rfl) : false = true) (by decide)
          · trivial
        · rw [if_neg hi2] at hT
          rw [hT]
          exact hR
      · intro i o hio vals W hC haf hI0
        have hBW : w.heap.size + 1 ≤ W.heap.size := Nat.le_trans hbV hC.size
        have q1 : Cs W (some ⟨w1.heap.size, 0, none⟩) (s1.map byteV) := Kept.cs HO.out.1 hC (fun a ha _ e => by cases ha; exact (HS0.out _ e).1 rfl)
        have q3 : Cs W (some ⟨w3.heap.size, 0, none⟩) (s3.map byteV) := Kept.cs HO.out.2.1 hC (fun a ha _ e => by cases ha; exact (HS0.out _ e).2 rfl)
        rcases i with _ | _ | _ | _ | _ | _ | i
        all_goals first
          | (exfalso; simp at hio; done)
          | skip
        all_goals
          simp at hio
          subst hio
          simp [bindD, rdB, Region.binds] at haf
        · simp [opYield_def, yieldUpon, relAct, dstAt, Act.put, Region.wanted, go_sem]
        · simp [opYield_def, yieldUpon, relAct, dstAt, Act.put, Region.wanted, go_sem]
        · obtain ⟨h0, h1⟩ := haf
          have hI := hI0 (fun k hk hk2 => by
            by_cases h2 : k = 2
            · exact .inl h2
            · by_cases h4 : k = 4
              · subst h4; exact .inr (by kernel_rfl)
              · exfalso; simp [h2, h4] at hk2)
          refine yield_bytesM rfl (.tmp 41) (.tmp 42) Tryz.underlying28 rfl (v := u8) (us := s1.map byteV) (by simp [relAct, dstAt, Act.put, Act.eval, h0]) hI hBW (b := ⟨w1.heap.size, 0, none⟩) (c := 8) (by simp [relAct, dstAt, Act.put, Act.eval, h1, R1.len]) q1 (by simp [byteV, Value.oneCell']) (by simp [R1.len]; omega) ?_
          intro v' W' g1 g2
          refine ⟨?_, ?_, ?_⟩
          · rw [if_pos (.inl rfl)]
            exact g2.kept.mono (fun b hb e => .inl e.symm)
          · rw [List.length_map, R1.len, ← List.map_append] at g1
            exact g1
          · intro b hb
            rcases g2.at_ b hb with h | h
            · exact .inl h
            · exact .inr (Nat.le_trans hC.size h)
        · simp [opYield_def, yieldUpon, relAct, dstAt, Act.put, Region.wanted, go_sem]
        · obtain ⟨h2, h3⟩ := haf
          refine yield_bytesM rfl (.tmp 43) (.tmp 44) Tryz.underlying28 rfl (v := vals 2) (n := 16 * k + 8) (xs := (xs ++ s1).map byteV) (us := s3.map byteV) (by simp [relAct, dstAt, Act.put, Act.eval]) (by simpa using h2.1) hBW (b := ⟨w3.heap.size, 0, none⟩) (c := 8) (by simp [relAct, dstAt, Act.put, Act.eval, h3, R3.len]) q3 (by simp [byteV, Value.oneCell']) (by simp [R3.len]; omega) ?_
          intro v' W' g1 g2
          refine ⟨?_, ?_⟩
          · rw [if_pos (.inr rfl)]
            exact g2.kept.mono (fun b hb e => h2.2 b e.symm)
          · rw [List.length_map, R3.len, ← List.map_append] at g1
            exact g1
        · simp [opYield_def, yieldUpon, relAct, dstAt, Act.put, Region.wanted, go_sem]
          simpa using haf
      · intro vals W hE hR
        have h5 := hR 5 (by show 5 < 6; omega) (fun i hi => by simp)
        have h5 : W.ownsRow (w.heap.size + 1) 5 1 (vals 5) (16 * k + 8 + 8) ((xs ++ s1 ++ s3).map byteV) := h5
        have hEB : Below (w.heap.size + 1) V3 W := hE.below hbV (fun b hb h => by
          rcases h with h | h
          · have := (HX0.out.lt b h).1
            omega
          · omega)
        have hN : SgnL ks0 seed leaf d (w.heap.size + 1) V (vals 5) (.int .i64 ((k : Int) + 1)) W := by
          refine ⟨k + 1, by omega, by go_num, ?_, HO.out.2.2.1.trans hEB⟩
          rw [HSS.out, show 16 * (k + 1) = 16 * k + 8 + 8 from by omega, ← List.append_assoc]
          exact h5
        have HN := Lib.hid hN
        clear hR hN h5 hEB HO HX0 HS0 HSS
        simp [relAct, dstAt, Act.put]
        generalize vals 0 = y0 at *
        generalize vals 1 = y1 at *
        generalize vals 2 = y2 at *
        generalize vals 3 = y3 at *
        generalize vals 4 = y4 at *
        generalize vals 5 = y5 at *
        go_wp2_with fail
        refine ⟨?_, by simp [intOf]; omega⟩
        first
          | exact HN.out
          | ((repeat apply Exists.intro); exact ⟨HN.out, rfl⟩)
    · have hk32 : k = 32 := by omega
      subst hk32
      have HX := Lib.hid (And.intro hown hbel)
      clear hown hbel
      go_wp2_with fail
      go_ret
      have h2 := ownsRow_mono' HX.out.1 (Nat.le_succ _)
      have h3 := HV.out.1.trans (HX.out.2.mono (Nat.le_succ _))
      rw [← HDD.out] at h2
      clear HX HV
      refine ⟨_, rfl, ?_, h3⟩
      generalize sgn ks0 seed leaf (dig ks0 msg) 32 = y at *
      rw [show 512 = 16 * 32 from rfl]
      exact h2
end W
end Go.Proofs.YthogembgndkmpaaGreatDoor

/- The plain law of a signature: what Open makes of Sign is the public value; the way up a tree with the sisters ends at its root. -/
namespace Go.Proofs.YthogembgndkmpaaGreatDoor
open Go.RowKit
namespace W
theorem sgn_split (ks : List UInt32) (seed : List UInt8) (leaf : Nat) (d : UInt32) : ∀ n i, i < n → ∃ r, sgn ks seed leaf d n = sgn ks seed leaf d i ++ (sg16 ks seed leaf d i ++ r)
  | 0, i, h => absurd h (Nat.not_lt_zero _)
  | n + 1, i, h => by
    rcases Nat.lt_or_eq_of_le (Nat.le_of_lt_succ h) with h | h
    · obtain ⟨r, hr⟩ := sgn_split ks seed leaf d n i h
      exact ⟨r ++ sg16 ks seed leaf d n, by rw [sgn_succ, hr, List.append_assoc, List.append_assoc]⟩
    · subst h
      exact ⟨[], by rw [sgn_succ, List.append_nil]⟩
theorem cell_sgn (ks : List UInt32) (seed : List UInt8) (leaf : Nat) (d : UInt32) (i : Nat) (hi : i < 32) : cell16 ks d (sgn ks seed leaf d 32) i = lockAt ks seed leaf (2 * i) ++ lockAt ks seed leaf (2 * i + 1) := by
  obtain ⟨r, hr⟩ := sgn_split ks seed leaf d 32 i hi
  have hl := sgn_len ks seed leaf d i
  have h1 : ((sgn ks seed leaf d 32).drop (16 * i)).take 8 = secr ks seed leaf (UInt8.ofNat i) (UInt8.ofNat (bitN d i)) := by
    rw [hr, ← hl, List.drop_left]
    unfold sg16
    rw [List.append_assoc]
    exact List.take_left' (short_len _ _ _)
  have h2 : ((sgn ks seed leaf d 32).drop (16 * i + 8)).take 8 = short ks 2 [secr ks seed leaf (UInt8.ofNat i) (UInt8.ofNat (1 - bitN d i))] := by
    rw [← List.drop_drop, hr, ← hl, List.drop_left]
    unfold sg16
    have e8 : (secr ks seed leaf (UInt8.ofNat i) (UInt8.ofNat (bitN d i))).length = 8 := short_len _ _ _
    rw [List.append_assoc, List.drop_left' e8]
    exact List.take_left' (short_len _ _ _)
  have hb : bitN d i = 0 ∨ bitN d i = 1 := by unfold bitN; omega
  unfold cell16 lockAt
  rw [h1, h2, show 2 * i / 2 = i from by omega, show 2 * i % 2 = 0 from by omega, show (2 * i + 1) / 2 = i from by omega, show (2 * i + 1) % 2 = 1 from by omega]
  rcases hb with hb | hb
  · rw [if_pos hb, hb]
  · rw [if_neg (by omega), hb]
theorem locks_sgn (ks : List UInt32) (seed : List UInt8) (leaf : Nat) (d : UInt32) : ∀ k, k ≤ 32 → locks ks d (sgn ks seed leaf d 32) k = locksR ks seed leaf (2 * k)
  | 0, _ => rfl
  | k + 1, h => by
    rw [locks_succ, locks_sgn ks seed leaf d k (by omega), cell_sgn ks seed leaf d k (by omega), show 2 * (k + 1) = 2 * k + 1 + 1 from by omega, locksR_succ, locksR_succ, List.append_assoc]
/-- what Open makes of Sign -/
theorem open_sign (ks : List UInt32) (seed : List UInt8) (leaf : Nat) (msg : List UInt8) : opn ks msg (sgn ks seed leaf (dig ks msg) 32) = pubR ks seed leaf := by
  unfold opn pubR
  rw [locks_sgn ks seed leaf _ 32 (Nat.le_refl _)]
/-- a node of the tree: level, place -/
def node (ks : List UInt32) (seed : List UInt8) : Nat → Nat → List UInt8
  | 0, i => pubR ks seed i
  | j + 1, i => short ks 4 [node ks seed j (2 * i), node ks seed j (2 * i + 1)]
theorem node_len (ks : List UInt32) (seed : List UInt8) : ∀ j i, (node ks seed j i).length = 8
  | 0, _ => short_len _ _ _
  | _ + 1, _ => short_len _ _ _
def sib (i : Nat) : Nat := if i % 2 = 0 then i + 1 else i - 1
/-- the sisters on the way up -/
def sist (ks : List UInt32) (seed : List UInt8) : Nat → Nat → Nat → List UInt8
  | 0, _, _ => []
  | n + 1, j, i => node ks seed j (sib i) ++ sist ks seed n (j + 1) (i / 2)
theorem sist_len (ks : List UInt32) (seed : List UInt8) : ∀ n j i, (sist ks seed n j i).length = 8 * n
  | 0, _, _ => rfl
  | n + 1, j, i => by
    show (node ks seed j (sib i) ++ sist ks seed n (j + 1) (i / 2)).length = _
    rw [List.length_append, node_len, sist_len ks seed n]
    omega
theorem climb_sist (ks : List UInt32) (seed : List UInt8) : ∀ n j i, climb ks n i (node ks seed j i) (sist ks seed n j i) = node ks seed (j + n) (i / 2 ^ n)
  | 0, j, i => by simp [climb]
  | n + 1, j, i => by
    have hs : sist ks seed (n + 1) j i = node ks seed j (sib i) ++ sist ks seed n (j + 1) (i / 2) := rfl
    have h1 : (sist ks seed (n + 1) j i).take 8 = node ks seed j (sib i) := by rw [hs]; exact List.take_left' (node_len _ _ _ _)
    have h2 : (sist ks seed (n + 1) j i).drop 8 = sist ks seed n (j + 1) (i / 2) := by rw [hs]; exact List.drop_left' (node_len _ _ _ _)
    have h3 : (if i % 2 = 0 then short ks 4 [node ks seed j i, node ks seed j (sib i)] else short ks 4 [node ks seed j (sib i), node ks seed j i]) = node ks seed (j + 1) (i / 2) := by
      show _ = short ks 4 [node ks seed j (2 * (i / 2)), node ks seed j (2 * (i / 2) + 1)]
      unfold sib
      by_cases h : i % 2 = 0
      · rw [if_pos h, if_pos h, show 2 * (i / 2) = i from by omega]
      · rw [if_neg h, if_neg h, show i - 1 = 2 * (i / 2) from by omega, show 2 * (i / 2) + 1 = i from by omega]
    show climb ks n (i / 2) (if i % 2 = 0 then short ks 4 [node ks seed j i, (sist ks seed (n + 1) j i).take 8] else short ks 4 [(sist ks seed (n + 1) j i).take 8, node ks seed j i]) ((sist ks seed (n + 1) j i).drop 8) = _
    rw [h1, h2, h3, climb_sist ks seed n (j + 1) (i / 2), show j + 1 + n = j + (n + 1) from by omega, Nat.div_div_eq_div_mul, Nat.pow_succ, Nat.mul_comm (2 ^ n) 2]
/-- a true signature is verified -/
theorem ver_true (ks : List UInt32) (seed : List UInt8) (h leaf : Nat) (hl : leaf / 2 ^ h = 0) (l4 : leaf < 4294967296) (msg sig : List UInt8)
    (hs : sig = Nm.be4 leaf ++ (sgn ks seed leaf (dig ks msg) 32 ++ sist ks seed h 0 leaf)) (hw : (word sig 0).toNat = leaf) : verT ks (node ks seed h 0) h msg sig = true := by
  have hsl := sgn_len ks seed leaf (dig ks msg) 32
  have h4 : (Nm.be4 leaf).length = 4 := by simp [Nm.be4]
  have e1 : (sig.drop 4).take 512 = sgn ks seed leaf (dig ks msg) 32 := by
    rw [hs, List.drop_left' h4]
    exact List.take_left' hsl
  have e2 : sig.drop 516 = sist ks seed h 0 leaf := by
    rw [show 516 = 4 + 512 from rfl, ← List.drop_drop, hs, List.drop_left' h4]
    exact List.drop_left' hsl
  unfold verT
  rw [hw, e1, e2, open_sign, hl]
  have := climb_sist ks seed h 0 leaf
  rw [hl, Nat.zero_add] at this
  rw [show pubR ks seed leaf = node ks seed 0 leaf from rfl, this]
  simp
end W
end Go.Proofs.YthogembgndkmpaaGreatDoor
