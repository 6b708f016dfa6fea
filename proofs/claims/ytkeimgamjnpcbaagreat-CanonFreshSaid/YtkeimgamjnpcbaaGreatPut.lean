/-
  Contracts of package rdata: put, SigBytes.
-/
import Derived.Test.YtkeimgamjnpcbaaGreatRel2
import Derived.Test.YtkeimgamjnpcbaaGreatBlob
import Derived.Test.YtkeimgamjnpcbaaGreatName2
import Derived.LoopN
namespace Go.Proofs.YtkeimgamjnpcbaaGreat
open Go.RowKit
set_option linter.unusedVariables false
namespace Nm
/-- append of bytes that lie somewhere to a row of the call's own, in a region that draws -/
theorem yield_bytes {ops : Array Oper} {o : Oper} {a : Act} {W : World} {R : Value → World → Prop} (hgd : o.guard = none) (sl x : Operand) {t : TypeId} (ht : Tryz.prog.underlying t = some (.slice 5))
    (ho : o.op = .call { callee := .builtin .append, args := #[sl, x], argTypes := #[t, t] }) {B : Nat} {v : Value} {n : Nat} {xs us : List Value} (hs : a.eval sl = v) (hown : W.ownsRow B 5 1 v n xs) (hB : B ≤ W.heap.size)
    {A : Option Addr} {c : Nat} (hx : a.eval x = .slice A us.length c) (hcs : Cs W A us) (h1 : ∀ u ∈ us, u.oneCell' = true) (hn : n + us.length ≤ 1000000000)
    (h : ∀ v' W', W'.ownsRow B 5 1 v' (n + us.length) (xs ++ us) → Below B W W' → R v' W') : opYield Tryz.prog ops o a W R := by
  obtain ⟨i0, hi, hz0, hz1, hz2⟩ := info_parts info_u8
  have hw : Region.wanted o (yielded ops a.tmps) = true := by simp [Region.wanted, hgd]
  rw [opYield_def, if_pos hw]
  cases A with
  | none =>
    have hsn : us = [] := hcs.none_nil
    subst hsn
    have hr := run_nothing (P := Tryz.prog) (ty := o.type) ht hi hown c
    unfold execOp
    simp only [ho, resolve, invoke, builtin, Sem.run_bind, Sem.run_pure, Result.andThen_ok, List.map_toArray, List.map_cons, List.map_nil, hs, hx, List.length_nil, hr]
    exact h v W (by simpa using hown) (Below.refl _ _)
  | some b =>
    obtain ⟨v', W', hr, h2, h3, _⟩ := run_append_own (P := Tryz.prog) W B t o.type 5 i0 _ 1 1 ht hi hz0 hz1 hz2 rfl (by decide) v n xs hown b us.length c us (by simp) hcs.cells h1 (by unfold maxLen; omega) (by omega) hB
    unfold execOp
    simp only [ho, resolve, invoke, builtin, Sem.run_bind, Sem.run_pure, Result.andThen_ok, List.map_toArray, List.map_cons, List.map_nil, hs, hx, hr]
    exact h v' W' h2 ((Below.refl _ _).grown h3 hB (fun k hk => (hown.lt k hk).1))
/-- a number's bytes, the highest first -/
def be2 (n : Nat) : Lab := [UInt8.ofNat (n / 256), UInt8.ofNat n]
def be4 (n : Nat) : Lab := [UInt8.ofNat (n / 16777216), UInt8.ofNat (n / 65536), UInt8.ofNat (n / 256), UInt8.ofNat n]
theorem byteV_mod (n : Nat) : byteV (UInt8.ofNat n) = .int .u8 ((n : Int) % 256) := by
  unfold byteV
  rw [UInt8.toNat_ofNat']
  congr 1
set_option maxRecDepth 100000 in
set_option maxHeartbeats 4000000 in
theorem put2 (B : Nat) (v : Value) (m : Nat) (xs : Lab) (n : Nat) (w : World) (hown : w.ownsRow B 5 1 v m (xs.map byteV)) (hB : B ≤ w.heap.size) (hm : m ≤ 100000000) (hn : n < 4294967296) :
    Calls Tryz.prog 96 #[v, .int .u32 n, .int .i64 2] w fun e w' => ∃ v', e = .returned v' ∧ w'.ownsRow B 5 1 v' (m + 2) ((xs ++ be2 n).map byteV) ∧ Moved v w v' w' := by
  obtain ⟨i0, hi, hz0, hz1, hz2⟩ := info_parts info_u8
  have tok1 : True := trivial
  have tok2 : True := trivial
  go_enter Tryz.func96, Tryz.ntmps96
  go_wp2_with fail
  refine wp_loop_rounds 3 ?_
  rw [rounds_succ]
  go_wp2_with (first | (at_builtin; have _t := tok1; refine wpList_push3 hown hB [.int .u8 ((n : Int) / 256 % 256)] rfl (by simp [Value.oneCell']) hi hz0 hz1 hz2 rfl (by decide) rfl (.tmp 14) _ 31 Tryz.underlying31 rfl rfl rfl (by unfold maxLen; omega) (by omega) ?_; intro v1 w1 hown1 hbw1; clear tok1; have hbs1 := hbw1.kept.size))
  rw [rounds_succ]
  have hB1 := Nat.le_trans hB hbs1
  go_wp2_with (first | (at_builtin; have _t := tok2; refine wpList_push3 hown1 hB1 [.int .u8 ((n : Int) % 256)] rfl (by simp [Value.oneCell']) hi hz0 hz1 hz2 rfl (by decide) rfl (.tmp 14) _ 31 Tryz.underlying31 rfl rfl rfl (by unfold maxLen; omega) (by omega) ?_; intro v2 w2 hown2 hbw2; clear tok2; have hbs2 := Nat.le_trans hbs1 hbw2.kept.size))
  rw [rounds_succ]
  go_wp2_with fail
  go_ret
  refine ⟨_, rfl, ?_, hbw1.trans hbw2⟩
  have e1 := byteV_mod (n / 256)
  have e2 := byteV_mod n
  rw [show ((n / 256 : Nat) : Int) = (n : Int) / 256 from by omega] at e1
  rw [List.map_append]
  show w2.ownsRow B 5 1 v2 (m + 1 + 1) (xs.map byteV ++ [byteV (UInt8.ofNat (n / 256)), byteV (UInt8.ofNat n)])
  rw [e1, e2, show [Value.int .u8 ((n : Int) / 256 % 256), Value.int .u8 ((n : Int) % 256)] = [Value.int .u8 ((n : Int) / 256 % 256)] ++ [Value.int .u8 ((n : Int) % 256)] from rfl, ← List.append_assoc]
  exact hown2
set_option maxRecDepth 100000 in
set_option maxHeartbeats 4000000 in
theorem put4 (B : Nat) (v : Value) (m : Nat) (xs : Lab) (n : Nat) (w : World) (hown : w.ownsRow B 5 1 v m (xs.map byteV)) (hB : B ≤ w.heap.size) (hm : m ≤ 100000000) (hn : n < 4294967296) :
    Calls Tryz.prog 96 #[v, .int .u32 n, .int .i64 4] w fun e w' => ∃ v', e = .returned v' ∧ w'.ownsRow B 5 1 v' (m + 4) ((xs ++ be4 n).map byteV) ∧ Moved v w v' w' := by
  obtain ⟨i0, hi, hz0, hz1, hz2⟩ := info_parts info_u8
  have tok1 : True := trivial
  have tok2 : True := trivial
  have tok3 : True := trivial
  have tok4 : True := trivial
  go_enter Tryz.func96, Tryz.ntmps96
  go_wp2_with fail
  refine wp_loop_rounds 5 ?_
  rw [rounds_succ]
  go_wp2_with (first | (at_builtin; have _t := tok1; refine wpList_push3 hown hB [.int .u8 ((n : Int) / 16777216)] rfl (by simp [Value.oneCell']) hi hz0 hz1 hz2 rfl (by decide) rfl (.tmp 14) _ 31 Tryz.underlying31 rfl rfl rfl (by unfold maxLen; omega) (by omega) ?_; intro v1 w1 hown1 hbw1; clear tok1; have hbs1 := hbw1.kept.size))
  have hB1 := Nat.le_trans hB hbs1
  rw [rounds_succ]
  go_wp2_with (first | (at_builtin; have _t := tok2; refine wpList_push3 hown1 hB1 [.int .u8 ((n : Int) / 65536 % 256)] rfl (by simp [Value.oneCell']) hi hz0 hz1 hz2 rfl (by decide) rfl (.tmp 14) _ 31 Tryz.underlying31 rfl rfl rfl (by unfold maxLen; omega) (by omega) ?_; intro v2 w2 hown2 hbw2; clear tok2; have hbs2 := Nat.le_trans hbs1 hbw2.kept.size))
  have hB2 := Nat.le_trans hB hbs2
  rw [rounds_succ]
  go_wp2_with (first | (at_builtin; have _t := tok3; refine wpList_push3 hown2 hB2 [.int .u8 ((n : Int) / 256 % 256)] rfl (by simp [Value.oneCell']) hi hz0 hz1 hz2 rfl (by decide) rfl (.tmp 14) _ 31 Tryz.underlying31 rfl rfl rfl (by unfold maxLen; omega) (by omega) ?_; intro v3 w3 hown3 hbw3; clear tok3; have hbs3 := Nat.le_trans hbs2 hbw3.kept.size))
  have hB3 := Nat.le_trans hB hbs3
  rw [rounds_succ]
  go_wp2_with (first | (at_builtin; have _t := tok4; refine wpList_push3 hown3 hB3 [.int .u8 ((n : Int) % 256)] rfl (by simp [Value.oneCell']) hi hz0 hz1 hz2 rfl (by decide) rfl (.tmp 14) _ 31 Tryz.underlying31 rfl rfl rfl (by unfold maxLen; omega) (by omega) ?_; intro v4 w4 hown4 hbw4; clear tok4; have hbs4 := Nat.le_trans hbs3 hbw4.kept.size))
  have hB4 := Nat.le_trans hB hbs4
  rw [rounds_succ]
  go_wp2_with fail
  go_ret
  refine ⟨_, rfl, ?_, ((hbw1.trans hbw2).trans hbw3).trans hbw4⟩
  have e1 := byteV_mod (n / 16777216)
  have e2 := byteV_mod (n / 65536)
  have e3 := byteV_mod (n / 256)
  have e4 := byteV_mod n
  rw [show ((n / 16777216 : Nat) : Int) % 256 = (n : Int) / 16777216 from by omega] at e1
  rw [show ((n / 65536 : Nat) : Int) = (n : Int) / 65536 from by omega] at e2
  rw [show ((n / 256 : Nat) : Int) = (n : Int) / 256 from by omega] at e3
  rw [List.map_append]
  show w4.ownsRow B 5 1 v4 (m + 1 + 1 + 1 + 1) (xs.map byteV ++ [byteV (UInt8.ofNat (n / 16777216)), byteV (UInt8.ofNat (n / 65536)), byteV (UInt8.ofNat (n / 256)), byteV (UInt8.ofNat n)])
  rw [e1, e2, e3, e4]
  simpa [List.append_assoc] using hown4
end Nm
end Go.Proofs.YtkeimgamjnpcbaaGreat
