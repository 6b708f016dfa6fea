/-
  The walks of layer 10's laws, said of the arguments as they come.
-/
import Derived.Test.YtfhjboloielbnaaMKnown
namespace Go.Proofs.Ytfhjboloielbnaa
open Go.RowKit
set_option linter.unusedVariables false
theorem u64_nat {n : Int} (h : (Lit.int .u64 n).wf = true) : ∃ m : Nat, n = (m : Int) ∧ m < 18446744073709551616 := by
  simp [Lit.wf, IntKind.min, IntKind.max, IntKind.signed, IntKind.bits] at h
  exact ⟨n.toNat, by omega, by omega⟩
theorem u8_nat {n : Int} (h : (Lit.int .u8 n).wf = true) : ∃ m : Nat, n = (m : Int) ∧ m < 256 := by
  simp [Lit.wf, IntKind.min, IntKind.max, IntKind.signed, IntKind.bits] at h
  exact ⟨n.toNat, by omega, by omega⟩
theorem i16_in {n : Int} (h : (Lit.int .i16 n).wf = true) : -32768 ≤ n ∧ n ≤ 32767 := by
  simp [Lit.wf, IntKind.min, IntKind.max, IntKind.signed, IntKind.bits] at h
  omega
theorem ints_of_row {k : IntKind} {w : World} {a : Option Addr} {len cap : Nat} {zs : List Int}
    (h : (a = none ∧ len = 0 ∧ cap = 0 ∧ zs = []) ∨ ∃ x, a = some x ∧ len ≤ cap ∧ cap ≤ maxLen ∧ zs.length = cap ∧ (∀ i, i < zs.length → w.cell? (x.add i) = some (.int k (zs.getD i 0))) ∧ ∀ n ∈ zs, (Lit.int k n).wf = true) :
    ∃ l : List Int, l.length = len ∧ Cs w a (l.map (Value.int k)) ∧ ∀ n ∈ l, (Lit.int k n).wf = true := by
  rcases h with ⟨rfl, rfl, rfl, rfl⟩ | ⟨x, rfl, hl, hm, hz, hcell, hwz⟩
  · exact ⟨[], rfl, Cs.nil _ _, fun n h => by cases h⟩
  · refine ⟨zs.take len, by simp; omega, ?_, fun n hn => hwz n (List.mem_of_mem_take hn)⟩
    intro i u hu
    rw [List.getElem?_map, List.getElem?_take] at hu
    by_cases hi : i < len
    · rw [if_pos hi] at hu
      have hiz : i < zs.length := by omega
      rw [List.getElem?_eq_getElem hiz] at hu
      simp only [Option.map_some, Option.some.injEq] at hu
      have hc := hcell i hiz
      obtain ⟨b, off, spot⟩ := x
      have hspot : spot = none := by
        have h0 := hcell 0 (by omega)
        have := World.cell?_spot h0
        simpa [Addr.add] using this
      subst hspot
      refine ⟨b, off, rfl, ?_, ?_⟩
      · rw [add_plain] at hc
        exact World.block_lt_of_cell? w _ hc
      · rw [add_plain] at hc
        rw [hc, ← hu]
        simp [List.getD, hiz]
    · rw [if_neg hi] at hu; cases hu
namespace Meter
theorem words_of {l : List Int} (h : ∀ n ∈ l, (Lit.int .u64 n).wf = true) : ∃ l' : List Nat, l = l'.map (fun n : Nat => (n : Int)) ∧ ∀ x ∈ l', W64 x := by
  induction l with
  | nil => exact ⟨[], rfl, fun x h => by cases h⟩
  | cons a l ih =>
    obtain ⟨l', e, h2⟩ := ih (fun n hn => h n (List.mem_cons_of_mem _ hn))
    obtain ⟨m, e2, h3⟩ := u64_nat (h a (List.mem_cons_self ..))
    refine ⟨m :: l', by rw [List.map_cons, ← e, ← e2], ?_⟩
    intro x hx
    rcases List.mem_cons.1 hx with rfl | hx
    · exact h3
    · exact h2 x hx
theorem cs_words {w : World} {A : Option Addr} {l' : List Nat} (h : Cs w A ((l'.map (fun n : Nat => (n : Int))).map (Value.int .u64))) : Cs w A (l'.map word64) := by
  rw [List.map_map] at h; exact h
end Meter
end Go.Proofs.Ytfhjboloielbnaa
