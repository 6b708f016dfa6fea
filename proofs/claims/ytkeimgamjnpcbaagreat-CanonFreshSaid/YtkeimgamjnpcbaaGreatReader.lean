/-
  Contracts of package rdata: must, a reader's steps.
-/
import Derived.Test.YtkeimgamjnpcbaaGreatOpen2
import Derived.Test.YtkeimgamjnpcbaaGreatBlob
import Derived.Test.YtkeimgamjnpcbaaGreatQuiet
import Derived.Test.YtkeimgamjnpcbaaGreatRdMath
import Derived.StillTailTactics
import Derived.IntWalk
namespace Go.Proofs.YtkeimgamjnpcbaaGreat
open Go.RowKit
set_option linter.unusedVariables false
namespace Nm
theorem mixed : Tryz.prog.follows .mixedOrders = true := by kernel_rfl
def mustP : List PanicEntry := [{ v := .iface 198 (.agg #[]), recovered := false }]
theorem must_yes (w : World) : Calls Tryz.prog 144 #[.bool true] w fun r w' => r = .returned (.tuple #[]) ∧ w = w' := by
  go_enter Tryz.func144, Tryz.ntmps144
  go_wp2_with fail
  go_end0
  exact ⟨rfl, rfl⟩
theorem must_no (w : World) : Calls Tryz.prog 144 #[.bool false] w fun r w' => r = .panicked mustP ∧ w = w' := by
  go_enter Tryz.func144, Tryz.ntmps144
  go_wp2_with fail
  exact ⟨rfl, rfl, rfl⟩
/-- a reader: bytes, how far they were read -/
structure Rdr (w : World) (r : Nat) (A : Option Addr) (l : Lab) (cap k : Nat) : Prop where
  c0 : w.cell? ⟨r, 0, none⟩ = some (.slice A l.length cap)
  c1 : w.cell? ⟨r, 1, none⟩ = some (.int .i64 k)
  f1 : w.frozen? ⟨r, 1, none⟩ = false
  hr : r < w.heap.size
  cs : Cs w A (l.map byteV)
  ne : ∀ a, A = some a → l.map byteV ≠ [] → a.block ≠ r
  len : l.length ≤ 100000
  cap1 : l.length ≤ cap
  cap2 : cap ≤ maxLen
  le : k ≤ l.length
theorem Rdr.kept {S : Nat → Prop} {w w' : World} {r : Nat} {A : Option Addr} {l : Lab} {cap k : Nat} (h : Rdr w r A l cap k) (hk : Kept S w w') (hr : ¬ S r) (hA : ∀ a, A = some a → l.map byteV ≠ [] → ¬ S a.block) : Rdr w' r A l cap k :=
  ⟨(hk.cell h.hr hr).trans h.c0, (hk.cell h.hr hr).trans h.c1, (hk.frozen h.hr hr).trans h.f1, Nat.lt_of_lt_of_le h.hr hk.size, Kept.cs h.cs hk hA, h.ne, h.len, h.cap1, h.cap2, h.le⟩
theorem Rdr.ext {w w' : World} {r : Nat} {A : Option Addr} {l : Lab} {cap k : Nat} (h : Rdr w r A l cap k) (hk : Below w.heap.size w w') : Rdr w' r A l cap k := h.kept (Kept.of_ext hk) (fun h => h) (fun _ _ _ h => h)
theorem Rdr.move {w : World} {r : Nat} {A : Option Addr} {l : Lab} {cap k : Nat} (h : Rdr w r A l cap k) {k' : Nat} (hk : k' ≤ l.length) : Rdr (w.setCell ⟨r, 1, none⟩ (.int .i64 k')) r A l cap k' := by
  have hkp : Kept (fun b => b = r) w (w.setCell ⟨r, 1, none⟩ (.int .i64 k')) := Kept.setCell (S := fun b => b = r) (Kept.refl _ _) (p := ⟨r, 1, none⟩) (fun _ => rfl) _
  refine ⟨?_, setc_same h.c1, setc_frozen.trans h.f1, by simpa [World.setCell] using h.hr, Kept.cs h.cs hkp h.ne, h.ne, h.len, h.cap1, h.cap2, hk⟩
  rw [World.cell?_setCell_other _ _ _ _ (by simp)]
  exact h.c0
theorem Rdr.drew {w : World} {r : Nat} {A : Option Addr} {l : Lab} {cap k : Nat} (h : Rdr w r A l cap k) : Rdr w.drew r A l cap k := h.kept ((Kept.refl (fun _ => False) _).drew) (fun h => h) (fun _ _ _ h => h)
/-- what take hands over: a piece -/
def piece (A : Option Addr) (cap k : Nat) : Option Addr := if cap = k then A else A.map (fun x => x.add k)
theorem piece_block {A : Option Addr} {cap k : Nat} {a : Addr} (h : piece A cap k = some a) : ∃ b, A = some b ∧ b.block = a.block := by
  unfold piece at h
  split at h
  · exact ⟨a, h, rfl⟩
  · cases A with
    | none => cases h
    | some b => simp at h; exact ⟨b, rfl, by rw [← h]; obtain ⟨bl, off, sp⟩ := b; simp only [Addr.add]; split <;> rfl⟩
set_option maxRecDepth 100000 in
set_option maxHeartbeats 1000000 in
theorem take_yes (r : Nat) (A : Option Addr) (l : Lab) (cap k n : Nat) (w : World) (h : Rdr w r A l cap k) (hn : k + n ≤ l.length) :
    Calls Tryz.prog 149 #[.pointer (some ⟨r, 0, none⟩), .int .i64 n] w fun e w' =>
      e = .returned (.slice (piece A cap k) n (cap - k)) ∧ Rdr w' r A l cap (k + n) ∧ Kept (fun b => b = r) w w' := by
  have c0 := h.c0
  have c1 := h.c1
  have f1 := h.f1
  have hlen := h.len
  have hcap := h.cap1
  have hcap2 := h.cap2
  unfold maxLen at hcap2
  have hk := h.le
  have hwr : IntKind.i64.wrap ((l.length : Int) - k) = (l.length : Int) - k := IntWalk.i64_in _ (by omega)
  have hle : decide ((n : Int) ≤ (l.length : Int) - k) = true := by simp; omega
  have hks : ((k : Int) + n - n) = k := by omega
  have hmv := h.move (k' := k + n) hn
  have HM := Lib.hid hmv
  have H := Lib.hid h
  clear h hmv
  go_enter Tryz.func149, Tryz.ntmps149
  go_wp2_with fail
  go_still_tail 12, mixed
  go_wp2_with fail
  refine (must_yes _).mono ?_
  rintro e w' ⟨rfl, rfl⟩
  go_wp2_with fail
  have hM2 := HM.out
  have d0 := hM2.c0
  have d1 := hM2.c1
  have hks2 : IntKind.i64.wrap (((k + n : Nat) : Int) - n) = k := by rw [IntWalk.i64_in _ (by omega)]; omega
  clear hM2 c0 c1 f1 hwr hks
  rw [show ((k : Int) + n) = ((k + n : Nat) : Int) from by omega]
  generalize hw1 : w.setCell ⟨r, 1, none⟩ (.int .i64 ((k + n : Nat) : Int)) = w1 at *
  have hk1 : Kept (fun b => b = r) w w1 := by rw [← hw1]; exact Kept.setCell (S := fun b => b = r) (Kept.refl _ _) (p := ⟨r, 1, none⟩) (fun _ => rfl) _
  have HR : ∀ (B : Option Addr) (m c : Nat), B = piece A cap k → m = n → c = cap - k → (Ending.returned (.slice B m c) = Ending.returned (.slice (piece A cap k) n (cap - k)) ∧ Rdr w1.drew.drew r A l cap (k + n) ∧ Kept (fun b => b = r) w w1.drew.drew) := fun B m c h1 h2 h3 => by
    subst h1 h2 h3; exact ⟨rfl, HM.out.drew.drew, hk1.drew.drew⟩
  have HR2 := Lib.hid HR
  clear HR hw1
  unfold piece at HR2
  by_cases hck : cap = k
  · rw [if_pos hck] at HR2
    go_region
    go_wp2_with fail
    go_ret
    unfold piece
    rw [if_pos hck]
    exact HR2.out _ _ _ rfl (by omega) (by omega)
  · rw [if_neg hck] at HR2
    cases A with
    | none =>
      go_region
      go_wp2_with fail
      go_ret
      unfold piece
      rw [if_neg hck]
      exact HR2.out _ _ _ rfl (by omega) (by omega)
    | some a =>
      go_region
      go_wp2_with fail
      go_ret
      unfold piece
      rw [if_neg hck]
      exact HR2.out _ _ _ rfl (by omega) (by omega)
set_option maxRecDepth 100000 in
set_option maxHeartbeats 1000000 in
theorem take_no (r : Nat) (A : Option Addr) (l : Lab) (cap k n : Nat) (w : World) (h : Rdr w r A l cap k) (hn : ¬ k + n ≤ l.length) (hn2 : n ≤ 100000) :
    Calls Tryz.prog 149 #[.pointer (some ⟨r, 0, none⟩), .int .i64 n] w fun e w' =>
      e = .panicked mustP ∧ Kept (fun b => b = r) w w' := by
  have c0 := h.c0
  have c1 := h.c1
  have hlen := h.len
  have hk := h.le
  have hwr : IntKind.i64.wrap ((l.length : Int) - k) = (l.length : Int) - k := IntWalk.i64_in _ (by omega)
  have hle : decide ((n : Int) ≤ (l.length : Int) - k) = false := by simp; omega
  clear h
  go_enter Tryz.func149, Tryz.ntmps149
  go_wp2_with fail
  go_still_tail 12, mixed
  go_wp2_with fail
  refine (must_no _).mono ?_
  rintro e w' ⟨rfl, rfl⟩
  go_wp2_with fail
  exact ⟨rfl, rfl, (Kept.refl _ _).drew⟩
end Nm
end Go.Proofs.YtkeimgamjnpcbaaGreat
