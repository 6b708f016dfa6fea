/-
  Contracts of package bytes: Compare, Equal; the sort of one.
-/
import Derived.Test.YtkeimgamjnpcbaaGreatSame
import Derived.Test.YtkeimgamjnpcbaaGreatShelf
import Derived.Test.YtkeimgamjnpcbaaGreatBlob
import Derived.Lib.BytesEntry
import Derived.Shelf.SlSortCmp.NoneTotal
namespace Go.Proofs.YtkeimgamjnpcbaaGreat
open Go.RowKit
set_option linter.unusedVariables false
namespace Nm
theorem run_bytesOf {P : Program} (w : World) {A : Option Addr} {l : Lab} (c : Nat) (h : Cs w A (l.map byteV)) : (Extern.Bytes.bytesOf (.slice A l.length c)).run P w = .ok (strB l) w := by
  cases A with
  | none =>
    have : l = [] := by simpa using h.none_nil
    subst this
    rfl
  | some a =>
    have hl := Lib.run_loadBytesX (P := P) w (l.map fun c => (c.toNat : Int)) a .empty (fun j x hj => by
      refine h.cells j _ ?_
      rw [List.getElem?_map] at hj ⊢
      cases hlj : l[j]? with
      | none => rw [hlj] at hj; cases hj
      | some y => rw [hlj] at hj; simp at hj; subst hj; rfl)
    rw [List.length_map] at hl
    show (Extern.Bytes.loadBytes a l.length .empty).run P w = _
    rw [hl]
    congr 1
    apply ByteArray.ext
    simp [strB, Lib.bytesOf]
    conv => rhs; rw [← List.map_id l]
    refine List.map_congr_left fun x _ => ?_
    simp
theorem run_bcompare {P : Program} (w : World) {A B : Option Addr} {l m : Lab} (c d : Nat) (hA : Cs w A (l.map byteV)) (hB : Cs w B (m.map byteV)) :
    (Extern.BytealgCompare.compare #[.slice A l.length c, .slice B m.length d]).run P w = .ok (.int .i64 (Lib.compareBytes l m)) w := by
  change Sem.run P (do pure (goInt (Extern.BytealgCompare.cmp (← Extern.Bytes.bytesOf (.slice A l.length c)) (← Extern.Bytes.bytesOf (.slice B m.length d))))) w = _
  simp only [Sem.run_bind, run_bytesOf w c hA, run_bytesOf w d hB, Sem.run_pure, Result.andThen]
  rw [Lib.cmp_eq]
  simp [strB, goInt]
set_option maxHeartbeats 1000000 in
theorem BCompare (A B : Option Addr) (l m : Lab) (c d : Nat) (w : World) (hA : Cs w A (l.map byteV)) (hB : Cs w B (m.map byteV)) :
    Calls Tryz.prog 99 #[.slice A l.length c, .slice B m.length d] w fun e w' => e = .returned (.int .i64 (Lib.compareBytes l m)) ∧ w = w' := by
  have hx : (callFunc 133 #[.slice A l.length c, .slice B m.length d]).run Tryz.prog w = .ok (.value (.int .i64 (Lib.compareBytes l m))) w := by
    rw [run_callFunc_extern Tryz.func133 (by kernel_rfl) (by kernel_rfl) (by kernel_rfl) (e := Extern.BytealgCompare.compare) (by kernel_rfl), run_bcompare w c d hA hB]
    rfl
  go_enter Tryz.func99, Tryz.ntmps99
  go_wp2_with fail
  go_ret
  exact ⟨rfl, rfl⟩
theorem BEqual (A B : Option Addr) (l m : Lab) (c d : Nat) (w : World) (hA : Cs w A (l.map byteV)) (hB : Cs w B (m.map byteV)) :
    Calls Tryz.prog 101 #[.slice A l.length c, .slice B m.length d] w fun e w' => e = .returned (.bool (decide (l = m))) ∧ w = w' := by
  have h1 := run_str (P := Tryz.prog) w Tryz.underlying31 Tryz.underlying5 Tryz.underlying9 c hA
  have h2 := run_str (P := Tryz.prog) w Tryz.underlying31 Tryz.underlying5 Tryz.underlying9 d hB
  go_enter Tryz.func101, Tryz.ntmps101
  go_wp2_with fail
  go_ret
  exact ⟨ret_bool (by rw [Bool.eq_iff_iff]; simp), rfl⟩
theorem kept_sortWorld {α : Type} [Inhabited α] (enc : α → Value) (w : World) (g m : Nat) (dk : Array α) (os : Array Obj) : Kept (fun b => b = g) w (sortWorld enc w g 0 m dk os) := by
  refine ⟨rfl, rfl, rfl, ?_, fun k hk hn => ?_⟩
  · simp [sortWorld, Sort.grow, Sort.putRow, Sort.mapBlock, Sort.ahead]
  · have hne : g ≠ k := fun e => hn e.symm
    unfold sortWorld
    rw [Sort.heap_grow_old _ _ (by simpa [Sort.putRow, Sort.mapBlock, Sort.ahead] using hk)]
    simp [Sort.putRow, Sort.mapBlock, Sort.ahead, Array.getElem?_modify, hne]
theorem ent99 (args : Array Value) (w : World) : (callFunc 99 args).run Tryz.prog w = .ok (.enter 99 args) w := (enters_of Tryz.func99 (by kernel_rfl) rfl) args w
theorem SortB1 (g cap c : Nat) (A : Option Addr) (l : Lab) (w : World) (hcell : w.cell? ⟨g, 0, none⟩ = some (.slice A l.length c)) (hfr : w.frozen? ⟨g, 0, none⟩ = false) (hg : g < w.heap.size) (hcs : Cs w A (l.map byteV)) (hne : ∀ a, A = some a → l.map byteV ≠ [] → a.block ≠ g) :
    Calls Tryz.prog 98 #[.slice (some ⟨g, 0, none⟩) 1 cap, .func (.func 99) #[] #[]] w fun e w' => e = .returned (.tuple #[]) ∧ Kept (fun b => b = g) w w' ∧ w'.cell? ⟨g, 0, none⟩ = some (.slice A l.length c) := by
  have hH : Sort.Holds (fun _ : Unit => Value.slice A l.length c) w g 0 #[()] := by
    intro j hj
    have : j = 0 := by simpa using hj
    subst this
    exact ⟨hcell, hfr⟩
  refine (Any.slices_SortFunc_total Tryz.sortB (fun _ : Unit => Value.slice A l.length c) (fun _ => rfl) (fun _ _ => 0) ⟨fun _ => rfl, (fun _ _ _ h _ => by cases h), (fun _ _ _ _ _ => rfl)⟩ 99 #[] g 0 cap #[()] w ent99 ?_ hH hg (by decide) (fun _ _ _ _ => rfl)).mono ?_
  · intro m os dk hs x y
    have hk := kept_sortWorld (fun _ : Unit => Value.slice A l.length c) w g m dk os
    have hc2 : Cs (sortWorld (fun _ : Unit => Value.slice A l.length c) w g 0 m dk os) A (l.map byteV) := Kept.cs hcs hk hne
    refine (BCompare A A l l c c _ hc2 hc2).mono fun e w' h => ?_
    obtain ⟨h1, h2⟩ := h
    refine ⟨by rw [h1, (cb_zero l l).2 rfl], 0, #[], ?_⟩
    rw [Sort.grow_empty]
    exact h2.symm
  · intro e w' h
    obtain ⟨he, n, os, hw⟩ := h
    have hk := kept_sortWorld (fun _ : Unit => Value.slice A l.length c) w g n (([()] : List Unit).mergeSort fun x y => !(ltOf (fun _ _ : Unit => (0 : Int))) y x).toArray os
    refine ⟨he, by rw [hw]; exact hk, ?_⟩
    have hds : ((([()] : List Unit).mergeSort fun x y => !(ltOf (fun _ _ : Unit => (0 : Int))) y x).toArray).size = 1 := by simp
    have hH2 : Sort.Holds (fun _ : Unit => Value.slice A l.length c) (Sort.ahead w n) g 0 #[()] := hH
    have := Sort.cell?_putRow (fun _ : Unit => Value.slice A l.length c) (Sort.ahead w n) g 0 #[()] (([()] : List Unit).mergeSort fun x y => !(ltOf (fun _ _ : Unit => (0 : Int))) y x).toArray hH2 hds 0 (by rw [hds]; decide)
    rw [hw]
    unfold sortWorld
    rw [Sort.cell?_grow _ _ _ (by simpa [Sort.putRow, Sort.mapBlock, Sort.ahead] using hg)]
    exact this
end Nm
end Go.Proofs.YtkeimgamjnpcbaaGreat
