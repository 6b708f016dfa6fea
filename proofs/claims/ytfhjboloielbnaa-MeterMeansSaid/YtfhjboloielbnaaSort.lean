/-
  The sort of floats by meter.Order: slices.SortFunc's contract in this claim's words.
-/
import Derived.Test.YtfhjboloielbnaaShelf
import Derived.Test.YtfhjboloielbnaaNN
namespace Go.Proofs.Ytfhjboloielbnaa
open Go.RowKit Go.Shelf Go.Lib Go.Sort
set_option linter.unusedVariables false
namespace Meter
open Flt

def cfN (x y : NN) : Int := ordI x.n y.n
def sortN (xs : List NN) : List NN := xs.mergeSort fun x y => !(ltOf cfN) y x
theorem cmp3_neg (a b : Int) : cmp3 a b < 0 ↔ a < b := by unfold cmp3; (repeat' split) <;> omega
theorem ltN (x y : NN) : ltOf cfN x y = decide (okey x.n < okey y.n) := by
  unfold ltOf cfN ordI
  rw [decide_eq_decide]
  exact cmp3_neg _ _
theorem swoN : SWO (ltOf cfN) where
  irrefl x := by rw [ltN]; simp
  trans x y z h1 h2 := by rw [ltN] at *; simp at *; omega
  ntrans x y z h1 h2 := by rw [ltN] at *; simp at *; omega
theorem totN (x y : NN) (h1 : ltOf cfN x y = false) (h2 : ltOf cfN y x = false) : x = y := by
  rw [ltN] at h1 h2
  simp at h1 h2
  exact okeyN (by omega)

theorem cmpN (blk off size : Nat) (w : World) : CmpReads Try.prog 11 #[] encN cfN blk off size w := by
  intro m os dk hdk x y
  have h := Order x.n y.n x.lt y.lt (sortWorld encN w blk off m dk os)
  exact h.mono fun e w' ⟨h1, h2⟩ => ⟨h1, 0, h2.symm⟩

theorem putCells_own {d : Array NN} {cur : Array Value} (h : d.size ≤ cur.size) : (putCells encN 0 d cur).size = cur.size ∧ (putCells encN 0 d cur).toList.take d.size = d.toList.map encN := by
  constructor
  · simp [putCells]
  · apply List.ext_getElem?
    intro j
    rw [List.getElem?_take]
    by_cases hj : j < d.size
    · rw [if_pos hj]
      have hc : j < cur.size := by omega
      simp [putCells, hj, hc]
    · rw [if_neg hj]
      simp [hj]

theorem sort_own {w : World} {B g n cap : Nat} {xs : List NN} (h : w.ownsRow B 25 1 (.slice (some ⟨g, 0, none⟩) n cap) n (xs.map encN)) (hn : n ≤ 1000000) :
    Calls Try.prog 38 #[.slice (some ⟨g, 0, none⟩) n cap, .func (.func 11) #[] #[]] w fun e w' =>
      e = .returned (.tuple #[]) ∧ w'.ownsRow B 25 1 (.slice (some ⟨g, 0, none⟩) n cap) n ((sortN xs).map encN) ∧ w.grownBy w' (some g) := by
  have hlen : xs.length = n := by have := h.1; simpa using this
  have hg : g < w.heap.size := (h.lt g rfl).2
  have eg : ∀ args w, (callFunc 11 args).run Try.prog w = .ok (.enter 11 args) w := enters_of Try.func11 (by kernel_rfl) rfl
  have hH : Holds encN w g 0 xs.toArray := by
    intro j hj
    have hj' : j < n := by simpa [hlen] using hj
    rw [Nat.zero_add]
    refine ⟨?_, h.frozenAt j⟩
    rw [h.cellAt j (by omega)]
    have hjx : j < xs.length := by omega
    simp [hjx]
  have hcon := Any.slices_SortFunc_total Try.sortL encN (fun _ => rfl) cfN swoN 11 #[] g 0 cap xs.toArray w eg (cmpN g 0 xs.toArray.size w).lays hH hg (by simp; omega) totN
  rw [show xs.toArray.size = n from by simpa using hlen] at hcon
  change Calls Try.prog 38 _ _ _ at hcon
  refine hcon.mono fun e w' ⟨he, m, os, hw⟩ => ⟨he, ?_⟩
  have hs : (sortN xs).length = n := by unfold sortN; rw [List.length_mergeSort]; exact hlen
  have hw' : w' = grow (putRow encN (Sort.ahead w m) g 0 (sortN xs).toArray) os := hw
  obtain ⟨hl, h2⟩ := h
  rcases h2 with ⟨h0, _⟩ | ⟨g', cap', cur, hv, hB, hh, hnc, hcap, hsz, htake⟩
  · cases h0
  · cases hv
    have hd : (sortN xs).toArray.size ≤ cur.size := by simp; omega
    obtain ⟨p1, p2⟩ := putCells_own hd
    have hblk : w'.heap[g]? = some (.cells (putCells encN 0 (sortN xs).toArray cur) 25 (0, 0)) := by
      rw [hw', heap_grow_old _ _ (by show g < (w.heap.modify g _).size; simpa using hg)]
      show (w.heap.modify g _)[g]? = _
      rw [Array.getElem?_modify, if_pos rfl, hh]
      rfl
    refine ⟨⟨by simpa using hs, .inr ⟨g, cap, _, rfl, hB, hblk, hnc, hcap, by rw [p1]; exact hsz, ?_⟩⟩, ?_⟩
    · rw [Nat.mul_one]
      have : (sortN xs).toArray.size = n := by simpa using hs
      rw [this] at p2
      simpa using p2
    · rw [hw']
      refine ⟨rfl, rfl, rfl, by rw [size_grow]; show w.heap.size ≤ (w.heap.modify g _).size + _; simp, fun k hk hne => ?_⟩
      rw [heap_grow_old _ _ (by show k < (w.heap.modify g _).size; simpa using hk)]
      show (w.heap.modify g _)[k]? = _
      rw [Array.getElem?_modify, if_neg (fun e => hne (by rw [e]))]

end Meter
end Go.Proofs.Ytfhjboloielbnaa
