/-
  Parameters that are names, sets: opened.
-/
import Derived.Test.YtkeimgamjnpcbaaGreatWFresh
import Derived.SliceStrings
import Derived.Deep.Slices
import Derived.ChangeSlices
namespace Go.Proofs.YtkeimgamjnpcbaaGreat
open Go.RowKit Go.ChangeShapes Go.WideShapes
set_option linter.unusedVariables false
section
variable {H : Type} {enc : TypeId × Value → H} {P : Program} {w : World} {base : Nat} {spare : Nat → Bool} {held : Bool}
theorem cs_of_add {a : Addr} {xs : List Value} (h : ∀ i u, xs[i]? = some u → w.cell? (a.add i) = some u) : Cs w (some a) xs := by
  intro i u hu
  have hc := h i u hu
  obtain ⟨b, off, spot⟩ := a
  have hlt := (List.getElem?_eq_some_iff.1 hu).1
  have hspot : spot = none := by
    have h0 := h 0 xs[0] (List.getElem?_eq_getElem (by omega))
    have := World.cell?_spot h0
    simpa [Addr.add] using this
  subst hspot
  refine ⟨b, off, rfl, ?_, ?_⟩
  · rw [add_plain] at hc
    exact World.block_lt_of_cell? w _ hc
  · rw [add_plain] at hc
    exact hc
theorem openName {t e : TypeId} {fuel : Nat} {cs : List Value} {x : DataW H × List MemPlace} (ht : P.underlying t = some (.slice e)) (he : P.underlying e = some .string) (hc : P.cellsOf e = 1)
    (h : DataW.trod enc P w base spare held fuel t cs = some x) :
    ∃ (A : Option Addr) (n : List Lab) (cap : Nat), cs = [.slice A n.length cap] ∧ Cs w A (n.map strV) ∧ n.length ≤ cap ∧ cap ≤ maxLen ∧ ∀ l ∈ n, l.length ≤ maxLen := by
  rcases open_strings ht he hc h with ⟨rfl, _⟩ | ⟨a, len, cap, ss, rfl, _, hl, hm, hz, _, hcell, hsz⟩
  · exact ⟨none, [], 0, rfl, Cs.nil _ _, Nat.le_refl _, by unfold maxLen; omega, (fun l h => by cases h)⟩
  · have hlen : len ≤ ss.length := by rw [hz]; split <;> omega
    refine ⟨some a, (ss.take len).map (fun s => s.data.toList), cap, ?_, ?_, ?_, hm, ?_⟩
    · simp [Nat.min_eq_left hlen]
    · refine cs_of_add ?_
      intro i u hu
      rw [List.getElem?_map, List.getElem?_map, List.getElem?_take] at hu
      by_cases hi : i < len
      · rw [if_pos hi, List.getElem?_eq_getElem (by omega)] at hu
        simp only [Option.map_some, Option.some.injEq] at hu
        rw [hcell i (by omega), ← hu]
        unfold strV
        rw [strB_of]
        simp [List.getD, List.getElem?_eq_getElem (show i < ss.length by omega)]
      · rw [if_neg hi] at hu; cases hu
    · simp [Nat.min_eq_left hlen]; exact hl
    · intro l hl2
      obtain ⟨s, hs, rfl⟩ := List.mem_map.1 hl2
      rw [← strB_size, strB_of]
      exact hsz s (List.mem_of_mem_take hs)
theorem openBytes {t e : TypeId} {fuel : Nat} {cs : List Value} {x : DataW H × List MemPlace} (ht : P.underlying t = some (.slice e)) (he : P.underlying e = some (.int .u8)) (hc : P.cellsOf e = 1)
    (h : DataW.trod enc P w base spare held fuel t cs = some x) : ∃ b : Blob, cs = [b.v] ∧ b.ok w ∧ b.l.length ≤ b.cap ∧ b.cap ≤ maxLen := by
  rcases open_ints ht he hc h with ⟨rfl, _⟩ | ⟨a, len, cap, zs, rfl, _, hl, hm, hz, _, hcell, hwz⟩
  · exact ⟨⟨none, [], 0⟩, rfl, Cs.nil _ _, Nat.le_refl _, by unfold maxLen; simp⟩
  · have hlen : len ≤ zs.length := by rw [hz]; split <;> omega
    refine ⟨⟨some a, (zs.take len).map (fun n => UInt8.ofNat n.toNat), cap⟩, ?_, ?_, ?_, hm⟩
    · simp [Blob.v, Nat.min_eq_left hlen]
    · refine cs_of_add ?_
      intro i u hu
      rw [List.getElem?_map, List.getElem?_map, List.getElem?_take] at hu
      by_cases hi : i < len
      · rw [if_pos hi, List.getElem?_eq_getElem (by omega)] at hu
        simp only [Option.map_some, Option.some.injEq] at hu
        have hb := bounds_u8 (hwz zs[i] (List.getElem_mem (by omega)))
        rw [hcell i (by omega), ← hu, Nm.byteV_mod]
        simp [List.getD, List.getElem?_eq_getElem (show i < zs.length by omega)]
        omega
      · rw [if_neg hi] at hu; cases hu
    · simp [Nat.min_eq_left hlen]; exact hl
theorem openBlobs {t e q : TypeId} {fuel : Nat} {cs : List Value} {x : DataW H × List MemPlace} (ht : P.underlying t = some (.slice e)) (hc : P.cellsOf e = 1) (he : P.underlying e = some (.slice q)) (hq : P.underlying q = some (.int .u8)) (hc2 : P.cellsOf q = 1)
    (h : DataW.trod enc P w base spare held fuel t cs = some x) : ∃ (A : Option Addr) (ds : List Blob) (cap : Nat), cs = [.slice A ds.length cap] ∧ Cs w A (ds.map Blob.v) ∧ Blobs w ds ∧ ds.length ≤ cap ∧ cap ≤ maxLen ∧ ∀ d ∈ ds, d.l.length ≤ d.cap ∧ d.cap ≤ maxLen := by
  rcases Deep.open_slice1 ht hc h with ⟨rfl, _⟩ | ⟨a, len, cap, m, n, V, D, Pl, rfl, _, hl, hm, hmm, _, hx⟩
  · exact ⟨none, [], 0, rfl, Cs.nil _ _, (fun b h => by cases h), Nat.le_refl _, by unfold maxLen; omega, (fun l h => by cases h)⟩
  · have hlen : len ≤ m := by rw [hmm]; split <;> omega
    have key : ∀ k, k ≤ len → ∃ ds : List Blob, ds.length = k ∧ (∀ i u, (ds.map Blob.v)[i]? = some u → w.cell? (a.add i) = some u) ∧ Blobs w ds ∧ ∀ d ∈ ds, d.l.length ≤ d.cap ∧ d.cap ≤ maxLen := by
      intro k
      induction k with
      | zero => intro _; exact ⟨[], rfl, (fun i u h => by simp at h), (fun b h => by cases h), (fun b h => by cases h)⟩
      | succ k ih =>
        intro hk
        obtain ⟨ds, h1, h2, h3, h4⟩ := ih (by omega)
        obtain ⟨b, hb1, hb2, hb3, hb4⟩ := openBytes he hq hc2 (hx k (by omega)).2
        refine ⟨ds ++ [b], by simp [h1], ?_, ?_, ?_⟩
        · intro i u hu
          rw [List.map_append, List.getElem?_append] at hu
          split at hu
          · exact h2 i u hu
          · rename_i hi
            simp at hi
            have hik : i = k := by
              have := (List.getElem?_eq_some_iff.1 hu).1
              simp at this
              omega
            subst hik
            simp [h1] at hu
            rw [(hx i (by omega)).1, ← hu]
            simp at hb1
            rw [hb1]
        · intro d hd
          rcases List.mem_append.1 hd with hd | hd
          · exact h3 d hd
          · simp at hd; subst hd; exact hb2
        · intro d hd
          rcases List.mem_append.1 hd with hd | hd
          · exact h4 d hd
          · simp at hd; subst hd; exact ⟨hb3, hb4⟩
    obtain ⟨ds, h1, h2, h3, h4⟩ := key len (Nat.le_refl _)
    subst h1
    exact ⟨some a, ds, cap, rfl, cs_of_add h2, h3, hl, hm, h4⟩
end
namespace Nm
set_option maxRecDepth 100000 in
set_option maxHeartbeats 4000000 in
theorem openSet {H : Type} {enc : TypeId × Value → H} {w : World} {base b0 : Nat} {spare : Nat → Bool} {held : Bool} {r : Reach} {v : Value} {d : DataW H} {ps : List MemPlace} (hv : Value.okWide Tryz.prog w r b0 28 v)
    (h : DataW.Trod enc Tryz.prog w base spare held 28 v d ps) :
    ∃ s : SetV, v = s.v ∧ s.ok w ∧ s.n.length ≤ s.cap ∧ s.cap ≤ maxLen ∧ (∀ l ∈ s.n, l.length ≤ maxLen) ∧ s.ds.length ≤ maxLen ∧ (∀ x ∈ s.ds, x.l.length ≤ x.cap ∧ x.cap ≤ maxLen) ∧ (Lit.int .u16 s.t).wf = true ∧ (Lit.int .u32 s.ttl).wf = true := by
  obtain ⟨cs, rfl, hcs⟩ := okWide_struct Tryz.underlying28 hv
  obtain ⟨fuel, hf⟩ := h
  obtain ⟨xs, n, _, hx, hl, hlen, hfs⟩ := DataW.trod_struct Tryz.underlying28 hf
  have hl4 : cs.toList.length = 4 := hl.trans (by kernel_rfl)
  obtain ⟨c0, c1, c2, c3, hc⟩ : ∃ c0 c1 c2 c3, cs = #[c0, c1, c2, c3] := by
    obtain ⟨l⟩ := cs
    match l, hl4 with
    | [c0, c1, c2, c3], _ => exact ⟨c0, c1, c2, c3, rfl⟩
  subst hc
  have e0 : Tryz.prog.cellsOf 23 = 1 := by kernel_rfl
  have e1 : Tryz.prog.cellsOf 24 = 1 := by kernel_rfl
  have e2 : Tryz.prog.cellsOf 25 = 1 := by kernel_rfl
  have e3 : Tryz.prog.cellsOf 26 = 1 := by kernel_rfl
  have e4 : Tryz.prog.cellsOf 9 = 1 := by kernel_rfl
  have e5 : Tryz.prog.cellsOf 31 = 1 := by kernel_rfl
  have e6 : Tryz.prog.cellsOf 5 = 1 := by kernel_rfl
  have hvl : (Value.agg #[c0, c1, c2, c3]).cells.toList = [c0, c1, c2, c3] := rfl
  rw [hvl] at hfs
  match xs, hlen with
  | [y0, y1, y2, y3], _ =>
    have f0 := hfs 0 _ rfl
    have f1 := hfs 1 _ rfl
    have f2 := hfs 2 _ rfl
    have f3 := hfs 3 _ rfl
    clear hfs
    change DataW.trod enc Tryz.prog w base spare held n 23 (List.take (Tryz.prog.cellsOf 23) [c0, c1, c2, c3]) = some y0 at f0
    change DataW.trod enc Tryz.prog w base spare held n 24 (List.take (Tryz.prog.cellsOf 24) [c1, c2, c3]) = some y1 at f1
    change DataW.trod enc Tryz.prog w base spare held n 25 (List.take (Tryz.prog.cellsOf 25) [c2, c3]) = some y2 at f2
    change DataW.trod enc Tryz.prog w base spare held n 26 (List.take (Tryz.prog.cellsOf 26) [c3]) = some y3 at f3
    rw [e0] at f0
    rw [e1] at f1
    rw [e2] at f2
    rw [e3] at f3
    obtain ⟨A, m, cap, h1, h2, h3, h4, h5⟩ := openName Tryz.underlying23 Tryz.underlying9 e4 f0
    obtain ⟨k1, g1, _, w1⟩ := DataW.trod_int Tryz.underlying24 f1
    obtain ⟨k2, g2, _, w2⟩ := DataW.trod_int Tryz.underlying25 f2
    obtain ⟨D, ds, dcap, j1, j2, j3, j4, j5, j6⟩ := openBlobs Tryz.underlying26 e5 Tryz.underlying31 Tryz.underlying5 e6 f3
    simp at h1 g1 g2 j1
    subst h1 g1 g2 j1
    exact ⟨⟨A, m, cap, k1, k2, D, ds, dcap⟩, rfl, ⟨h2, j2, j3⟩, h3, h4, h5, Nat.le_trans j4 j5, j6, w1, w2⟩
end Nm
end Go.Proofs.YtkeimgamjnpcbaaGreat
