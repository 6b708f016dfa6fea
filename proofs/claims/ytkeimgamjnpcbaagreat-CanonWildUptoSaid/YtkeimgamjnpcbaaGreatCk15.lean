/-
  Texts merged by a program (Ord, SortG, CompB, Data, CanX).
-/
import Derived.Sort.Statements
import Derived.Test.YtkeimgamjnpcbaaGreatCk2
import Derived.Test.YtkeimgamjnpcbaaGreatCk5
import Derived.Test.YtkeimgamjnpcbaaGreatCk6
import Derived.Test.YtkeimgamjnpcbaaGreatCk14
set_option linter.unusedSimpArgs false
set_option linter.unusedVariables false
/- Plain law: data sorted and each told once do not hang on their order, nor on how often each stands. -/
namespace Go.Proofs.YtkeimgamjnpcbaaGreat
open Go.RowKit
set_option linter.unusedVariables false
namespace Nm
theorem cb_flip : ∀ (a b : Lab), Lib.compareBytes a b = - Lib.compareBytes b a
  | [], [] => by simp [Lib.compareBytes]
  | [], _ :: _ => by simp [Lib.compareBytes]
  | _ :: _, [] => by simp [Lib.compareBytes]
  | x :: a, y :: b => by
    unfold Lib.compareBytes
    have ih := cb_flip a b
    by_cases h1 : x < y
    · have h2 : ¬ y < x := fun h => UInt8.lt_irrefl x (UInt8.lt_trans h1 h)
      rw [if_pos h1, if_neg h2, if_pos h1]
    · by_cases h2 : y < x
      · rw [if_neg h1, if_pos h2, if_pos h2]
        rfl
      · rw [if_neg h1, if_neg h2, if_neg h2, if_neg h1]
        exact ih
theorem cb_trans : ∀ (a b c : Lab), Lib.compareBytes a b < 0 → Lib.compareBytes b c < 0 → Lib.compareBytes a c < 0
  | [], [], _ => by intro h; simp [Lib.compareBytes] at h
  | _ :: _, [], _ => by intro h; simp [Lib.compareBytes] at h
  | [], y :: b, [] => by intro _ h; simp [Lib.compareBytes] at h
  | [], y :: b, z :: c => by intro _ _; simp [Lib.compareBytes]
  | x :: a, y :: b, [] => by intro _ h; simp [Lib.compareBytes] at h
  | x :: a, y :: b, z :: c => by
    have ih := cb_trans a b c
    unfold Lib.compareBytes
    intro h1 h2
    by_cases p1 : x < y
    · by_cases p2 : y < z
      · rw [if_pos (UInt8.lt_trans p1 p2)]
        omega
      · rw [if_neg p2] at h2
        by_cases p3 : z < y
        · rw [if_pos p3] at h2
          omega
        · have e : y = z := UInt8.le_antisymm (UInt8.not_lt.1 p3) (UInt8.not_lt.1 p2)
          subst e
          rw [if_pos p1]
          omega
    · rw [if_neg p1] at h1
      by_cases q1 : y < x
      · rw [if_pos q1] at h1
        omega
      · rw [if_neg q1] at h1
        have e : x = y := UInt8.le_antisymm (UInt8.not_lt.1 q1) (UInt8.not_lt.1 p1)
        subst e
        by_cases p2 : x < z
        · rw [if_pos p2]
          omega
        · rw [if_neg p2] at h2 ⊢
          by_cases p3 : z < x
          · rw [if_pos p3] at h2
            omega
          · rw [if_neg p3] at h2 ⊢
            exact ih h1 h2
def ltB (a b : Lab) : Prop := Lib.compareBytes a b < 0
theorem ltB_irrefl (a : Lab) : ¬ ltB a a := by
  unfold ltB
  rw [(cb_zero a a).2 rfl]
  omega
theorem ltB_tot (a b : Lab) : ltB a b ∨ a = b ∨ ltB b a := by
  unfold ltB
  have h := cb_flip a b
  by_cases h0 : Lib.compareBytes a b = 0
  · exact .inr (.inl ((cb_zero a b).1 h0))
  · omega
theorem ltB_trans {a b c : Lab} (h : ltB a b) (k : ltB b c) : ltB a c := cb_trans a b c h k
theorem ltB_asymm {a b : Lab} (h : ltB a b) : ¬ ltB b a := fun k => ltB_irrefl a (ltB_trans h k)
/-- neighbours that are alike are told once -/
def once : List Lab → List Lab
  | [] => []
  | [a] => [a]
  | a :: b :: r => if a = b then once (b :: r) else a :: once (b :: r)
theorem once_mem : ∀ (l : List Lab) (x : Lab), x ∈ once l ↔ x ∈ l
  | [], x => by simp [once]
  | [a], x => by simp [once]
  | a :: b :: r, x => by
    unfold once
    have ih := once_mem (b :: r) x
    split
    · rename_i h
      subst h
      rw [ih]
      simp
    · rw [List.mem_cons, ih]
      simp
theorem once_len : ∀ (l : List Lab), (once l).length ≤ l.length
  | [] => by simp [once]
  | [a] => by simp [once]
  | a :: b :: r => by
    unfold once
    have ih := once_len (b :: r)
    split
    · simp at ih ⊢
      omega
    · simp at ih ⊢
      omega
theorem once_strict : ∀ (l : List Lab), l.Pairwise (fun a b => ¬ ltB b a) → (once l).Pairwise ltB
  | [], _ => by simp [once]
  | [a], _ => by simp [once]
  | a :: b :: r, h => by
    unfold once
    have h2 := List.pairwise_cons.1 h
    have ih := once_strict (b :: r) h2.2
    split
    · exact ih
    · rename_i hne
      refine List.pairwise_cons.2 ⟨fun x hx => ?_, ih⟩
      have hx2 := (once_mem (b :: r) x).1 hx
      have hab : ltB a b := by
        rcases ltB_tot a b with h3 | h3 | h3
        · exact h3
        · exact absurd h3 hne
        · exact absurd h3 (h2.1 b (by simp))
      rcases List.mem_cons.1 hx2 with rfl | hx3
      · exact hab
      · have h4 := (List.pairwise_cons.1 h2.2).1 x hx3
        rcases ltB_tot b x with h5 | h5 | h5
        · exact ltB_trans hab h5
        · exact h5 ▸ hab
        · exact absurd h5 h4
theorem strict_ext : ∀ (l m : List Lab), l.Pairwise ltB → m.Pairwise ltB → (∀ x, x ∈ l ↔ x ∈ m) → l = m
  | [], [], _, _, _ => rfl
  | [], b :: m, _, _, h => by have := (h b).2 (by simp); simp at this
  | a :: l, [], _, _, h => by have := (h a).1 (by simp); simp at this
  | a :: l, b :: m, hl, hm, h => by
    have h1 := List.pairwise_cons.1 hl
    have h2 := List.pairwise_cons.1 hm
    have hab : a = b := by
      rcases List.mem_cons.1 ((h a).1 (by simp)) with e | e
      · exact e
      · rcases List.mem_cons.1 ((h b).2 (by simp)) with e2 | e2
        · exact e2.symm
        · exact absurd (h1.1 b e2) (ltB_asymm (h2.1 a e))
    subst hab
    rw [strict_ext l m h1.2 h2.2 fun x => ⟨fun hx => ?_, fun hx => ?_⟩]
    · rcases List.mem_cons.1 ((h x).1 (by simp [hx])) with e | e
      · subst e; exact absurd (h1.1 x hx) (ltB_irrefl x)
      · exact e
    · rcases List.mem_cons.1 ((h x).2 (by simp [hx])) with e | e
      · subst e; exact absurd (h2.1 x hx) (ltB_irrefl x)
      · exact e
/-- sorted, each told once: of these data -/
def Told (l : List Lab) (d : List Lab) : Prop := ∃ s, s.Perm l ∧ s.Pairwise (fun a b => ¬ ltB b a) ∧ d = once s
theorem told_same {l m d e : List Lab} (h : Told l d) (k : Told m e) (hm : ∀ x, x ∈ l ↔ x ∈ m) : d = e := by
  obtain ⟨s, hs1, hs2, rfl⟩ := h
  obtain ⟨t, ht1, ht2, rfl⟩ := k
  refine strict_ext _ _ (once_strict s hs2) (once_strict t ht2) fun x => ?_
  rw [once_mem, once_mem, hs1.mem_iff, ht1.mem_iff]
  exact hm x
end Nm
end Go.Proofs.YtkeimgamjnpcbaaGreat

/- slices.SortFunc at slices of bytes, by bytes.Compare: some permutation, sorted. -/
namespace Go.Proofs.YtkeimgamjnpcbaaGreat
open Go.RowKit
set_option linter.unusedVariables false
namespace Nm
/-- bytes held against bytes, as the sort wants it -/
theorem swoB {α : Type} (f : α → Lab) : Sort.SWO (ltOf fun a b => Lib.compareBytes (f a) (f b)) where
  irrefl := fun x => by
    have := ltB_irrefl (f x)
    unfold ltB at this
    simp [ltOf]
    omega
  trans := fun x y z h1 h2 => by
    simp [ltOf] at h1 h2 ⊢
    exact cb_trans _ _ _ h1 h2
  ntrans := fun x y z h1 h2 => by
    simp [ltOf] at h1 h2 ⊢
    have a := cb_flip (f x) (f y)
    have b := cb_flip (f y) (f z)
    have c := cb_flip (f x) (f z)
    by_cases e1 : Lib.compareBytes (f x) (f y) = 0
    · rw [(cb_zero _ _).1 e1]
      exact h2
    · by_cases e2 : Lib.compareBytes (f y) (f z) = 0
      · rw [← (cb_zero _ _).1 e2]
        exact h1
      · have := cb_trans (f z) (f y) (f x) (by omega) (by omega)
        omega
/-- cells of a row hold these slices of bytes, and none is frozen -/
def RowB (w : World) (g : Nat) (bs : List Blob) : Prop := ∀ i b, bs[i]? = some b → w.cell? ⟨g, i, none⟩ = some b.v ∧ w.frozen? ⟨g, i, none⟩ = false
/-- none of them lies in block g -/
def Apart (g : Nat) (b : Blob) : Prop := ∀ a, b.A = some a → b.l.map byteV ≠ [] → a.block ≠ g
theorem Blob.kept {S : Nat → Prop} {w w' : World} {b : Blob} (h : b.ok w) (hk : Kept S w w') (hn : ∀ a, b.A = some a → b.l.map byteV ≠ [] → ¬ S a.block) : b.ok w' := Kept.cs h hk hn
theorem rowB_grow {α : Type} [Inhabited α] (enc : α → Value) (w : World) (g : Nat) (m : Nat) (dk d0 : Array α) (os : Array Obj) (hg : g < w.heap.size) (hH : Sort.Holds enc w g 0 d0) (hs : dk.size = d0.size) :
    Sort.Holds enc (sortWorld enc w g 0 m dk os) g 0 dk := by
  have hH2 : Sort.Holds enc (Sort.ahead w m) g 0 d0 := hH
  have h := Sort.holds_putRow enc (Sort.ahead w m) g 0 d0 dk hH2 hs
  unfold sortWorld
  exact Sort.holds_grow enc _ os g 0 dk (by simpa [Sort.putRow, Sort.mapBlock, Sort.ahead] using hg) h
theorem shape_sortWorld {α : Type} [Inhabited α] (enc : α → Value) (w : World) (g m : Nat) (dk : Array α) (os : Array Obj) {cs : Array Value} {e : TypeId} {fr : Nat × Nat} (h : w.heap[g]? = some (.cells cs e fr)) :
    ∃ cs', (sortWorld enc w g 0 m dk os).heap[g]? = some (.cells cs' e fr) ∧ cs'.size = cs.size := by
  unfold sortWorld
  refine ⟨Sort.putCells enc 0 dk cs, ?_, ?_⟩
  · rw [Sort.heap_grow_old _ _ (by have := lt_block h; simpa [Sort.putRow, Sort.mapBlock, Sort.ahead] using this)]
    simp [Sort.putRow, Sort.mapBlock, Sort.ahead, Array.getElem?_modify, h, Sort.onCells]
  · simp [Sort.putCells]
theorem extract_full {α : Type} (d : Array α) (n : Nat) (h : d.size = n) : d.extract 0 n = d := by
  subst h
  exact Array.extract_size
theorem SortB (g cap : Nat) (bs : List Blob) (w : World) (hr : RowB w g bs) (hg : g < w.heap.size) (hok : ∀ b ∈ bs, b.ok w) (hne : ∀ b ∈ bs, Apart g b) (hl : bs.length ≤ 1000000) (h0 : bs ≠ []) :
    Calls Tryz.prog 98 #[.slice (some ⟨g, 0, none⟩) bs.length cap, .func (.func 99) #[] #[]] w fun e w' =>
      e = .returned (.tuple #[]) ∧ Kept (fun b => b = g) w w' ∧ ∃ cs, cs.Perm bs ∧ cs.Pairwise (fun a b => ¬ ltB b.l a.l) ∧ RowB w' g cs ∧ (∀ cs e fr, w.heap[g]? = some (.cells cs e fr) → ∃ cs', w'.heap[g]? = some (.cells cs' e fr) ∧ cs'.size = cs.size) := by
  have hpos : 0 < bs.length := List.length_pos_iff.2 h0
  letI : Inhabited (Fin bs.length) := ⟨⟨0, hpos⟩⟩
  let d : Array (Fin bs.length) := (List.finRange bs.length).toArray
  have hds : d.size = bs.length := by simp [d]
  have hdj : ∀ j (hj : j < bs.length), d[j]! = ⟨j, hj⟩ := by
    intro j hj
    rw [getElem!_pos d j (by omega)]
    simp [d]
  have hH : Sort.Holds (fun i : Fin bs.length => (bs[i]).v) w g 0 d := by
    intro j hj
    rw [hds] at hj
    rw [hdj j hj, Nat.zero_add]
    exact hr j _ (List.getElem?_eq_getElem hj)
  have hS := Any.slices_SortFunc Tryz.sortB (fun i : Fin bs.length => (bs[i]).v) (fun _ => rfl) (fun i j => Lib.compareBytes (bs[i]).l (bs[j]).l) (swoB fun i : Fin bs.length => (bs[i]).l) 99 #[] g 0 cap d w ent99 ?_ hH hg (by omega)
  · rw [hds] at hS
    refine hS.mono ?_
    rintro e w' ⟨rfl, d', n, os, hp, hs, rfl⟩
    have hd' : d'.size = bs.length := hp.1.trans hds
    have hfull : d'.extract 0 bs.length = d' := extract_full d' _ hd'
    have hfull2 : d.extract 0 bs.length = d := extract_full d _ hds
    have hperm : d'.toList.Perm (List.finRange bs.length) := by
      have h3 := hp.2.2
      rw [hfull, hfull2] at h3
      simpa [d] using h3
    refine ⟨rfl, kept_sortWorld _ w g n d' os, d'.toList.map (fun i => bs[i]), ?_, ?_, ?_, fun cs e fr h => shape_sortWorld _ w g n d' os h⟩
    · have h4 := hperm.map (fun i : Fin bs.length => bs[i])
      have h5 : (List.finRange bs.length).map (fun i : Fin bs.length => bs[i]) = bs := by
        apply List.ext_getElem
        · simp
        · intro i h1 h2
          simp
      rw [h5] at h4
      exact h4
    · rw [List.pairwise_map]
      rw [List.pairwise_iff_getElem]
      intro i j hi hj hij
      have hi2 : i < d'.size := by simpa using hi
      have hj2 : j < d'.size := by simpa using hj
      have h6 := hs i j (Nat.zero_le _) hij (by omega)
      rw [getElem!_pos d' j hj2, getElem!_pos d' i hi2] at h6
      unfold ltB
      simp [ltOf] at h6
      simp only [Array.getElem_toList]
      simpa using h6
    · have hH2 := rowB_grow (fun i : Fin bs.length => (bs[i]).v) w g n d' d os hg hH (by omega)
      intro i b hb
      have hi : i < d'.size := by
        have := (List.getElem?_eq_some_iff.1 hb).1
        simpa using this
      have h7 := hH2 i hi
      rw [Nat.zero_add, getElem!_pos d' i hi] at h7
      have h8 : b = bs[d'[i]] := by
        simp [hi] at hb
        exact hb.symm
      rw [h8]
      exact h7
  · intro m os dk hk x y
    have hk := kept_sortWorld (fun i : Fin bs.length => (bs[i]).v) w g m dk os
    have hx : (bs[x]).ok (sortWorld (fun i : Fin bs.length => (bs[i]).v) w g 0 m dk os) := Blob.kept (hok _ (List.getElem_mem _)) hk (fun a h1 h2 => hne _ (List.getElem_mem _) a h1 h2)
    have hy : (bs[y]).ok (sortWorld (fun i : Fin bs.length => (bs[i]).v) w g 0 m dk os) := Blob.kept (hok _ (List.getElem_mem _)) hk (fun a h1 h2 => hne _ (List.getElem_mem _) a h1 h2)
    refine (BCompare _ _ _ _ _ _ _ hx hy).mono fun e w' h => ?_
    obtain ⟨h1, h2⟩ := h
    refine ⟨h1, 0, #[], ?_⟩
    rw [Sort.grow_empty]
    exact h2.symm
theorem SortB0 (A : Option Addr) (cap : Nat) (w : World) :
    Calls Tryz.prog 98 #[.slice A 0 cap, .func (.func 99) #[] #[]] w fun e w' => e = .returned (.tuple #[]) ∧ w' = w := AnyF.slices_SortFunc_none { Tryz.sortB with } A cap _ w
end Nm
end Go.Proofs.YtkeimgamjnpcbaaGreat

/- slices.CompactFunc at slices of bytes, by bytes.Equal: neighbours that are alike are told once. -/
namespace Go.Proofs.YtkeimgamjnpcbaaGreat
open Go.RowKit
set_option linter.unusedVariables false
set_option linter.unusedSimpArgs false
namespace Nm
theorem once_cons2 (a b : Lab) (r : List Lab) : once (a :: b :: r) = if a = b then once (b :: r) else a :: once (b :: r) := rfl
theorem once_snoc : ∀ (L : List Lab) (x y : Lab), once (L ++ [x, y]) = once (L ++ [x]) ++ (if x = y then [] else [y])
  | [], x, y => by
    show once [x, y] = once [x] ++ _
    rw [once_cons2]
    by_cases h : x = y
    · rw [if_pos h, if_pos h, h]
      rfl
    · rw [if_neg h, if_neg h]
      rfl
  | [a], x, y => by
    have ih := once_snoc [] x y
    have e1 : once ([a] ++ [x, y]) = if a = x then once ([] ++ [x, y]) else a :: once ([] ++ [x, y]) := rfl
    have e2 : once ([a] ++ [x]) = if a = x then once ([] ++ [x]) else a :: once ([] ++ [x]) := rfl
    rw [e1, e2]
    by_cases h : a = x
    · rw [if_pos h, if_pos h]
      exact ih
    · rw [if_neg h, if_neg h, List.cons_append]
      exact congrArg _ ih
  | a :: b :: r, x, y => by
    show once (a :: b :: (r ++ [x, y])) = once (a :: b :: (r ++ [x])) ++ _
    have ih := once_snoc (b :: r) x y
    rw [once_cons2, once_cons2]
    by_cases h : a = b
    · rw [if_pos h, if_pos h]
      exact ih
    · rw [if_neg h, if_neg h, List.cons_append]
      exact congrArg _ ih
theorem once_take (L : List Lab) (j : Nat) (x y : Lab) (hx : L[j]? = some x) (hy : L[j + 1]? = some y) : once (L.take (j + 1 + 1)) = once (L.take (j + 1)) ++ (if x = y then [] else [y]) := by
  obtain ⟨h1, h2⟩ := List.getElem?_eq_some_iff.1 hx
  obtain ⟨h3, h4⟩ := List.getElem?_eq_some_iff.1 hy
  have e1 : L.take (j + 1) = L.take j ++ [x] := by rw [← h2]; exact (List.take_append_getElem h1).symm
  have e2 : L.take (j + 1 + 1) = L.take j ++ [x, y] := by
    rw [show L.take (j + 1 + 1) = L.take (j + 1) ++ [L[j + 1]] from (List.take_append_getElem h3).symm, e1, h4, List.append_assoc]
    rfl
  rw [e1, e2]
  exact once_snoc _ _ _
theorem heap_setB {w : World} {g i : Nat} {cs : Array Value} {T : TypeId} {fr : Nat × Nat} {v : Value} (h : w.heap[g]? = some (.cells cs T fr)) : (w.setCell ⟨g, i, none⟩ v).heap[g]? = some (.cells (cs.setIfInBounds i v) T fr) := by
  simp [World.setCell, Array.getElem?_modify, h]
/-- the first cells of a row hold these, those from a place on hold those -/
structure RowM (w : World) (g n : Nat) (ys bs : List Blob) (p : Nat) : Prop where
  lo : ∀ i b, ys[i]? = some b → w.cell? ⟨g, i, none⟩ = some b.v
  hi : ∀ i b, p ≤ i → bs[i]? = some b → w.cell? ⟨g, i, none⟩ = some b.v
  cs : ∃ cs, w.heap[g]? = some (.cells cs 31 (0, 0)) ∧ n ≤ cs.size
theorem RowM.frozen {w : World} {g n p : Nat} {ys bs : List Blob} (h : RowM w g n ys bs p) (i : Nat) : w.frozen? ⟨g, i, none⟩ = false := by
  obtain ⟨cs, h1, _⟩ := h.cs
  simp [World.frozen?, h1]
theorem RowM.size {w : World} {g n p : Nat} {ys bs : List Blob} (h : RowM w g n ys bs p) : g < w.heap.size := by
  obtain ⟨cs, h1, _⟩ := h.cs
  exact lt_block h1
theorem RowM.any {w : World} {g n p : Nat} {ys bs : List Blob} (h : RowM w g n ys bs p) {i : Nat} (hi : i < n) : ∃ v, w.cell? ⟨g, i, none⟩ = some v := by
  obtain ⟨cs, h1, h2⟩ := h.cs
  exact ⟨cs[i], by rw [cell_of_row w g i _ _ _ h1]; exact Array.getElem?_eq_getElem _⟩
theorem RowM.kept {w w' : World} {g n p : Nat} {ys bs : List Blob} (h : RowM w g n ys bs p) (hb : w'.heap[g]? = w.heap[g]?) : RowM w' g n ys bs p := by
  have hc : ∀ i, w'.cell? ⟨g, i, none⟩ = w.cell? ⟨g, i, none⟩ := fun i => World.cell?_of_block (a := ⟨g, i, none⟩) hb
  obtain ⟨cs, h1, h2⟩ := h.cs
  exact ⟨fun i b hib => (hc i).trans (h.lo i b hib), fun i b hp hib => (hc i).trans (h.hi i b hp hib), cs, hb.trans h1, h2⟩
theorem RowM.set {w : World} {g n p : Nat} {ys bs : List Blob} {b : Blob} (h : RowM w g n ys bs p) (hk : ys.length < n) (hp : ys.length ≤ p) : RowM (w.setCell ⟨g, ys.length, none⟩ b.v) g n (ys ++ [b]) bs (p + 1) := by
  obtain ⟨v, hv⟩ := h.any hk
  obtain ⟨cs, h1, h2⟩ := h.cs
  have hfar : ∀ i, i ≠ ys.length → (w.setCell ⟨g, ys.length, none⟩ b.v).cell? ⟨g, i, none⟩ = w.cell? ⟨g, i, none⟩ := fun i hi =>
    World.cell?_setCell_other (w := w) (a := ⟨g, ys.length, none⟩) (b := ⟨g, i, none⟩) (v := b.v) (by intro e; cases e; exact hi rfl)
  refine ⟨fun i c hic => ?_, fun i c hpi hic => ?_, cs.setIfInBounds ys.length b.v, heap_setB h1, by simpa using h2⟩
  · rw [List.getElem?_append] at hic
    split at hic
    · rename_i hi
      rw [hfar i (by omega)]
      exact h.lo i c hic
    · rename_i hi
      have hlt := (List.getElem?_eq_some_iff.1 hic).1
      simp at hlt
      have e : i = ys.length := by omega
      subst e
      simp at hic
      subst hic
      exact setc_same hv
  · rw [hfar i (by omega)]
    exact h.hi i c (by omega) hic
theorem zero_cellsB (z : Value) (m : Nat) : (Builtin.zeroCells #[z] m).toList = List.replicate m z := by
  rw [List.eq_replicate_iff]
  refine ⟨by simp [Builtin.zeroCells], fun b hb => ?_⟩
  simp [Builtin.zeroCells, Nat.mod_one] at hb
  exact hb.2.symm
theorem clearB (g k n C p : Nat) (ys bs : List Blob) (W : World) (h : RowM W g n ys bs p) (hk : k < n) (hy : ys.length ≤ k) : ∃ W', (Builtin.clear_ #[26] 0 #[.slice (some ⟨g, k, none⟩) (n - k) C]).run Tryz.prog W = .ok (.tuple #[]) W' ∧ Kept (fun b => b = g) W W' ∧ RowM W' g n ys [] 0 := by
  obtain ⟨cs, hh, hsz⟩ := h.cs
  obtain ⟨j, hj⟩ : ∃ j, n - k = j + 1 := ⟨n - k - 1, by omega⟩
  rw [hj]
  have hz : (zeroValue 31).run Tryz.prog W = .ok (.slice none 0 0) W := by kernel_rfl
  have hst : (storeCells ⟨g, k, none⟩ (List.replicate (j + 1) (Value.slice none 0 0))).run Tryz.prog W = .ok () (W.setRow g (cs.toList.take (k + 0) ++ List.replicate (j + 1) (Value.slice none 0 0) ++ cs.toList.drop (k + 0 + (List.replicate (j + 1) (Value.slice none 0 0)).length)).toArray) :=
    run_storeCells_at (P := Tryz.prog) g k 31 (List.replicate (j + 1) (Value.slice none 0 0)) 0 cs W hh (by simp; omega) (fun v hv => by rw [List.eq_of_mem_replicate hv]; rfl)
  have hb := setRow_block W g (cs.toList.take (k + 0) ++ List.replicate (j + 1) (Value.slice none 0 0) ++ cs.toList.drop (k + 0 + (List.replicate (j + 1) (Value.slice none 0 0)).length)).toArray cs _ _ hh
  refine ⟨_, ?_, (Kept.of_grown (setRow_grown W g _)).mono (fun b _ e => by cases e; rfl), ⟨fun i b hib => ?_, (fun i b _ hib => by simp at hib), _, hb, by simp; omega⟩⟩
  · simp [Builtin.clear_, run_underlying Tryz.underlying26, hz, Result.andThen]
    have e : (Builtin.zeroCells (Value.slice none 0 0).cells (j + 1)).toList = List.replicate (j + 1) (Value.slice none 0 0) := zero_cellsB _ _
    rw [e, hst]
    simp
  · have hi := (List.getElem?_eq_some_iff.1 hib).1
    have h1 := h.lo i b hib
    rw [cell_of_row W g i _ _ _ hh] at h1
    rw [cell_of_row _ g i _ _ _ hb, List.getElem?_toArray, List.append_assoc, List.getElem?_append_left (by rw [List.length_take, Array.length_toList]; omega), List.getElem?_take_of_lt (by omega)]
    simpa using h1
def CfO (bs : List Blob) (w : World) (g : Nat) (v : Value) (W : World) : Prop := ∃ k : Nat, v = .int .i64 k ∧ 1 ≤ k ∧ k ≤ bs.length ∧ once ((bs.map (·.l)).take k) = (bs.map (·.l)).take k ∧ Kept (fun b => b = g) w W ∧ RowM W g bs.length [] bs 0
def CfI (bs : List Blob) (w : World) (g k0 : Nat) (v u : Value) (W : World) : Prop := ∃ (m : Nat) (ys : List Blob), v = .int .i64 ys.length ∧ u = .int .i64 (m + 1 : Nat) ∧ k0 + m + 1 ≤ bs.length ∧ ys.length ≤ k0 + m ∧ once ((bs.map (·.l)).take (k0 + m + 1)) = ys.map (·.l) ∧ (∀ y ∈ ys, y ∈ bs) ∧ Kept (fun b => b = g) w W ∧ RowM W g bs.length ys bs (k0 + m)
set_option maxRecDepth 100000 in
set_option maxHeartbeats 20000000 in
theorem CompB (g cap : Nat) (bs : List Blob) (w : World) (hr : RowM w g bs.length [] bs 0) (hok : ∀ b ∈ bs, b.ok w) (hne : ∀ b ∈ bs, Apart g b) (hl : bs.length ≤ 1000000) (hcap : bs.length ≤ cap) (h0 : bs ≠ []) :
    Calls Tryz.prog 100 #[.slice (some ⟨g, 0, none⟩) bs.length cap, .func (.func 101) #[] #[]] w fun e w' =>
      ∃ cs : List Blob, e = .returned (.slice (some ⟨g, 0, none⟩) cs.length cap) ∧ Kept (fun b => b = g) w w' ∧ RowM w' g bs.length cs [] 0 ∧ cs.map (·.l) = once (bs.map (·.l)) ∧ (∀ c ∈ cs, c ∈ bs) := by
  go_enter Tryz.func100, Tryz.ntmps100
  by_cases hn2 : bs.length < 2
  · go_wp2_with fail
    go_ret
    refine ⟨bs, rfl, Kept.refl _ _, ⟨fun i b h => hr.hi i b (Nat.zero_le _) h, (fun i b _ h => by simp at h), hr.cs⟩, ?_, fun c h => h⟩
    match bs, hn2, h0 with
    | [b], _, _ => rfl
  · go_wp2_with fail
    go_loopw [5] (CfO bs w g) (fun k _ => bs.length - (intOf k).toNat)
    case atStart => exact ⟨1, rfl, by omega, by omega, (match bs, hn2 with | b :: c :: r, _ => rfl), Kept.refl _ _, hr⟩
    case round =>
      obtain ⟨k, rfl, hk1, hk2, hon, hkp, hrw⟩ := hrel
      obtain ⟨V, hVV⟩ : ∃ V, V = wr := ⟨_, rfl⟩
      rw [← hVV] at hkp hrw ⊢
      clear hVV
      by_cases hkn : k < bs.length
      · obtain ⟨d, rfl⟩ : ∃ d, k = d + 1 := ⟨k - 1, by omega⟩
        obtain ⟨⟨Ak, lk, ck⟩, hk0⟩ : ∃ b, bs[d + 1]? = some b := ⟨_, List.getElem?_eq_getElem hkn⟩
        obtain ⟨⟨Ad, ld, cd⟩, hd0⟩ : ∃ b, bs[d]? = some b := ⟨_, List.getElem?_eq_getElem (by omega)⟩
        have hgV := hrw.size
        have hq1 : V.cell? ⟨g, d + 1, none⟩ = some (.slice Ak lk.length ck) := hrw.hi _ _ (Nat.zero_le _) hk0
        have hq2 : V.cell? ⟨g, d, none⟩ = some (.slice Ad ld.length cd) := hrw.hi _ _ (Nat.zero_le _) hd0
        have hokV : ∀ b ∈ bs, b.ok V := fun b hb => Blob.kept (hok b hb) hkp (fun a h1 h2 => hne b hb a h1 h2)
        have hck : Cs V Ak (lk.map byteV) := hokV ⟨Ak, lk, ck⟩ (List.mem_of_getElem? hk0)
        have hcd : Cs V Ad (ld.map byteV) := hokV ⟨Ad, ld, cd⟩ (List.mem_of_getElem? hd0)
        go_upto_region 6 with fail
        refine wp_region_mono (by kernel_rfl) (by kernel_rfl) [.is (.func (.func 101) #[] #[]), .is (.slice (some ⟨g, 0, none⟩) bs.length cap), .is (.int .i64 (d + 1 : Nat)), .is (.pointer (some ⟨g, d + 1, none⟩)), .is (.slice Ak lk.length ck), .is (.slice (some ⟨g, 0, none⟩) bs.length cap), .is (.int .i64 (d + 1 : Nat)), .is (.int .i64 d), .is (.pointer (some ⟨g, d, none⟩)), .is (.slice Ad ld.length cd), .is (.bool (decide (lk = ld)))] rfl ?_ ?_
        · intro i o hio vals W hE haf
          have e1 := (bcl (o := d + 1) hE hgV).trans hq1
          have e2 := (bcl (o := d) hE hgV).trans hq2
          have r1 : (d : Int) + 1 < (bs.length : Int) := by omega
          have r2 : IntKind.i64.wrap ((d : Int) + 1 - 1) = (d : Int) := (IntWalk.i64_in _ (by omega)).trans (by omega)
          have r3 : (d : Int) < (bs.length : Int) := by omega
          have r4 : (0 : Int) ≤ (d : Int) + 1 := by omega
          have r5 : IntKind.i64.wrap (d : Int) = (d : Int) := IntWalk.i64_in _ (by omega)
          rcases i with _ | _ | _ | _ | _ | _ | _ | _ | _ | _ | _ | i
          all_goals first
            | (exfalso; simp at hio; done)
            | (simp at hio; subst hio; simp [bindD, rdB, Region.binds, factAt] at haf; simp [opYield_def, yieldUpon, yielded, relAct, dstAt, Act.put, Region.wanted, go_sem, haf, e1, e2, r1, r2, r3, r4, r5, Ext.refl, factAt]; done)
            | skip
          all_goals
            simp at hio
            subst hio
            simp [bindD, rdB, Region.binds, factAt] at haf
          simp [opYield_def, yieldUpon, yielded, relAct, dstAt, Act.put, Region.wanted, go_sem, haf, factAt]
          refine (BEqual Ak Ad lk ld ck cd W (hck.below hE) (hcd.below hE)).mono fun e W' h => ?_
          obtain ⟨h1, h2⟩ := h
          subst h2
          exact ⟨h1, Ext.refl _⟩
        · intro vals W hE hF
          simp only [facts] at hF
          obtain ⟨_, _, _, _, _, _, _, _, _, _, hv10, _⟩ := hF
          have hv : vals 10 = .bool (decide (lk = ld)) := hv10
          have hE' : Kept (fun b => b = g) V W := (Kept.of_ext hE).mono (fun _ _ h => h.elim)
          simp [relAct, dstAt, Act.put]
          rw [hv]
          have hrW : RowM W g bs.length [] bs 0 := hrw.kept (hE.block _ hgV)
          have hkW := hkp.trans hE'
          have ht := once_take (bs.map (·.l)) d ld lk (by rw [List.getElem?_map, hd0]; rfl) (by rw [List.getElem?_map, hk0]; rfl)
          have htk : (bs.map (·.l)).take (d + 1 + 1) = (bs.map (·.l)).take (d + 1) ++ [lk] := by
            rw [List.take_add_one, List.getElem?_map, hk0]
            rfl
          clear hv10 hv hq1 hq2
          generalize vals 0 = v0 at *
          generalize vals 1 = v1 at *
          generalize vals 2 = v2 at *
          generalize vals 3 = v3 at *
          generalize vals 4 = v4 at *
          generalize vals 5 = v5 at *
          generalize vals 6 = v6 at *
          generalize vals 7 = v7 at *
          generalize vals 8 = v8 at *
          generalize vals 9 = v9 at *
          by_cases hkl : lk = ld
          · subst hkl
            have HT := Lib.hid ht
            have HON := Lib.hid hon
            have HTK := Lib.hid htk
            clear ht hon htk
            simp only [decide_true]
            clear hk1 hk2 hck hcd hokV hgV hrw hkp hE' hE
            obtain ⟨k0, hk0i⟩ : ∃ k0 : Nat, (d : Int) + 1 = k0 := ⟨d + 1, by omega⟩
            rw [hk0i]
            have hk0n : d + 1 = k0 := by omega
            have hkn' : k0 < bs.length := by omega
            have hkni : (k0 : Int) < (bs.length : Int) := by omega
            have hk01 : 1 ≤ k0 := by omega
            have hT0 : once ((bs.map (·.l)).take (k0 + 0 + 1)) = (bs.take k0).map (·.l) := by
              have h1 := HT.out
              rw [if_pos rfl, List.append_nil, HON.out] at h1
              rw [Nat.add_zero, ← hk0n, h1, List.map_take]
            have HT0 := Lib.hid hT0
            clear hT0 HT HON HTK hk0 hd0 hk0n hk0i hkn
            go_wp2_with fail
            go_loopw [5, 7] (CfI bs w g k0) (fun _ m _ => bs.length - (intOf m).toNat)
            case atStart =>
              refine ⟨0, bs.take k0, by simp; omega, rfl, by omega, by simp; omega, HT0.out, (fun y hy => List.mem_of_mem_take hy), hkW, ⟨fun i b hib => ?_, fun i b _ hib => hrW.hi i b (Nat.zero_le _) hib, hrW.cs⟩⟩
              rw [List.getElem?_take] at hib
              split at hib
              · exact hrW.hi i b (Nat.zero_le _) hib
              · cases hib
            case round =>
              obtain ⟨m, ys, rfl, rfl, hm1, hm2, hm3, hm4, hkp, hrw⟩ := hrel
              by_cases hmn : k0 + (m + 1) < bs.length
              · obtain ⟨⟨Aj, lj, cj⟩, hj0⟩ : ∃ b, bs[k0 + (m + 1)]? = some b := ⟨_, List.getElem?_eq_getElem hmn⟩
                obtain ⟨⟨Ai, li, ci⟩, hi0⟩ : ∃ b, bs[k0 + m]? = some b := ⟨_, List.getElem?_eq_getElem (by omega)⟩
                have hgR := hrw.size
                have hq1 : wr.cell? ⟨g, k0 + (m + 1), none⟩ = some (.slice Aj lj.length cj) := hrw.hi _ _ (by omega) hj0
                have hq2 : wr.cell? ⟨g, k0 + m, none⟩ = some (.slice Ai li.length ci) := hrw.hi _ _ (by omega) hi0
                have hok2 : ∀ b ∈ bs, b.ok wr := fun b hb => Blob.kept (hok b hb) hkp (fun a h1 h2 => hne b hb a h1 h2)
                have hcj : Cs wr Aj (lj.map byteV) := hok2 ⟨Aj, lj, cj⟩ (List.mem_of_getElem? hj0)
                have hci : Cs wr Ai (li.map byteV) := hok2 ⟨Ai, li, ci⟩ (List.mem_of_getElem? hi0)
                have hmi : (m : Int) + 1 < ((bs.length - k0 : Nat) : Int) := by omega
                go_upto_region 11 with fail
                refine wp_region_mono (by kernel_rfl) (by kernel_rfl) [.is (.func (.func 101) #[] #[]), .is (.slice (some ⟨g, k0, none⟩) (bs.length - k0) (cap - k0)), .is (.int .i64 (m + 1 : Nat)), .is (.pointer (some ⟨g, k0 + (m + 1), none⟩)), .is (.slice Aj lj.length cj), .is (.slice (some ⟨g, k0, none⟩) (bs.length - k0) (cap - k0)), .is (.int .i64 (m + 1 : Nat)), .is (.int .i64 m), .is (.pointer (some ⟨g, k0 + m, none⟩)), .is (.slice Ai li.length ci), .is (.bool (decide (lj = li))), .is (.bool (!decide (lj = li)))] rfl ?_ ?_
                · intro i o hio vals W hE haf
                  have e1 := (bcl (o := k0 + (m + 1)) hE hgR).trans hq1
                  have e2 := (bcl (o := k0 + m) hE hgR).trans hq2
                  have r2 : IntKind.i64.wrap ((m : Int) + 1 - 1) = (m : Int) := (IntWalk.i64_in _ (by omega)).trans (by omega)
                  have r3 : (m : Int) < ((bs.length - k0 : Nat) : Int) := by omega
                  have r4 : (0 : Int) ≤ (m : Int) + 1 := by omega
                  have r5 : IntKind.i64.wrap (m : Int) = (m : Int) := IntWalk.i64_in _ (by omega)
                  have r6 : m + 1 < bs.length - k0 := by omega
                  have r7 : m < bs.length - k0 := by omega
                  rcases i with _ | _ | _ | _ | _ | _ | _ | _ | _ | _ | _ | _ | i
                  all_goals first
                    | (exfalso; simp at hio; done)
                    | (simp at hio; subst hio; simp [bindD, rdB, Region.binds, factAt] at haf; simp [opYield_def, yieldUpon, yielded, relAct, dstAt, Act.put, Region.wanted, go_sem, haf, e1, e2, hmi, r2, r3, r4, r5, r6, r7, Ext.refl, factAt]; done)
                    | skip
                  all_goals
                    simp at hio
                    subst hio
                    simp [bindD, rdB, Region.binds, factAt] at haf
                  all_goals
                    simp [opYield_def, yieldUpon, yielded, relAct, dstAt, Act.put, Region.wanted, go_sem, haf, factAt]
                    refine (BEqual Aj Ai lj li cj ci W (hcj.below hE) (hci.below hE)).mono fun e W' h => ?_
                    obtain ⟨h1, h2⟩ := h
                    subst h2
                    exact ⟨h1, Ext.refl _⟩
                · intro vals W hE hF
                  simp only [facts] at hF
                  obtain ⟨_, _, _, _, _, _, _, _, _, _, _, hv11, _⟩ := hF
                  have hv : vals 11 = .bool (!decide (lj = li)) := hv11
                  have hE' : Kept (fun b => b = g) wr W := (Kept.of_ext hE).mono (fun _ _ h => h.elim)
                  simp [relAct, dstAt, Act.put]
                  rw [hv]
                  have hrW2 : RowM W g bs.length ys bs (k0 + m) := hrw.kept (hE.block _ hgR)
                  have hkW2 := hkp.trans hE'
                  have e1 := (bcl (o := k0 + (m + 1)) hE hgR).trans hq1
                  have ht := once_take (bs.map (·.l)) (k0 + m) li lj (by rw [List.getElem?_map, hi0]; rfl) (by rw [List.getElem?_map, show k0 + m + 1 = k0 + (m + 1) by omega, hj0]; rfl)
                  clear hv11 hv hq1 hq2
                  generalize vals 0 = v0 at *
                  generalize vals 1 = v1 at *
                  generalize vals 2 = v2 at *
                  generalize vals 3 = v3 at *
                  generalize vals 4 = v4 at *
                  generalize vals 5 = v5 at *
                  generalize vals 6 = v6 at *
                  generalize vals 7 = v7 at *
                  generalize vals 8 = v8 at *
                  generalize vals 9 = v9 at *
                  generalize vals 10 = v10 at *
                  rw [hm3] at ht
                  by_cases hij : lj = li
                  · rw [if_pos hij.symm, List.append_nil] at ht
                    have HT := Lib.hid ht
                    rw [decide_eq_true hij]
                    clear ht hij e1
                    simp only [Bool.not_true]
                    go_wp2_with fail
                    refine ⟨⟨m + 1, ys, rfl, by go_num, by omega, by omega, HT.out, hm4, hkW2, ⟨hrW2.lo, fun i b hp hib => hrW2.hi i b (by omega) hib, hrW2.cs⟩⟩, by simp [intOf]; omega⟩
                  · rw [if_neg (fun h => hij h.symm)] at ht
                    have HT := Lib.hid ht
                    rw [decide_eq_false hij]
                    clear ht
                    simp only [Bool.not_false]
                    obtain ⟨vz, hz⟩ := hrW2.any (i := ys.length) (by omega)
                    have hfz := hrW2.frozen ys.length
                    have hyl : (ys.length : Int) < (bs.length : Int) := by omega
                    have hyl2 : ys.length < bs.length := by omega
                    have hms : m + 1 < bs.length - k0 := by omega
                    go_wp2_with fail
                    refine ⟨⟨m + 1, ys ++ [⟨Aj, lj, cj⟩], by simp, by go_num, by omega, by simp; omega, ?_, ?_, ?_, ?_⟩, by simp [intOf]; omega⟩
                    · rw [List.map_append]
                      exact HT.out
                    · intro y hy
                      rcases List.mem_append.1 hy with hy | hy
                      · exact hm4 y hy
                      · simp at hy
                        subst hy
                        exact List.mem_of_getElem? hj0
                    · exact hkW2.setCell (S := fun b => b = g) (p := ⟨g, ys.length, none⟩) (fun _ => rfl) _
                    · exact RowM.set (b := ⟨Aj, lj, cj⟩) hrW2 (by omega) (by omega)
              · have hmi : ¬ (m : Int) + 1 < ((bs.length - k0 : Nat) : Int) := by omega
                have hyl2 : ys.length < bs.length := by omega
                have hfin : ys.map (·.l) = once (bs.map (·.l)) := by
                  rw [← hm3, List.take_of_length_le (by simp; omega)]
                have HFin := Lib.hid hfin
                obtain ⟨W2, hcl, hk3, hw3⟩ := clearB g ys.length bs.length (cap - ys.length) (k0 + m) ys bs wr hrw hyl2 (Nat.le_refl _)
                have hyi : (ys.length : Int) ≤ (bs.length : Int) := by omega
                clear hm3 hfin
                go_wp2_with fail
                go_ret
                exact ⟨ys, rfl, hkp.trans hk3, hw3, HFin.out, hm4⟩
          · rw [if_neg (fun h => hkl h.symm), hon, ← htk] at ht
            have HT := Lib.hid ht
            clear ht hon htk
            rw [decide_eq_false hkl]
            go_wp2_with fail
            refine ⟨⟨d + 1 + 1, by go_num, by omega, by omega, HT.out, hkW, hrW⟩, by simp [intOf]; omega⟩
      · have hfin : bs.map (·.l) = once (bs.map (·.l)) := by
          have := hon
          rw [List.take_of_length_le (by simp; omega)] at this
          exact this.symm
        have HFin := Lib.hid hfin
        clear hfin hon
        go_wp2_with fail
        go_ret
        exact ⟨bs, rfl, hkp, ⟨fun i b h => hrw.hi i b (Nat.zero_le _) h, (fun i b _ h => by simp at h), hrw.cs⟩, HFin.out, fun c h => h⟩
end Nm
end Go.Proofs.YtkeimgamjnpcbaaGreat

/- Contracts of package canon: data, of any set: sorted, each told once. -/
namespace Go.Proofs.YtkeimgamjnpcbaaGreat
open Go.RowKit
set_option linter.unusedVariables false
set_option linter.unusedSimpArgs false
namespace Nm
/-- data as it is signed: at 48 and 50 as it is -/
def canX (t : Int) (b : Lab) : Lab := if t = 48 ∨ t = 50 then b else canonD t b
/-- what data asks of Canon at a type -/
def CanonC (t : Int) : Prop := ∀ (A : Option Addr) (l : Lab) (cap : Nat) (w : World), Cs w A (l.map byteV) → l.length ≤ 100000 → l.length ≤ cap → cap ≤ maxLen →
  Calls Tryz.prog 97 #[.int .u16 t, .slice A l.length cap] w fun e w' => Below w.heap.size w w' ∧ ∃ v k, e = .returned (.tuple #[v, .int .i64 k]) ∧ (k = 0 ∧ w'.ownsRow w.heap.size 5 1 v (canX t l).length ((canX t l).map byteV) ∨ k ≠ 0 ∧ canX t l = l)
def DatR (t : Int) (ds : List Blob) (w : World) (vi vo : Value) (W : World) : Prop := ∃ (k : Nat) (ys : List Blob), k ≤ ds.length ∧ vi = .int .i64 k ∧ ys.length = k ∧ ys.map (·.l) = (ds.take k).map (fun d => canX t d.l) ∧ W.ownsRow w.heap.size 31 1 vo k (ys.map Blob.v) ∧ (∀ y ∈ ys, y.ok W ∧ ∀ a, y.A = some a → y.l.map byteV ≠ [] → ¬ some a.block = vo.ownBlock) ∧ Below w.heap.size w W
theorem info_bytesD : (Tryz.prog.info? 31).map (fun i => (i.zero, i.size, i.bytes)) = some (some (.slice none 0 0), 1, 24) := by kernel_rfl
theorem own_formD {w : World} {B : Nat} {e : TypeId} {size : Nat} {v : Value} {n : Nat} {xs : List Value} (h : w.ownsRow B e size v n xs) : ∃ A c, v = .slice A n c := by
  rcases h.2 with ⟨rfl, rfl⟩ | ⟨g, cap, cur, rfl, hg, hh, hc1, hc2, _⟩
  · exact ⟨none, 0, rfl⟩
  · exact ⟨_, cap, rfl⟩
/-- a row of slices of bytes, as the sort wants it -/
theorem rowM_of {w : World} {B n : Nat} {v : Value} {ys : List Blob} (h : w.ownsRow B 31 1 v n (ys.map Blob.v)) (hn : ys.length = n) (h0 : ys ≠ []) : ∃ g cap, v = .slice (some ⟨g, 0, none⟩) n cap ∧ n ≤ cap ∧ B ≤ g ∧ g < w.heap.size ∧ RowM w g n [] ys 0 := by
  rcases h.2 with ⟨_, hx⟩ | ⟨g, cap, cur, rfl, hg, hh, hc1, hc2, hsz, htake⟩
  · subst hx
    exact absurd (List.length_eq_zero_iff.1 hn) h0
  · refine ⟨g, cap, rfl, hc1, hg, lt_block hh, (fun i b hb => by simp at hb), (fun i b _ hb => ?_), cur, hh, by omega⟩
    rw [cell_of_row w g i _ _ _ hh]
    have hi := (List.getElem?_eq_some_iff.1 hb).1
    have h1 : (ys.map Blob.v)[i]? = some b.v := by rw [List.getElem?_map, hb]; rfl
    rw [← htake, List.getElem?_take] at h1
    split at h1
    · simpa using h1
    · cases h1
theorem RowM.rowB {w : World} {g n : Nat} {ys : List Blob} (h : RowM w g n [] ys 0) : RowB w g ys := fun i b hb => ⟨h.hi i b (Nat.zero_le _) hb, h.frozen i⟩
theorem RowB.rowM {w : World} {g n : Nat} {ys : List Blob} (h : RowB w g ys) (hc : ∃ cs, w.heap[g]? = some (.cells cs 31 (0, 0)) ∧ n ≤ cs.size) : RowM w g n [] ys 0 := ⟨(fun i b hb => by simp at hb), fun i b _ hb => (h i b hb).1, hc⟩
theorem Comp0 (A : Option Addr) (cap : Nat) (f : Value) (w : World) : Calls Tryz.prog 100 #[.slice A 0 cap, f] w fun e w' => e = .returned (.slice A 0 cap) ∧ w = w' := by
  go_enter Tryz.func100, Tryz.ntmps100
  go_wp2_with fail
  go_ret
  exact ⟨rfl, rfl⟩
set_option maxRecDepth 100000 in
set_option maxHeartbeats 20000000 in
theorem DataG (t ttl : Int) (hC : CanonC t) (A D : Option Addr) (n cap dcap : Nat) (ds : List Blob) (w : World) (hD : Cs w D (ds.map Blob.v)) (hds : Blobs w ds) (hlen : ds.length ≤ 1000) (hcap : ∀ d ∈ ds, d.l.length ≤ 100000 ∧ d.l.length ≤ d.cap ∧ d.cap ≤ maxLen) :
    Calls Tryz.prog 62 #[.agg #[.slice A n cap, .int .u16 t, .int .u32 ttl, .slice D ds.length dcap]] w fun e w' =>
      ∃ (A' : Option Addr) (xs : List Blob) (c : Nat), e = .returned (.slice A' xs.length c) ∧ Cs w' A' (xs.map Blob.v) ∧ Blobs w' xs ∧ Told (ds.map fun d => canX t d.l) (xs.map (·.l)) ∧ Below w.heap.size w w' := by
  obtain ⟨i0, hi, hi0, hi1, hi2⟩ := info_parts info_bytesD
  have HC := Lib.hid hC
  have HD := Lib.hid hD
  have HDs := Lib.hid hds
  have HCap := Lib.hid hcap
  generalize hw1 : w.alloc (.cells #[.slice A n cap, .int .u16 t, .int .u32 ttl, .slice D ds.length dcap] 28) = w1
  have hb1 : Below w.heap.size w w1 := by rw [← hw1]; exact (Below.refl _ _).alloc (Nat.le_refl _) _
  have hz1 : w1.heap.size = w.heap.size + 1 := by rw [← hw1]; simp
  have q1 : w1.heap[w.heap.size]? = some (.cells #[.slice A n cap, .int .u16 t, .int .u32 ttl, .slice D ds.length dcap] 28 (0, 0)) := by rw [← hw1]; exact heap_alloc_new w _
  have s1 : w1.cell? ⟨w.heap.size, 1, none⟩ = some (.int .u16 t) := by rw [cell_of_row _ _ 1 _ _ _ q1]; rfl
  have s3 : w1.cell? ⟨w.heap.size, 3, none⟩ = some (.slice D ds.length dcap) := by rw [cell_of_row _ _ 3 _ _ _ q1]; rfl
  clear hC hD hds hcap
  go_enter Tryz.func62, Tryz.ntmps62
  go_wp2_with fail
  clear hw1
  go_loopw [11, 3] (DatR t ds w1) (fun i _ _ => ds.length - (intOf i).toNat)
  case atStart => exact ⟨0, [], by omega, rfl, rfl, rfl, World.ownsRow_nil _ _ _ _, (fun y hy => by simp at hy), Below.refl _ _⟩
  case round =>
    obtain ⟨k, ys, hk, rfl, hys, hyl, hown, hyo, hb⟩ := hrel
    obtain ⟨V, hVV⟩ : ∃ V, V = wr := ⟨_, rfl⟩
    rw [← hVV] at hown hyo hb ⊢
    clear hVV
    have hzV := hb.size
    by_cases hkn : k < ds.length
    · obtain ⟨d, hd0⟩ : ∃ b, ds[k]? = some b := ⟨_, List.getElem?_eq_getElem hkn⟩
      have hdm : d ∈ ds := List.mem_of_getElem? hd0
      obtain ⟨bd, od, rfl, hbd, hdc⟩ := HD.out k d.v (by rw [List.getElem?_map, hd0]; rfl)
      have hbV := hb1.trans (hb.mono (by omega))
      have q3 : V.cell? ⟨bd, od + k, none⟩ = some (.slice d.A d.l.length d.cap) := (bcl hbV hbd).trans hdc
      have q1' : V.cell? ⟨w.heap.size, 1, none⟩ = some (.int .u16 t) := (bcl hb (by omega)).trans s1
      have hdV : Cs V d.A (d.l.map byteV) := Cs.below (HDs.out d hdm) hbV
      obtain ⟨hd1, hd2, hd3⟩ := HCap.out d hdm
      have hki : (k : Int) < (ds.length : Int) := by omega
      have HOwn := Lib.hid hown
      have HYo := Lib.hid hyo
      have HTk : Hid ((ds.take (k + 1)).map (fun d => canX t d.l) = (ds.take k).map (fun d => canX t d.l) ++ [canX t d.l]) := Lib.hid (by
        rw [List.take_add_one, hd0, List.map_append]
        rfl)
      have HYl := Lib.hid hyl
      have HCn := Lib.hid (HC.out d.A d.l d.cap V hdV hd1 hd2 hd3)
      have HD0 := Lib.hid hd0
      clear hown hyo hyl hdV hd0 hdm hdc
      go_wp2_with fail
      refine HCn.out.mono ?_
      rintro e w2 ⟨hb2, v, kk, rfl, hcase⟩
      have hz2 := hb2.size
      have hown2 := own_below HOwn.out hb2
      have hB2 : w1.heap.size ≤ w2.heap.size := by omega
      have hkl : k + 1 ≤ 1000 := by omega
      obtain ⟨z, hzv, hzl, hzo, hza⟩ : ∃ z : Blob, (kk = 0 ∧ v = z.v ∨ kk ≠ 0 ∧ z = d) ∧ z.l = canX t d.l ∧ z.ok w2 ∧ (∀ a, z.A = some a → z.l.map byteV ≠ [] → ¬ some a.block = u3.ownBlock) := by
        rcases hcase with ⟨h1, h2⟩ | ⟨h1, h2⟩
        · obtain ⟨A5, c5, rfl, _, hcs5⟩ := Cs.of_own h2
          refine ⟨⟨A5, canX t d.l, c5⟩, .inl ⟨h1, rfl⟩, rfl, hcs5, fun a ha hne hab => ?_⟩
          have ha' : A5 = some a := ha
          have g1 := (h2.lt a.block (by rw [ha']; rfl)).1
          have g2 := (HOwn.out.lt a.block hab.symm).2
          omega
        · refine ⟨d, .inr ⟨h1, rfl⟩, h2.symm, Cs.below (w := V) (Cs.below (HDs.out d (List.mem_of_getElem? HD0.out)) hbV) hb2, fun a ha hne hab => ?_⟩
          have g1 := Cs.where (HDs.out d (List.mem_of_getElem? HD0.out)) ha hne
          have g2 := (HOwn.out.lt a.block hab.symm).1
          omega
      have hall : ∀ y ∈ ys ++ [z], y.ok w2 ∧ ∀ a, y.A = some a → y.l.map byteV ≠ [] → ¬ some a.block = u3.ownBlock := by
        intro y hy
        rcases List.mem_append.1 hy with hy | hy
        · exact ⟨Cs.below (HYo.out y hy).1 hb2, (HYo.out y hy).2⟩
        · simp at hy
          subst hy
          exact ⟨hzo, hza⟩
      have hyl2 : (ys ++ [z]).map (·.l) = (ds.take (k + 1)).map (fun d => canX t d.l) := by
        rw [List.map_append, HYl.out, HTk.out]
        simp [hzl]
      have hfin : ∀ v4 w4, w4.ownsRow w1.heap.size 31 1 v4 (k + 1) (ys.map Blob.v ++ [z.v]) → Moved u3 w2 v4 w4 → DatR t ds w1 (.int .i64 ((k : Int) + 1)) v4 w4 := by
        intro v4 w4 ho hm
        refine ⟨k + 1, ys ++ [z], by omega, by simp, by simp [hys], hyl2, by simpa using ho, fun y hy => ?_, (hb.trans (hb2.mono hzV)).trans (hm.below hown2 hB2)⟩
        obtain ⟨h1, h2⟩ := hall y hy
        refine ⟨Blob.kept h1 hm.kept (fun a ha hne => h2 a ha hne), fun a ha hne hab => ?_⟩
        rcases hm.at_ a.block hab.symm with h3 | h3
        · exact h2 a ha hne h3.symm
        · have := Cs.where h1 ha hne
          omega
      have HF := Lib.hid hfin
      have HO2 := Lib.hid hown2
      clear hfin hall hyl2 hza hzo hzl hcase hown2
      rcases hzv with ⟨hkk, hv⟩ | ⟨hkk, hv⟩
      · subst hkk
        have hv2 : v = .slice z.A z.l.length z.cap := hv
        subst hv2
        clear hv
        go_wp2_with (first | (at_builtin; refine wpList_push3 HO2.out hB2 [.slice z.A z.l.length z.cap] rfl (by simp [Value.oneCell']) hi hi0 hi1 hi2 rfl (by decide) rfl (.tmp 25) _ 26 Tryz.underlying26 rfl rfl rfl (by unfold maxLen; omega) (by omega) ?_; intro v4 w4 hown4 hmv4; have HF4 := Lib.hid (HF.out v4 w4 hown4 hmv4); clear hown4 hmv4))
        exact ⟨by have := HF4.out; first | exact this | simpa using this, by simp [intOf]; omega⟩
      · subst hv
        go_wp2_with (first | (at_builtin; refine wpList_push3 HO2.out hB2 [.slice z.A z.l.length z.cap] rfl (by simp [Value.oneCell']) hi hi0 hi1 hi2 rfl (by decide) rfl (.tmp 25) _ 26 Tryz.underlying26 rfl rfl rfl (by unfold maxLen; omega) (by omega) ?_; intro v4 w4 hown4 hmv4; have HF4 := Lib.hid (HF.out v4 w4 hown4 hmv4); clear hown4 hmv4))
        exact ⟨by have := HF4.out; first | exact this | simpa using this, by simp [intOf]; omega⟩
    · have hke : k = ds.length := by omega
      subst hke
      rw [List.take_length] at hyl
      have hbV := hb1.trans (hb.mono (by omega))
      by_cases h0 : ds = []
      · subst h0
        have hys0 : ys = [] := List.length_eq_zero_iff.1 hys
        subst hys0
        obtain ⟨A3, c3, rfl⟩ := own_formD hown
        clear hown hyo hyl
        go_wp2_with fail
        refine (SortB0 A3 c3 V).mono ?_
        rintro e w3 ⟨rfl, rfl⟩
        go_wp2_with fail
        refine (Comp0 A3 c3 _ w3).mono ?_
        rintro e w4 ⟨rfl, rfl⟩
        go_wp2_with fail
        go_ret
        exact ⟨A3, [], c3, rfl, Cs.nil _ _, (fun b hb => by cases hb), ⟨[], .refl _, .nil, rfl⟩, hbV⟩
      · have hys0 : ys ≠ [] := fun h => h0 (List.length_eq_zero_iff.1 (by rw [← hys, h]; rfl))
        obtain ⟨g, capr, rfl, hcr, hg1, hg2, hrm⟩ := rowM_of hown hys hys0
        have hap : ∀ y ∈ ys, Apart g y := fun y hy a h1 h2 h3 => (hyo y hy).2 a h1 h2 (by rw [h3]; rfl)
        have HSt := SortB g capr ys V hrm.rowB hg2 (fun y hy => (hyo y hy).1) hap (by omega) hys0
        rw [hys] at HSt
        have HS := Lib.hid HSt
        have HYl := Lib.hid hyl
        have HYo := Lib.hid hyo
        have HAp := Lib.hid hap
        clear HSt hyl hyo hap hown
        go_wp2_with fail
        refine HS.out.mono ?_
        rintro e w3 ⟨rfl, hk3, cs, hperm, hsort, hrow, hshape⟩
        have hcl : cs.length = ds.length := hperm.length_eq.trans hys
        have hcs0 : cs ≠ [] := fun h => h0 (List.length_eq_zero_iff.1 (by rw [← hcl, h]; rfl))
        have hok3 : ∀ y ∈ cs, y.ok w3 := fun y hy => Blob.kept (HYo.out y (hperm.mem_iff.1 hy)).1 hk3 (fun a h1 h2 => HAp.out y (hperm.mem_iff.1 hy) a h1 h2)
        have hap3 : ∀ y ∈ cs, Apart g y := fun y hy => HAp.out y (hperm.mem_iff.1 hy)
        have hrm3 : RowM w3 g cs.length [] cs 0 := hrow.rowM (by
          obtain ⟨c0, h1, h2⟩ := hrm.cs
          obtain ⟨c1, h3, h4⟩ := hshape c0 _ _ h1
          exact ⟨c1, h3, by omega⟩)
        have HCt := CompB g capr cs w3 hrm3 hok3 hap3 (by omega) (by omega) hcs0
        rw [hcl] at HCt
        have HC2 := Lib.hid HCt
        have HTo : Hid (Told (ds.map fun d => canX t d.l) (once (cs.map (·.l)))) := Lib.hid ⟨cs.map (·.l), by rw [← HYl.out]; exact hperm.map _, by rw [List.pairwise_map]; exact hsort, rfl⟩
        have HOk := Lib.hid hok3
        have HA3 := Lib.hid hap3
        have hz3 := hk3.size
        clear HCt hok3 hap3 hrm3 hrow hshape hsort hperm hrm
        go_wp2_with fail
        refine HC2.out.mono ?_
        rintro e w4 ⟨xs, rfl, hk4, hrow4, hmap, hmem⟩
        have HM := Lib.hid hmap
        have HMe := Lib.hid hmem
        have hz4 := hk4.size
        clear hmap hmem
        go_wp2_with fail
        go_ret
        refine ⟨_, xs, capr, rfl, ?_, ?_, ?_, ?_⟩
        · intro i u hu
          rw [List.getElem?_map] at hu
          cases hx : xs[i]? with
          | none => rw [hx] at hu; cases hu
          | some x =>
            rw [hx] at hu
            cases hu
            exact ⟨g, 0, rfl, by omega, by rw [Nat.zero_add]; exact hrow4.lo i x hx⟩
        · intro x hx
          exact Blob.kept (HOk.out x (HMe.out x hx)) hk4 (fun a h1 h2 => HA3.out x (HMe.out x hx) a h1 h2)
        · rw [HM.out]
          exact HTo.out
        · exact hbV.trans ((hk3.trans hk4).below (by omega) (fun k hk he => by omega))
end Nm
end Go.Proofs.YtkeimgamjnpcbaaGreat

/- Contracts of package rdata: Canon at every type: the data by which it is signed. -/
namespace Go.Proofs.YtkeimgamjnpcbaaGreat
open Go.RowKit
set_option linter.unusedVariables false
set_option linter.unusedSimpArgs false
namespace Nm
theorem CanonAll (t : Int) : CanonC t := by
  intro A l cap w hc hl hcap hcap2
  by_cases h48 : t = 48
  · subst h48
    refine (Canon48 A l cap w hc hl hcap hcap2).mono fun e w' ⟨h1, v, k, h2, h3⟩ => ⟨h1, v, k, h2, ?_⟩
    rcases h3 with ⟨h3, h4⟩ | h3
    · exact .inl ⟨h3, h4⟩
    · exact .inr ⟨h3, rfl⟩
  · by_cases h50 : t = 50
    · subst h50
      refine (Canon50 A l cap w hc hl hcap hcap2).mono fun e w' ⟨h1, v, k, h2, h3⟩ => ⟨h1, v, k, h2, ?_⟩
      rcases h3 with ⟨h3, h4⟩ | h3
      · exact .inl ⟨h3, h4⟩
      · exact .inr ⟨h3, rfl⟩
    · have hx : canX t l = canonD t l := by
        unfold canX
        rw [if_neg (fun h => h.elim h48 h50)]
      rw [hx]
      have key : Calls Tryz.prog 97 #[.int .u16 t, .slice A l.length cap] w fun e w' =>
          Below w.heap.size w w' ∧ ∃ v, e = .returned (.tuple #[v, .int .i64 (code50 (chk t l))]) ∧ w'.ownsRow w.heap.size 5 1 v (canonR t l).length ((canonR t l).map byteV) := by
        by_cases h46 : t = 46
        · subst h46
          exact Canon46 A l cap w hc hl hcap hcap2
        · exact CanonE t ⟨h46, h48, h50⟩ A l cap w hc hl hcap hcap2
      refine key.mono fun e w' ⟨h1, v, h2, h3⟩ => ⟨h1, v, _, h2, ?_⟩
      cases hk : chk t l with
      | true =>
        rw [canonR_yes hk] at h3
        refine .inl ⟨rfl, ?_⟩
        unfold canonD
        rw [hk]
        exact h3
      | false =>
        refine .inr ⟨by decide, ?_⟩
        unfold canonD
        rw [hk]
        rfl
end Nm
end Go.Proofs.YtkeimgamjnpcbaaGreat
