/-
  Texts merged by a program (Ord, SortG, RelR2, CmpD, Ins2, Gst).
-/
import Derived.Sort.Statements
import Derived.Laws.CopyRow
import Derived.Lib.Overlaps
import Derived.Lib.AppendZerosOnto
import Derived.Test.YtkeimgamjnpcbaaGreatPk1
import Derived.Test.YtkeimgamjnpcbaaGreatPk4
import Derived.Test.YtkeimgamjnpcbaaGreatPk6
import Derived.Test.YtkeimgamjnpcbaaGreatPk7
import Derived.Test.YtkeimgamjnpcbaaGreatPk10
set_option linter.unusedSimpArgs false
set_option linter.unusedVariables false
/- Plain law: data sorted and each told once do not hang on their order, nor on how often each stands. -/
namespace Go.Proofs.YtkeimgamjnpcbaaGreat
open Go.RowKit
set_option linter.unusedVariables false
namespace Nm
theorem cb_flip : ∀ (a b : Lab), Lib.compareBytes a b = - Lib.compareBytes b a
  | [], [] => by simp [Lib.compareBytes]
  | [], _ :: _ => by simp [Lib.compareBytes]
  | _ :: _, [] => by simp [Lib.compareBytes]
  | x :: a, y :: b => by
    unfold Lib.compareBytes
    have ih := cb_flip a b
    by_cases h1 : x < y
    · have h2 : ¬ y < x := fun h => UInt8.lt_irrefl x (UInt8.lt_trans h1 h)
      rw [if_pos h1, if_neg h2, if_pos h1]
    · by_cases h2 : y < x
      · rw [if_neg h1, if_pos h2, if_pos h2]
        rfl
      · rw [if_neg h1, if_neg h2, if_neg h2, if_neg h1]
        exact ih
theorem cb_trans : ∀ (a b c : Lab), Lib.compareBytes a b < 0 → Lib.compareBytes b c < 0 → Lib.compareBytes a c < 0
  | [], [], _ => by intro h; simp [Lib.compareBytes] at h
  | _ :: _, [], _ => by intro h; simp [Lib.compareBytes] at h
  | [], y :: b, [] => by intro _ h; simp [Lib.compareBytes] at h
  | [], y :: b, z :: c => by intro _ _; simp [Lib.compareBytes]
  | x :: a, y :: b, [] => by intro _ h; simp [Lib.compareBytes] at h
  | x :: a, y :: b, z :: c => by
    have ih := cb_trans a b c
    unfold Lib.compareBytes
    intro h1 h2
    by_cases p1 : x < y
    · by_cases p2 : y < z
      · rw [if_pos (UInt8.lt_trans p1 p2)]
        omega
      · rw [if_neg p2] at h2
        by_cases p3 : z < y
        · rw [if_pos p3] at h2
          omega
        · have e : y = z := UInt8.le_antisymm (UInt8.not_lt.1 p3) (UInt8.not_lt.1 p2)
          subst e
          rw [if_pos p1]
          omega
    · rw [if_neg p1] at h1
      by_cases q1 : y < x
      · rw [if_pos q1] at h1
        omega
      · rw [if_neg q1] at h1
        have e : x = y := UInt8.le_antisymm (UInt8.not_lt.1 q1) (UInt8.not_lt.1 p1)
        subst e
        by_cases p2 : x < z
        · rw [if_pos p2]
          omega
        · rw [if_neg p2] at h2 ⊢
          by_cases p3 : z < x
          · rw [if_pos p3] at h2
            omega
          · rw [if_neg p3] at h2 ⊢
            exact ih h1 h2
def ltB (a b : Lab) : Prop := Lib.compareBytes a b < 0
theorem ltB_irrefl (a : Lab) : ¬ ltB a a := by
  unfold ltB
  rw [(cb_zero a a).2 rfl]
  omega
theorem ltB_tot (a b : Lab) : ltB a b ∨ a = b ∨ ltB b a := by
  unfold ltB
  have h := cb_flip a b
  by_cases h0 : Lib.compareBytes a b = 0
  · exact .inr (.inl ((cb_zero a b).1 h0))
  · omega
theorem ltB_trans {a b c : Lab} (h : ltB a b) (k : ltB b c) : ltB a c := cb_trans a b c h k
theorem ltB_asymm {a b : Lab} (h : ltB a b) : ¬ ltB b a := fun k => ltB_irrefl a (ltB_trans h k)
/-- neighbours that are alike are told once -/
def once : List Lab → List Lab
  | [] => []
  | [a] => [a]
  | a :: b :: r => if a = b then once (b :: r) else a :: once (b :: r)
theorem once_mem : ∀ (l : List Lab) (x : Lab), x ∈ once l ↔ x ∈ l
  | [], x => by simp [once]
  | [a], x => by simp [once]
  | a :: b :: r, x => by
    unfold once
    have ih := once_mem (b :: r) x
    split
    · rename_i h
      subst h
      rw [ih]
      simp
    · rw [List.mem_cons, ih]
      simp
theorem once_len : ∀ (l : List Lab), (once l).length ≤ l.length
  | [] => by simp [once]
  | [a] => by simp [once]
  | a :: b :: r => by
    unfold once
    have ih := once_len (b :: r)
    split
    · simp at ih ⊢
      omega
    · simp at ih ⊢
      omega
theorem once_strict : ∀ (l : List Lab), l.Pairwise (fun a b => ¬ ltB b a) → (once l).Pairwise ltB
  | [], _ => by simp [once]
  | [a], _ => by simp [once]
  | a :: b :: r, h => by
    unfold once
    have h2 := List.pairwise_cons.1 h
    have ih := once_strict (b :: r) h2.2
    split
    · exact ih
    · rename_i hne
      refine List.pairwise_cons.2 ⟨fun x hx => ?_, ih⟩
      have hx2 := (once_mem (b :: r) x).1 hx
      have hab : ltB a b := by
        rcases ltB_tot a b with h3 | h3 | h3
        · exact h3
        · exact absurd h3 hne
        · exact absurd h3 (h2.1 b (by simp))
      rcases List.mem_cons.1 hx2 with rfl | hx3
      · exact hab
      · have h4 := (List.pairwise_cons.1 h2.2).1 x hx3
        rcases ltB_tot b x with h5 | h5 | h5
        · exact ltB_trans hab h5
        · exact h5 ▸ hab
        · exact absurd h5 h4
theorem strict_ext : ∀ (l m : List Lab), l.Pairwise ltB → m.Pairwise ltB → (∀ x, x ∈ l ↔ x ∈ m) → l = m
  | [], [], _, _, _ => rfl
  | [], b :: m, _, _, h => by have := (h b).2 (by simp); simp at this
  | a :: l, [], _, _, h => by have := (h a).1 (by simp); simp at this
  | a :: l, b :: m, hl, hm, h => by
    have h1 := List.pairwise_cons.1 hl
    have h2 := List.pairwise_cons.1 hm
    have hab : a = b := by
      rcases List.mem_cons.1 ((h a).1 (by simp)) with e | e
      · exact e
      · rcases List.mem_cons.1 ((h b).2 (by simp)) with e2 | e2
        · exact e2.symm
        · exact absurd (h1.1 b e2) (ltB_asymm (h2.1 a e))
    subst hab
    rw [strict_ext l m h1.2 h2.2 fun x => ⟨fun hx => ?_, fun hx => ?_⟩]
    · rcases List.mem_cons.1 ((h x).1 (by simp [hx])) with e | e
      · subst e; exact absurd (h1.1 x hx) (ltB_irrefl x)
      · exact e
    · rcases List.mem_cons.1 ((h x).2 (by simp [hx])) with e | e
      · subst e; exact absurd (h2.1 x hx) (ltB_irrefl x)
      · exact e
/-- sorted, each told once: of these data -/
def Told (l : List Lab) (d : List Lab) : Prop := ∃ s, s.Perm l ∧ s.Pairwise (fun a b => ¬ ltB b a) ∧ d = once s
theorem told_same {l m d e : List Lab} (h : Told l d) (k : Told m e) (hm : ∀ x, x ∈ l ↔ x ∈ m) : d = e := by
  obtain ⟨s, hs1, hs2, rfl⟩ := h
  obtain ⟨t, ht1, ht2, rfl⟩ := k
  refine strict_ext _ _ (once_strict s hs2) (once_strict t ht2) fun x => ?_
  rw [once_mem, once_mem, hs1.mem_iff, ht1.mem_iff]
  exact hm x
end Nm
end Go.Proofs.YtkeimgamjnpcbaaGreat

/- slices.SortFunc at slices of bytes, by bytes.Compare: some permutation, sorted. -/
namespace Go.Proofs.YtkeimgamjnpcbaaGreat
open Go.RowKit
set_option linter.unusedVariables false
namespace Nm
/-- bytes held against bytes, as the sort wants it -/
theorem swoB {α : Type} (f : α → Lab) : Sort.SWO (ltOf fun a b => Lib.compareBytes (f a) (f b)) where
  irrefl := fun x => by
    have := ltB_irrefl (f x)
    unfold ltB at this
    simp [ltOf]
    omega
  trans := fun x y z h1 h2 => by
    simp [ltOf] at h1 h2 ⊢
    exact cb_trans _ _ _ h1 h2
  ntrans := fun x y z h1 h2 => by
    simp [ltOf] at h1 h2 ⊢
    have a := cb_flip (f x) (f y)
    have b := cb_flip (f y) (f z)
    have c := cb_flip (f x) (f z)
    by_cases e1 : Lib.compareBytes (f x) (f y) = 0
    · rw [(cb_zero _ _).1 e1]
      exact h2
    · by_cases e2 : Lib.compareBytes (f y) (f z) = 0
      · rw [← (cb_zero _ _).1 e2]
        exact h1
      · have := cb_trans (f z) (f y) (f x) (by omega) (by omega)
        omega
/-- cells of a row hold these slices of bytes, and none is frozen -/
def RowB (w : World) (g : Nat) (bs : List Blob) : Prop := ∀ i b, bs[i]? = some b → w.cell? ⟨g, i, none⟩ = some b.v ∧ w.frozen? ⟨g, i, none⟩ = false
/-- none of them lies in block g -/
def Apart (g : Nat) (b : Blob) : Prop := ∀ a, b.A = some a → b.l.map byteV ≠ [] → a.block ≠ g
theorem Blob.kept {S : Nat → Prop} {w w' : World} {b : Blob} (h : b.ok w) (hk : Kept S w w') (hn : ∀ a, b.A = some a → b.l.map byteV ≠ [] → ¬ S a.block) : b.ok w' := Kept.cs h hk hn
theorem rowB_grow {α : Type} [Inhabited α] (enc : α → Value) (w : World) (g : Nat) (m : Nat) (dk d0 : Array α) (os : Array Obj) (hg : g < w.heap.size) (hH : Sort.Holds enc w g 0 d0) (hs : dk.size = d0.size) :
    Sort.Holds enc (sortWorld enc w g 0 m dk os) g 0 dk := by
  have hH2 : Sort.Holds enc (Sort.ahead w m) g 0 d0 := hH
  have h := Sort.holds_putRow enc (Sort.ahead w m) g 0 d0 dk hH2 hs
  unfold sortWorld
  exact Sort.holds_grow enc _ os g 0 dk (by simpa [Sort.putRow, Sort.mapBlock, Sort.ahead] using hg) h
theorem shape_sortWorld {α : Type} [Inhabited α] (enc : α → Value) (w : World) (g m : Nat) (dk : Array α) (os : Array Obj) {cs : Array Value} {e : TypeId} {fr : Nat × Nat} (h : w.heap[g]? = some (.cells cs e fr)) :
    ∃ cs', (sortWorld enc w g 0 m dk os).heap[g]? = some (.cells cs' e fr) ∧ cs'.size = cs.size := by
  unfold sortWorld
  refine ⟨Sort.putCells enc 0 dk cs, ?_, ?_⟩
  · rw [Sort.heap_grow_old _ _ (by have := lt_block h; simpa [Sort.putRow, Sort.mapBlock, Sort.ahead] using this)]
    simp [Sort.putRow, Sort.mapBlock, Sort.ahead, Array.getElem?_modify, h, Sort.onCells]
  · simp [Sort.putCells]
theorem extract_full {α : Type} (d : Array α) (n : Nat) (h : d.size = n) : d.extract 0 n = d := by
  subst h
  exact Array.extract_size
theorem SortB (g cap : Nat) (bs : List Blob) (w : World) (hr : RowB w g bs) (hg : g < w.heap.size) (hok : ∀ b ∈ bs, b.ok w) (hne : ∀ b ∈ bs, Apart g b) (hl : bs.length ≤ 1000000) (h0 : bs ≠ []) :
    Calls Tryz.prog 98 #[.slice (some ⟨g, 0, none⟩) bs.length cap, .func (.func 99) #[] #[]] w fun e w' =>
      e = .returned (.tuple #[]) ∧ Kept (fun b => b = g) w w' ∧ ∃ cs, cs.Perm bs ∧ cs.Pairwise (fun a b => ¬ ltB b.l a.l) ∧ RowB w' g cs ∧ (∀ cs e fr, w.heap[g]? = some (.cells cs e fr) → ∃ cs', w'.heap[g]? = some (.cells cs' e fr) ∧ cs'.size = cs.size) := by
  have hpos : 0 < bs.length := List.length_pos_iff.2 h0
  letI : Inhabited (Fin bs.length) := ⟨⟨0, hpos⟩⟩
  let d : Array (Fin bs.length) := (List.finRange bs.length).toArray
  have hds : d.size = bs.length := by simp [d]
  have hdj : ∀ j (hj : j < bs.length), d[j]! = ⟨j, hj⟩ := by
    intro j hj
    rw [getElem!_pos d j (by omega)]
    simp [d]
  have hH : Sort.Holds (fun i : Fin bs.length => (bs[i]).v) w g 0 d := by
    intro j hj
    rw [hds] at hj
    rw [hdj j hj, Nat.zero_add]
    exact hr j _ (List.getElem?_eq_getElem hj)
  have hS := Any.slices_SortFunc Tryz.sortB (fun i : Fin bs.length => (bs[i]).v) (fun _ => rfl) (fun i j => Lib.compareBytes (bs[i]).l (bs[j]).l) (swoB fun i : Fin bs.length => (bs[i]).l) 99 #[] g 0 cap d w ent99 ?_ hH hg (by omega)
  · rw [hds] at hS
    refine hS.mono ?_
    rintro e w' ⟨rfl, d', n, os, hp, hs, rfl⟩
    have hd' : d'.size = bs.length := hp.1.trans hds
    have hfull : d'.extract 0 bs.length = d' := extract_full d' _ hd'
    have hfull2 : d.extract 0 bs.length = d := extract_full d _ hds
    have hperm : d'.toList.Perm (List.finRange bs.length) := by
      have h3 := hp.2.2
      rw [hfull, hfull2] at h3
      simpa [d] using h3
    refine ⟨rfl, kept_sortWorld _ w g n d' os, d'.toList.map (fun i => bs[i]), ?_, ?_, ?_, fun cs e fr h => shape_sortWorld _ w g n d' os h⟩
    · have h4 := hperm.map (fun i : Fin bs.length => bs[i])
      have h5 : (List.finRange bs.length).map (fun i : Fin bs.length => bs[i]) = bs := by
        apply List.ext_getElem
        · simp
        · intro i h1 h2
          simp
      rw [h5] at h4
      exact h4
    · rw [List.pairwise_map]
      rw [List.pairwise_iff_getElem]
      intro i j hi hj hij
      have hi2 : i < d'.size := by simpa using hi
      have hj2 : j < d'.size := by simpa using hj
      have h6 := hs i j (Nat.zero_le _) hij (by omega)
      rw [getElem!_pos d' j hj2, getElem!_pos d' i hi2] at h6
      unfold ltB
      simp [ltOf] at h6
      simp only [Array.getElem_toList]
      simpa using h6
    · have hH2 := rowB_grow (fun i : Fin bs.length => (bs[i]).v) w g n d' d os hg hH (by omega)
      intro i b hb
      have hi : i < d'.size := by
        have := (List.getElem?_eq_some_iff.1 hb).1
        simpa using this
      have h7 := hH2 i hi
      rw [Nat.zero_add, getElem!_pos d' i hi] at h7
      have h8 : b = bs[d'[i]] := by
        simp [hi] at hb
        exact hb.symm
      rw [h8]
      exact h7
  · intro m os dk hk x y
    have hk := kept_sortWorld (fun i : Fin bs.length => (bs[i]).v) w g m dk os
    have hx : (bs[x]).ok (sortWorld (fun i : Fin bs.length => (bs[i]).v) w g 0 m dk os) := Blob.kept (hok _ (List.getElem_mem _)) hk (fun a h1 h2 => hne _ (List.getElem_mem _) a h1 h2)
    have hy : (bs[y]).ok (sortWorld (fun i : Fin bs.length => (bs[i]).v) w g 0 m dk os) := Blob.kept (hok _ (List.getElem_mem _)) hk (fun a h1 h2 => hne _ (List.getElem_mem _) a h1 h2)
    refine (BCompare _ _ _ _ _ _ _ hx hy).mono fun e w' h => ?_
    obtain ⟨h1, h2⟩ := h
    refine ⟨h1, 0, #[], ?_⟩
    rw [Sort.grow_empty]
    exact h2.symm
theorem SortB0 (A : Option Addr) (cap : Nat) (w : World) :
    Calls Tryz.prog 98 #[.slice A 0 cap, .func (.func 99) #[] #[]] w fun e w' => e = .returned (.tuple #[]) ∧ w' = w := AnyF.slices_SortFunc_none { Tryz.sortB with } A cap _ w
end Nm
end Go.Proofs.YtkeimgamjnpcbaaGreat

/- A region that draws its order: laws that serve most. -/
namespace Go.Proofs.YtkeimgamjnpcbaaGreat
open Go.RowKit
set_option linter.unusedVariables false
set_option linter.unusedSimpArgs false
namespace Nm
theorem kills_none (bd : Edge → Bool) (ops : Array Oper) : killsX bd ops (fun _ _ => false) = true := by
  unfold killsX
  simp
/-- a region that draws, under whatever relations, values' facts of one value each -/
theorem wp_region_r2 {P : Program} {ops : Array Oper} {id : Nat} {Q : Exit → Act → World → Prop} {a0 : Act} {w0 : World} (hm : P.follows .mixedOrders = true) (hB : relB2 ops = true)
    (kills : Nat → Nat → Bool) (hkB : killsX bindD ops kills = true) (T : Nat → World → World → Prop) (C : World → Prop) (R : Nat → Value → World → Prop)
    (I0 : World → Prop) (kills0 : Nat → Bool) (hI0 : I0 { w0 with drawn := w0.drawn + 1 }) (hIst : ∀ i W W', kills0 i = false → C W → I0 W → T i W W' → I0 W')
    (hC0 : C { w0 with drawn := w0.drawn + 1 }) (hC : ∀ i W W', C W → T i W W' → C W')
    (hR : ∀ i j v W W', i ≠ j → kills i j = false → waitsT ops ops.size j i = false → C W → R j v W → T i W W' → R j v W')
    (step : ∀ i o, ops[i]? = some o → ∀ vals W, C W → (∀ e ∈ o.after, bindD e = true → R e.on (vals e.on) W) → ((∀ k, k < ops.size → kills0 k = true → k = i ∨ waitsT ops ops.size k i = true) → I0 W) →
      opYield P ops o (relAct ops a0 (fun _ => true) vals i) W (fun v W' => T i W W' ∧ R i v W'))
    (hend : ∀ vals W, C W → (∀ j, j < ops.size → (∀ i, i < ops.size → kills i j = false) → R j (vals j) W) → Q .normal (relAct ops a0 (fun _ => true) vals ops.size) W) :
    (Code.region id ops true).wp P Q a0 w0 := by
  refine wp_region_t bindD (fun e h => bindD_binds h) hm hB kills hkB T C (fun j vals W => R j (vals j) W) (fun j vals i v W hij _ h => ?_) I0 kills0 hI0 hIst hC0 hC (fun i j v W W' h1 h2 h3 h4 h5 h6 => hR i j (v j) W W' h1 h2 h3 h4 h5 h6) ?_ hend
  · simp only
    rw [if_neg (fun h => hij h.symm)]
    exact h
  · intro i o hio vals W hC haf hI
    refine opYield_mono ?_ (step i o hio vals W hC haf hI)
    intro v W' h
    simpa using h
/-- a region that draws and writes nothing that was there, assigns or none -/
theorem wp_region_m2 {P : Program} {ops : Array Oper} {id : Nat} {Q : Exit → Act → World → Prop} {a0 : Act} {w0 : World} (hm : P.follows .mixedOrders = true) (hB : relB2 ops = true) (fs : List Fact)
    (step : ∀ i o, ops[i]? = some o → ∀ vals W, Ext w0 W → (∀ e ∈ o.after, bindD e = true → (factAt fs e.on).p (vals e.on) W) →
      opYield P ops o (relAct ops a0 (fun _ => true) vals i) W (fun v W' => Ext W W' ∧ (factAt fs i).p v W'))
    (hend : ∀ vals W, Ext w0 W → (∀ j, j < ops.size → (factAt fs j).p (vals j) W) → Q .normal (relAct ops a0 (fun _ => true) vals ops.size) W) :
    (Code.region id ops true).wp P Q a0 w0 :=
  wp_region_r2 hm hB (fun _ _ => false) (kills_none _ _) (fun _ W W' => Ext W W') (fun W => Ext w0 W) (fun j v W => (factAt fs j).p v W) (fun _ => True) (fun _ => false) trivial (fun _ _ _ _ _ _ _ => trivial)
    ⟨rfl, rfl, rfl, Nat.le_refl _, fun _ _ => rfl⟩ (fun i W W' h1 h2 => Ext.trans h1 h2) (fun i j v W W' _ _ _ _ h1 h2 => (factAt fs j).st v W W' h2 h1)
    (fun i o hio vals W hC haf _ => step i o hio vals W hC haf) (fun vals W hC hR => hend vals W hC (fun j hj => hR j hj (fun _ _ => rfl)))
theorem less16 (x y : Nat) (w : World) : Calls Tryz.prog 206 #[.int .u16 x, .int .u16 y] w fun e w' => e = .returned (.bool (decide (x < y))) ∧ w' = w := by
  go_enter Tryz.func206, Tryz.ntmps206
  go_wp2
  go_ret
  exact ⟨rfl, rfl⟩
end Nm
end Go.Proofs.YtkeimgamjnpcbaaGreat

/- name.Compare, and how the count of draws goes; slices.SortFunc at names by it: some permutation, in order. -/
namespace Go.Proofs.YtkeimgamjnpcbaaGreat
open Go.RowKit
set_option linter.unusedVariables false
set_option linter.unusedSimpArgs false
/-- new memory alone, and no draw is taken back -/
def ExtD (w W : World) : Prop := Below w.heap.size w W ∧ w.drawn ≤ W.drawn
theorem ExtD.refl (w : World) : ExtD w w := ⟨Below.refl _ _, Nat.le_refl _⟩
theorem ExtD.trans {a b c : World} (h : ExtD a b) (k : ExtD b c) : ExtD a c := ⟨h.1.trans (k.1.mono h.1.size), Nat.le_trans h.2 k.2⟩
theorem ExtD.grow {w W : World} (h : ExtD w W) : ∃ q os, W = Sort.grow (w.drewN q) os := by
  obtain ⟨⟨h1, h2, h3, h4, h5⟩, h6⟩ := h
  refine ⟨W.drawn - w.drawn, W.heap.extract w.heap.size W.heap.size, ?_⟩
  obtain ⟨heap, tape, drawn, os, output⟩ := W
  obtain ⟨heap0, tape0, drawn0, os0, output0⟩ := w
  simp only at h1 h2 h3 h4 h5 h6
  subst h1 h2 h3
  unfold Sort.grow World.drewN
  simp only [World.mk.injEq, true_and, and_true]
  refine ⟨?_, by omega⟩
  apply Array.ext_getElem?
  intro k
  rw [Array.getElem?_append]
  split
  · exact h5 k (by assumption)
  · rename_i hk
    rw [Array.getElem?_extract]
    simp only [Nat.min_self]
    split
    · congr 1; omega
    · rw [Array.getElem?_eq_none (by omega)]
namespace Nm
theorem wp_region_d {P : Program} {ops : Array Oper} {id : Nat} {Q : Exit → Act → World → Prop} {a0 : Act} {w0 : World} (hm : P.follows .mixedOrders = true) (hB : relB2 ops = true) (fs : List Fact)
    (step : ∀ i o, ops[i]? = some o → ∀ vals W, ExtD w0 W → (∀ e ∈ o.after, bindD e = true → (factAt fs e.on).p (vals e.on) W) →
      opYield P ops o (relAct ops a0 (fun _ => true) vals i) W (fun v W' => ExtD W W' ∧ (factAt fs i).p v W'))
    (hend : ∀ vals W, ExtD w0 W → (∀ j, j < ops.size → (factAt fs j).p (vals j) W) → Q .normal (relAct ops a0 (fun _ => true) vals ops.size) W) :
    (Code.region id ops true).wp P Q a0 w0 :=
  wp_region_r2 hm hB (fun _ _ => false) (kills_none _ _) (fun _ W W' => ExtD W W') (fun W => ExtD w0 W) (fun j v W => (factAt fs j).p v W) (fun _ => True) (fun _ => false) trivial (fun _ _ _ _ _ _ _ => trivial)
    ⟨⟨rfl, rfl, rfl, Nat.le_refl _, fun _ _ => rfl⟩, Nat.le_succ _⟩ (fun i W W' h1 h2 => ExtD.trans h1 h2) (fun i j v W W' _ _ _ _ h1 h2 => (factAt fs j).st v W W' h2.1 h1)
    (fun i o hio vals W hC haf _ => step i o hio vals W hC haf) (fun vals W hC hR => hend vals W hC (fun j hj => hR j hj (fun _ _ => rfl)))
/-- the bytes of a text, laid in a block of their own -/
theorem bytes_ofD (w : World) (l : Lab) : ∃ (w' : World) (cap : Nat) (cs : Array Value) (fr : Nat × Nat), (convert 9 31 (.string (strB l))).run Tryz.prog w = .ok (.slice (some ⟨w.heap.size, 0, none⟩) l.length cap) w' ∧ l.length ≤ cap ∧
    ExtD w w' ∧ w.heap.size < w'.heap.size ∧ w'.heap[w.heap.size]? = some (.cells cs 5 fr) ∧ cs.toList.take l.length = l.map byteV ∧ l.length ≤ fr.1 := by
  obtain ⟨w', cap, cs, fr, h1, h2, h3, h4, h5, h6, h7⟩ := bytes_of w l
  refine ⟨w', cap, cs, fr, h1, h2, ⟨h3, ?_⟩, h4, h5, h6, h7⟩
  have h := run_bytes_of_string (P := Tryz.prog) w 9 31 5 (strB l) Tryz.underlying9 Tryz.underlying31 Tryz.underlying5
  rw [strB_size] at h
  have e := h1.symm.trans h
  injection e with _ e
  rw [e]
  exact Nat.le_succ _
def SmallD (l : Lab) (w : World) (fr : Nat × Nat) (i : Value) (wr : World) : Prop :=
  ∃ (k : Nat) (cs : Array Value), k ≤ l.length ∧ i = .int .i64 k ∧ wr.heap[w.heap.size]? = some (.cells cs 5 fr) ∧ cs.toList.take l.length = (half l k).map byteV ∧ ExtD w wr
set_option maxHeartbeats 1000000 in
theorem smallD (l : Lab) (w : World) (hl : l.length ≤ 1000000) : Calls Tryz.prog 95 #[.string (strB l)] w fun e w' => e = .returned (.string (strB (low l))) ∧ ExtD w w' := by
  obtain ⟨w1, cap, cs, fr, hrun, hcap, hb1, hs1, hblk, htake, hfr⟩ := bytes_ofD w l
  go_enter Tryz.func95, Tryz.ntmps95
  go_wp2_with fail
  have HB := Lib.hid hblk
  have HT := Lib.hid htake
  clear hblk htake hrun
  go_loopw [10] (SmallD l w fr) (fun i _ => l.length - (intOf i).toNat)
  case atStart => exact ⟨0, cs, Nat.zero_le _, rfl, HB.out, by rw [half_zero]; exact HT.out, hb1⟩
  case round =>
    obtain ⟨k, cs, hk, rfl, hblk, htake, hbw⟩ := hrel
    have HB := Lib.hid hblk
    have HT := Lib.hid htake
    have ht2 : cs.toList.take (half l k).length = (half l k).map byteV := by rw [half_len]; exact htake
    by_cases hlt : k < l.length
    · have hk2 : k < (half l k).length := by rw [half_len]; exact hlt
      have hc := blk_cell hblk ht2 hk2
      rw [half_at hlt] at hc
      have hz := blk_frozen (i := k) hblk (by omega)
      clear hblk htake
      generalize hce : l[k] = c at *
      have HCE := Lib.hid hce
      have HT2 := Lib.hid ht2
      clear hce ht2
      by_cases hu : 65 ≤ c.toNat ∧ c.toNat ≤ 90
      · obtain ⟨hu1, hu2⟩ := hu
        have hset := blk_set (i := k) HB.out HT2.out (lowB c)
        rw [half_set hlt (lowB c) (by rw [HCE.out])] at hset
        have hbl : byteV (lowB c) = .int .u8 ((c.toNat : Int) + 32) := by
          unfold byteV lowB
          rw [if_pos ⟨hu1, hu2⟩, UInt8.toNat_add]
          have : (32 : UInt8).toNat = 32 := rfl
          congr 1; omega
        rw [hbl] at hset
        have HS := Lib.hid hset
        clear hset hbl
        have hu1' : (65 : Int) ≤ (c.toNat : Int) := by omega
        have hu2' : (c.toNat : Int) ≤ 90 := by omega
        go_wp2_with fail
        refine ⟨⟨k + 1, cs.setIfInBounds k (.int .u8 ((c.toNat : Int) + 32)), by omega, by go_num, ?_, ?_, ⟨hbw.1.setCell (Nat.le_refl _) _, hbw.2⟩⟩, by simp [intOf]; omega⟩
        · have e : (c.toNat : Int) + 97 - 65 = (c.toNat : Int) + 32 := by omega
          rw [e]; exact HS.out.1
        · have := HS.out.2; rw [half_len] at this; exact this
      · have hkeep := half_keep hlt (by rw [HCE.out]; unfold lowB; rw [if_neg hu])
        have HK := Lib.hid hkeep
        have hc256 : c.toNat < 256 := UInt8.toNat_lt c
        clear hkeep
        by_cases h1 : 65 ≤ c.toNat
        · have hu1' : (65 : Int) ≤ (c.toNat : Int) := by omega
          have hu2' : (90 : Int) < (c.toNat : Int) := by omega
          clear hu
          go_wp2_with fail
          exact ⟨⟨k + 1, cs, by omega, by go_num, HB.out, by rw [← HK.out]; exact HT.out, hbw⟩, by simp [intOf]; omega⟩
        · have hu1' : (c.toNat : Int) < 65 := by omega
          clear hu h1
          go_wp2_with fail
          exact ⟨⟨k + 1, cs, by omega, by go_num, HB.out, by rw [← HK.out]; exact HT.out, hbw⟩, by simp [intOf]; omega⟩
    · have hkl : k = l.length := by omega
      subst hkl
      have hcs := blk_cs hblk ht2
      rw [half_all] at hcs
      have hcv := run_str (P := Tryz.prog) wr Tryz.underlying31 Tryz.underlying5 Tryz.underlying9 cap hcs
      rw [low_len] at hcv
      clear hblk htake ht2 hcs
      go_wp2_with fail
      go_ret
      exact ⟨rfl, hbw⟩
def CmpD (a b : List Lab) (w : World) (i : Value) (wr : World) : Prop :=
  ∃ j : Nat, j ≤ a.length ∧ j ≤ b.length ∧ i = .int .i64 j ∧ cmpN a b = cmpR (a.reverse.drop j) (b.reverse.drop j) ∧ ExtD w wr
set_option maxRecDepth 100000 in
set_option maxHeartbeats 20000000 in
theorem CompareD (A B : Option Addr) (a b : List Lab) (ca cb : Nat) (w : World) (hca : Cs w A (a.map strV)) (hcb : Cs w B (b.map strV)) (ha : Few a) (hb : Few b) :
    Calls Tryz.prog 77 #[.slice A a.length ca, .slice B b.length cb] w fun e w' => e = .returned (.int .i64 (cmpN a b)) ∧ ExtD w w' := by
  have hla := ha.1
  have hlb := hb.1
  have HA := Lib.hid hca
  have HB := Lib.hid hcb
  have HF := Lib.hid ha
  have HG := Lib.hid hb
  clear hca hcb ha hb
  go_enter Tryz.func77, Tryz.ntmps77
  go_wp2_with fail
  go_loopw [12] (CmpD a b w) (fun i _ => a.length - (intOf i).toNat)
  case atStart => exact ⟨0, Nat.zero_le _, Nat.zero_le _, rfl, rfl, ExtD.refl _⟩
  case round =>
    obtain ⟨j, hja, hjb, rfl, hcmp, hbel⟩ := hrel
    have HC := Lib.hid hcmp
    clear hcmp
    by_cases hlt : j < a.length ∧ j < b.length
    · obtain ⟨h1, h2⟩ := hlt
      have hm1 : a.length - 1 - j < a.length := by omega
      have hm2 : b.length - 1 - j < b.length := by omega
      obtain ⟨ba, oa, rfl, hba, hxa⟩ := Cs.str HA.out hm1
      obtain ⟨bb, ob, rfl, hbb, hxb⟩ := Cs.str HB.out hm2
      have HS := Lib.hid (cmpR_step h1 h2)
      have wa : IntKind.i64.wrap ((a.length : Int) - 1) = (a.length : Int) - 1 := IntWalk.i64_in _ (by omega)
      have wb : IntKind.i64.wrap ((b.length : Int) - 1) = (b.length : Int) - 1 := IntWalk.i64_in _ (by omega)
      have wa2 : IntKind.i64.wrap ((a.length : Int) - 1 - j) = ((a.length - 1 - j : Nat) : Int) := by rw [IntWalk.i64_in _ (by omega)]; omega
      have wb2 : IntKind.i64.wrap ((b.length : Int) - 1 - j) = ((b.length - 1 - j : Nat) : Int) := by rw [IntWalk.i64_in _ (by omega)]; omega
      have s1 := HF.out.2 _ (List.getElem_mem hm1)
      have s2 := HG.out.2 _ (List.getElem_mem hm2)
      generalize a[a.length - 1 - j] = x at *
      generalize b[b.length - 1 - j] = y at *
      go_wp2_with fail
      have hxa1 := (hbel.1.cell (p := ⟨ba, oa + (a.length - 1 - j), none⟩) hba).trans hxa
      have hxb1 := (hbel.1.cell (p := ⟨bb, ob + (b.length - 1 - j), none⟩) hbb).trans hxb
      have hbs := hbel.1.size
      refine wp_region_d mixed0 (by kernel_rfl) [.is (.slice (some ⟨ba, oa, none⟩) a.length ca), .is (.slice (some ⟨ba, oa, none⟩) a.length ca), .is (.int .i64 a.length), .is (.int .i64 ((a.length : Int) - 1)), .is (.int .i64 j), .is (.int .i64 (a.length - 1 - j : Nat)),
        .is (.pointer (some ⟨ba, oa + (a.length - 1 - j), none⟩)), .is (.string (strB x)), .is (.string (strB (low x))),
        .is (.slice (some ⟨bb, ob, none⟩) b.length cb), .is (.slice (some ⟨bb, ob, none⟩) b.length cb), .is (.int .i64 b.length), .is (.int .i64 ((b.length : Int) - 1)), .is (.int .i64 j), .is (.int .i64 (b.length - 1 - j : Nat)),
        .is (.pointer (some ⟨bb, ob + (b.length - 1 - j), none⟩)), .is (.string (strB y)), .is (.string (strB (low y))), .is (.int .i64 (Lib.compareBytes (low x) (low y))), .is (.int .i64 (Lib.compareBytes (low x) (low y)))] ?_ ?_
      · intro i o hio vals W hE haf
        have e0 := (bcl hE.1 (by omega)).trans hxa1
        have e1 := (bcl hE.1 (by omega)).trans hxb1
        clear hxa hxa1 hxb hxb1
        rcases i with _ | _ | _ | _ | _ | _ | _ | _ | _ | _ | _ | _ | _ | _ | _ | _ | _ | _ | _ | _ | i
        all_goals first
          | (exfalso; simp at hio; done)
          | (simp at hio; subst hio; simp [bindD, rdB, Region.binds, factAt] at haf; simp [opYield_def, yieldUpon, relAct, dstAt, Act.put, Region.wanted, go_sem, haf, e0, e1, ExtD.refl, factAt, wa, wb, wa2, wb2, hm1, hm2]; done)
          | skip
        all_goals
          simp at hio
          subst hio
          simp [bindD, rdB, Region.binds, factAt] at haf
          simp [opYield_def, yieldUpon, relAct, dstAt, Act.put, Region.wanted, go_sem, haf, factAt]
        · exact (smallD x W (by omega)).mono fun e W' h => h
        · exact (smallD y W (by omega)).mono fun e W' h => h
        · exact (strCompare (low x) (low y) W).mono fun e W' h => ⟨h.1, h.2 ▸ ExtD.refl _⟩
      · intro vals W hE hF
        have h19 := hF 19 (by show 19 < 20; omega)
        simp [factAt] at h19
        simp [relAct, dstAt, Act.put, h19]
        clear hF h19
        generalize vals 0 = p0
        generalize vals 1 = p1
        generalize vals 2 = p2
        generalize vals 3 = p3
        generalize vals 4 = p4
        generalize vals 5 = p5
        generalize vals 6 = p6
        generalize vals 7 = p7
        generalize vals 8 = p8
        generalize vals 9 = p9
        generalize vals 10 = p10
        generalize vals 11 = p11
        generalize vals 12 = p12
        generalize vals 13 = p13
        generalize vals 14 = p14
        generalize vals 15 = p15
        generalize vals 16 = p16
        generalize vals 17 = p17
        generalize vals 18 = p18
        have hb5 := hbel.trans hE
        generalize Lib.compareBytes (low x) (low y) = c at *
        by_cases hc0 : c = 0
        · have hcb : (c == 0) = true := by simp [hc0]
          have hcb2 : (c != 0) = false := by simp [hc0]
          have HS2 := Lib.hid hc0
          clear hc0
          go_wp2_with fail
          exact ⟨⟨j + 1, h1, h2, by go_num, by rw [HC.out, HS.out, if_pos HS2.out], hb5⟩, by simp [intOf]; omega⟩
        · have hcb : (c == 0) = false := by simp [hc0]
          have hcb2 : (c != 0) = true := by simp [hc0]
          go_wp2_with fail
          go_ret
          exact ⟨ret_int (by rw [HC.out, HS.out, if_neg hc0]), hb5⟩
    · have HE := Lib.hid (cmpR_end hlt hja hjb)
      have hmin : ¬ (j : Int) < min (a.length : Int) (b.length : Int) := by omega
      by_cases h1 : a.length < b.length
      · have HV : Hid (cmpN a b = -1) := Lib.hid (by rw [HC.out, HE.out, if_pos h1])
        clear HC HE
        go_wp2_with fail
        go_ret
        exact ⟨ret_int HV.out.symm, hbel⟩
      · by_cases h2 : b.length < a.length
        · have HV : Hid (cmpN a b = 1) := Lib.hid (by rw [HC.out, HE.out, if_neg h1, if_pos h2])
          clear HC HE
          go_wp2_with fail
          go_ret
          exact ⟨ret_int HV.out.symm, hbel⟩
        · have HV : Hid (cmpN a b = 0) := Lib.hid (by rw [HC.out, HE.out, if_neg h1, if_neg h2])
          clear HC HE
          go_wp2_with fail
          go_ret
          exact ⟨ret_int HV.out.symm, hbel⟩
/-- names held against one another: an order, whatever their capitals -/
theorem cmpR_flip : ∀ a b : List Lab, cmpR a b = - cmpR b a
  | [], [] => rfl
  | [], _ :: _ => rfl
  | _ :: _, [] => rfl
  | x :: a, y :: b => by
    unfold cmpR
    have h := cb_flip (low x) (low y)
    by_cases e : Lib.compareBytes (low x) (low y) = 0
    · have e2 : Lib.compareBytes (low y) (low x) = 0 := by omega
      rw [if_pos e, if_pos e2]
      exact cmpR_flip a b
    · have e2 : ¬ Lib.compareBytes (low y) (low x) = 0 := by omega
      rw [if_neg e, if_neg e2]
      exact h
theorem cmpR_trans : ∀ a b c : List Lab, cmpR a b < 0 → cmpR b c < 0 → cmpR a c < 0
  | [], [], _, h, _ => by simp [cmpR] at h
  | [], _ :: _, [], _, h => by simp [cmpR] at h
  | [], _ :: _, _ :: _, _, _ => by simp [cmpR]
  | _ :: _, [], _, h, _ => by simp [cmpR] at h
  | _ :: _, _ :: _, [], _, h => by simp [cmpR] at h
  | x :: a, y :: b, z :: c, h1, h2 => by
    unfold cmpR at h1 h2 ⊢
    have t1 := cb_trans (low x) (low y) (low z)
    by_cases e1 : Lib.compareBytes (low x) (low y) = 0
    · rw [if_pos e1] at h1
      have ex := (cb_zero _ _).1 e1
      rw [ex]
      by_cases e2 : Lib.compareBytes (low y) (low z) = 0
      · rw [if_pos e2] at h2 ⊢
        exact cmpR_trans a b c h1 h2
      · rw [if_neg e2] at h2 ⊢
        exact h2
    · rw [if_neg e1] at h1
      by_cases e2 : Lib.compareBytes (low y) (low z) = 0
      · have ez := (cb_zero _ _).1 e2
        rw [← ez, if_neg e1]
        exact h1
      · rw [if_neg e2] at h2
        have := t1 h1 h2
        rw [if_neg (by omega)]
        exact this
theorem cmpN_flip (a b : List Lab) : cmpN a b = - cmpN b a := cmpR_flip _ _
theorem cmpN_trans (a b c : List Lab) (h1 : cmpN a b < 0) (h2 : cmpN b c < 0) : cmpN a c < 0 := cmpR_trans _ _ _ h1 h2
theorem low_cmpR : ∀ a b : List Lab, cmpR (lower a) b = cmpR a b
  | [], [] => rfl
  | [], _ :: _ => rfl
  | _ :: _, [] => rfl
  | x :: a, y :: b => by
    show cmpR (low x :: lower a) (y :: b) = _
    unfold cmpR
    rw [low_idem, low_cmpR a b]
theorem cmpN_lower (a b : List Lab) : cmpN (lower a) b = cmpN a b := by
  have : (lower a).reverse = lower a.reverse := by simp [lower]
  unfold cmpN
  rw [this, low_cmpR]
theorem cmpN_lower2 (a b : List Lab) : cmpN a (lower b) = cmpN a b := by rw [cmpN_flip, cmpN_lower, ← cmpN_flip]
theorem cmpN_eq {a b : List Lab} (h : cmpN a b = 0) (c : List Lab) : cmpN a c = cmpN b c := by
  rw [← cmpN_lower a, ← cmpN_lower b, (cmpN_zero a b).1 h]
theorem swoN {α : Type} (f : α → List Lab) : Sort.SWO (ltOf fun a b => cmpN (f a) (f b)) where
  irrefl := fun x => by
    have := (cmpN_zero (f x) (f x)).2 rfl
    simp [ltOf]
    omega
  trans := fun x y z h1 h2 => by
    simp [ltOf] at h1 h2 ⊢
    exact cmpN_trans _ _ _ h1 h2
  ntrans := fun x y z h1 h2 => by
    simp [ltOf] at h1 h2 ⊢
    have a := cmpN_flip (f x) (f y)
    have b := cmpN_flip (f y) (f z)
    have c := cmpN_flip (f x) (f z)
    by_cases e1 : cmpN (f x) (f y) = 0
    · rw [cmpN_eq e1]
      exact h2
    · by_cases e2 : cmpN (f y) (f z) = 0
      · have := cmpN_eq e2 (f x)
        omega
      · have := cmpN_trans (f z) (f y) (f x) (by omega) (by omega)
        omega
/-- a name as a slice -/
structure NmB where
  A : Option Addr
  l : List Lab
  cap : Nat
def NmB.v (b : NmB) : Value := .slice b.A b.l.length b.cap
def NmB.ok (w : World) (b : NmB) : Prop := Cs w b.A (b.l.map strV)
def RowN (w : World) (g : Nat) (bs : List NmB) : Prop := ∀ i b, bs[i]? = some b → w.cell? ⟨g, i, none⟩ = some b.v ∧ w.frozen? ⟨g, i, none⟩ = false
def ApartN (g : Nat) (b : NmB) : Prop := ∀ a, b.A = some a → b.l.map strV ≠ [] → a.block ≠ g
theorem entCmp (args : Array Value) (w : World) : (callFunc 77 args).run Tryz.prog w = .ok (.enter 77 args) w := (enters_of Tryz.func77 (by kernel_rfl) rfl) args w
theorem SortNG (g cap : Nat) (bs : List NmB) (w : World) (hr : RowN w g bs) (hg : g < w.heap.size) (hok : ∀ b ∈ bs, b.ok w) (hne : ∀ b ∈ bs, ApartN g b) (hf : ∀ b ∈ bs, Few b.l) (hl : bs.length ≤ 1000000) (h0 : bs ≠ []) :
    Calls Tryz.prog 76 #[.slice (some ⟨g, 0, none⟩) bs.length cap, .func (.func 77) #[] #[]] w fun e w' =>
      e = .returned (.tuple #[]) ∧ Kept (fun b => b = g) w w' ∧ ∃ cs, cs.Perm bs ∧ cs.Pairwise (fun a b => ¬ cmpN b.l a.l < 0) ∧ RowN w' g cs ∧ (∀ cs e fr, w.heap[g]? = some (.cells cs e fr) → ∃ cs', w'.heap[g]? = some (.cells cs' e fr) ∧ cs'.size = cs.size) := by
  have hpos : 0 < bs.length := List.length_pos_iff.2 h0
  letI : Inhabited (Fin bs.length) := ⟨⟨0, hpos⟩⟩
  let d : Array (Fin bs.length) := (List.finRange bs.length).toArray
  have hds : d.size = bs.length := by simp [d]
  have hdj : ∀ j (hj : j < bs.length), d[j]! = ⟨j, hj⟩ := by
    intro j hj
    rw [getElem!_pos d j (by omega)]
    simp [d]
  have hH : Sort.Holds (fun i : Fin bs.length => (bs[i]).v) w g 0 d := by
    intro j hj
    rw [hds] at hj
    rw [hdj j hj, Nat.zero_add]
    exact hr j _ (List.getElem?_eq_getElem hj)
  have hS := Any.slices_SortFunc Tryz.sortNm (fun i : Fin bs.length => (bs[i]).v) (fun _ => rfl) (fun i j => cmpN (bs[i]).l (bs[j]).l) (swoN fun i : Fin bs.length => (bs[i]).l) 77 #[] g 0 cap d w entCmp ?_ hH hg (by omega)
  · rw [hds] at hS
    refine hS.mono ?_
    rintro e w' ⟨rfl, d', n, os, hp, hs, rfl⟩
    have hd' : d'.size = bs.length := hp.1.trans hds
    have hfull : d'.extract 0 bs.length = d' := extract_full d' _ hd'
    have hfull2 : d.extract 0 bs.length = d := extract_full d _ hds
    have hperm : d'.toList.Perm (List.finRange bs.length) := by
      have h3 := hp.2.2
      rw [hfull, hfull2] at h3
      simpa [d] using h3
    refine ⟨rfl, kept_sortWorld _ w g n d' os, d'.toList.map (fun i => bs[i]), ?_, ?_, ?_, fun cs e fr h => shape_sortWorld _ w g n d' os h⟩
    · have h4 := hperm.map (fun i : Fin bs.length => bs[i])
      have h5 : (List.finRange bs.length).map (fun i : Fin bs.length => bs[i]) = bs := by
        apply List.ext_getElem
        · simp
        · intro i h1 h2
          simp
      rw [h5] at h4
      exact h4
    · rw [List.pairwise_map]
      rw [List.pairwise_iff_getElem]
      intro i j hi hj hij
      have hi2 : i < d'.size := by simpa using hi
      have hj2 : j < d'.size := by simpa using hj
      have h6 := hs i j (Nat.zero_le _) hij (by omega)
      rw [getElem!_pos d' j hj2, getElem!_pos d' i hi2] at h6
      simp [ltOf] at h6
      simp only [Array.getElem_toList]
      simpa using h6
    · have hH2 := rowB_grow (fun i : Fin bs.length => (bs[i]).v) w g n d' d os hg hH (by omega)
      intro i b hb
      have hi : i < d'.size := by
        have := (List.getElem?_eq_some_iff.1 hb).1
        simpa using this
      have h7 := hH2 i hi
      rw [Nat.zero_add, getElem!_pos d' i hi] at h7
      have h8 : b = bs[d'[i]] := by
        simp [hi] at hb
        exact hb.symm
      rw [h8]
      exact h7
  · intro m os dk hk x y
    have hk := kept_sortWorld (fun i : Fin bs.length => (bs[i]).v) w g m dk os
    have hx : (bs[x]).ok (sortWorld (fun i : Fin bs.length => (bs[i]).v) w g 0 m dk os) := Kept.cs (hok _ (List.getElem_mem _)) hk (fun a h1 h2 => hne _ (List.getElem_mem _) a h1 h2)
    have hy : (bs[y]).ok (sortWorld (fun i : Fin bs.length => (bs[i]).v) w g 0 m dk os) := Kept.cs (hok _ (List.getElem_mem _)) hk (fun a h1 h2 => hne _ (List.getElem_mem _) a h1 h2)
    refine (CompareD _ _ _ _ _ _ _ hx hy (hf _ (List.getElem_mem _)) (hf _ (List.getElem_mem _))).mono fun e w' h => ?_
    exact ⟨h.1, h.2.grow⟩
theorem SortNG0 (A : Option Addr) (cap : Nat) (w : World) :
    Calls Tryz.prog 76 #[.slice A 0 cap, .func (.func 77) #[] #[]] w fun e w' => e = .returned (.tuple #[]) ∧ w' = w := AnyF.slices_SortFunc_none { Tryz.sortNm with } A cap _ w
end Nm
end Go.Proofs.YtkeimgamjnpcbaaGreat

/- slices.Insert in the midst of a zone's data. -/
namespace Go.Proofs.YtkeimgamjnpcbaaGreat
open Go.RowKit
set_option linter.unusedVariables false
set_option linter.unusedSimpArgs false
namespace Nm
theorem run_copy2 {P : Program} (w : World) (dT sT ty elem : TypeId) (g o dLen dCap : Nat) (a : Addr) (sLen sCap : Nat) (cur : Array Value) (t : TypeId) (k : Nat) (cs : List Value)
    (hu : P.underlying dT = some (.slice elem)) (hs : (P.info? elem).map (·.size) = some 2)
    (hg : w.heap[g]? = some (.cells cur t (0, 0))) (hk : Nat.min sLen dLen = k) (hn : cs.length = k * 2)
    (hsrc : ∀ j v, cs[j]? = some v → w.cell? (a.add j) = some v) (hfit : o + k * 2 ≤ cur.size) (h1 : ∀ v ∈ cs, v.oneCell' = true) :
    (Builtin.copy_ #[dT, sT] ty #[.slice (some ⟨g, o, none⟩) dLen dCap, .slice (some a) sLen sCap]).run P w =
      .ok (goInt k) (w.setRow g (cur.toList.take o ++ cs ++ cur.toList.drop (o + k * 2)).toArray) := by
  have hl := run_loadCells_list (P := P) w a cs hsrc
  have hst := run_storeCells_at P g o t cs 0 cur w hg (by simp; omega) h1
  simp only [Nat.add_zero] at hst
  rw [hn] at hst hl
  cases hq : P.info? elem with
  | none => simp [hq] at hs
  | some i =>
    have hi : i.size = 2 := by simpa [hq] using hs
    simp [Builtin.copy_, run_underlying hu, Builtin.lenOf, Builtin.firstCells, sizeOf, typeInfo, hq, hi, hk, hl, hst]
/-- a row of which the cells are said -/
theorem row2_of {w : World} {B g n cap : Nat} {cur : Array Value} {xs : List Value} (hh : w.heap[g]? = some (.cells cur 119 (0, 0))) (hB : B ≤ g) (hn : n ≤ cap) (hc : cap ≤ maxLen) (hsz : cur.size = cap * 2) (hl : xs.length = n * 2) (h : cur.toList.take (n * 2) = xs) :
    w.ownsRow B 119 2 (.slice (some ⟨g, 0, none⟩) n cap) n xs := ⟨hl, .inr ⟨g, cap, cur, rfl, hB, hh, hn, hc, hsz, h⟩⟩
/-- what stands in the room: the tail moved on by one, the new one laid in -/
theorem cur_mid (cur : List Value) (n i : Nat) (u1 u2 : Value) (hi : i < n) (hn : n * 2 + 2 ≤ cur.length) :
    let c1 := cur.take (i * 2 + 2) ++ (cur.take (n * 2)).drop (i * 2) ++ cur.drop (i * 2 + 2 + (n - i) * 2)
    let c2 := c1.take (i * 2) ++ [u1, u2] ++ c1.drop (i * 2 + 1 * 2)
    c2.length = cur.length ∧ c2.take ((n + 1) * 2) = (cur.take (n * 2)).take (i * 2) ++ [u1, u2] ++ (cur.take (n * 2)).drop (i * 2) := by
  intro c1 c2
  have hl1 : c1.length = cur.length := by simp [c1]; omega
  have ht : c1.take (i * 2) = cur.take (i * 2) := by
    simp only [c1, List.append_assoc]
    rw [List.take_append_of_le_length (by simp; omega), List.take_take]
    congr 1; omega
  have hd : c1.drop (i * 2 + 1 * 2) = (cur.take (n * 2)).drop (i * 2) ++ cur.drop (i * 2 + 2 + (n - i) * 2) := by
    simp only [c1, List.append_assoc]
    rw [List.drop_append_of_le_length (by simp; omega), List.drop_of_length_le (by simp; omega)]
    rfl
  have hc2 : c2 = cur.take (i * 2) ++ [u1, u2] ++ ((cur.take (n * 2)).drop (i * 2) ++ cur.drop (i * 2 + 2 + (n - i) * 2)) := by
    simp only [c2]; rw [ht, hd]
  have ht2 : (cur.take (n * 2)).take (i * 2) = cur.take (i * 2) := by rw [List.take_take]; congr 1; omega
  refine ⟨by rw [hc2]; simp; omega, ?_⟩
  rw [hc2, ht2, ← List.append_assoc]
  rw [List.take_append_of_le_length (by simp; omega), List.take_of_length_le (by simp; omega)]
theorem slice_from (W : World) (g n cap j : Nat) (J : Int) (hJ : J = j) (hj : j ≤ n) (hc : j < cap) (hn : n ≤ cap) : (Instr.slice 108 (.slice (some ⟨g, 0, none⟩) n cap) (some (.int .i64 J)) none none).run Tryz.prog W = .ok (.slice (some ⟨g, j * 2, none⟩) (n - j) (cap - j)) W := by
  subst hJ
  have h0 : ¬ cap = j := by omega
  simp [go_sem, h0]
  omega
/-- what stands in new memory -/
theorem cur_new (c0 xs : List Value) (n i : Nat) (u1 u2 : Value) (hi : i < n) (hx : xs.length = n * 2) (hl : n * 2 + 2 ≤ c0.length) (h0 : c0.take (i * 2) = xs.take (i * 2)) :
    let c1 := c0.take (i * 2) ++ [u1, u2] ++ c0.drop (i * 2 + 1 * 2)
    let c2 := c1.take (i * 2 + 2) ++ xs.drop (i * 2) ++ c1.drop (i * 2 + 2 + (n - i) * 2)
    c1.length = c0.length ∧ c2.length = c0.length ∧ c2.take ((n + 1) * 2) = xs.take (i * 2) ++ [u1, u2] ++ xs.drop (i * 2) := by
  intro c1 c2
  have hl1 : c1.length = c0.length := by simp [c1]; omega
  have ht : c1.take (i * 2 + 2) = xs.take (i * 2) ++ [u1, u2] := by
    simp only [c1]
    rw [h0, List.take_append_of_le_length (by simp; omega), List.take_of_length_le (by simp; omega)]
  have hc2 : c2 = (xs.take (i * 2) ++ [u1, u2] ++ xs.drop (i * 2)) ++ c1.drop (i * 2 + 2 + (n - i) * 2) := by
    simp only [c2]; rw [ht]
  refine ⟨hl1, by rw [hc2]; simp [hx, hl1]; omega, ?_⟩
  rw [hc2, List.take_append_of_le_length (by simp [hx]; omega), List.take_of_length_le (by simp [hx]; omega)]
/-- append where what it does is known -/
theorem wpList_appendE {P : Program} {ops : Array Oper} {rest : List Oper} {o : Oper} {a : Act} {Q : Exit → Act → World → Prop} {w : World} (hgd : o.guard = none) (s x : Operand) (ts : Array TypeId)
    (ho : o.op = .call { callee := .builtin .append, args := #[s, x], argTypes := ts }) {vs vx v : Value} {w' : World} (hs : a.eval s = vs) (hx : a.eval x = vx) (hr : (Builtin.append_ ts o.type #[vs, vx]).run P w = .ok v w')
    (h : wpList P ops Q rest (a.put o.dst v) w') : wpList P ops Q (o :: rest) a w := by
  refine wpList_plain hgd fun K hK => ?_
  unfold Oper.wp execOp
  simp only [ho, resolve, invoke, builtin, Sem.run_bind, Sem.run_pure, Result.andThen_ok, List.map_toArray, List.map_cons, List.map_nil, hs, hx, hr]
  exact hK _ _ h
theorem goInt_eq (k : Nat) : goInt k = .int .i64 k := rfl
set_option maxRecDepth 100000 in
set_option maxHeartbeats 8000000 in
theorem InsertRoom (B g n cap i : Nat) (xs : List Value) (ub : Nat) (u1 u2 : Value) (w : World) (cur : Array Value) (hg : w.heap[g]? = some (.cells cur 119 (0, 0))) (hgB : B ≤ g) (hcap : cap ≤ maxLen) (hsz : cur.size = cap * 2) (htk : cur.toList.take (n * 2) = xs) (hu : w.heap[ub]? = some (.cells #[u1, u2] 119 (0, 0)))
    (hub : ub ≠ g) (h1 : u1.oneCell' = true) (h2 : u2.oneCell' = true) (hxs : ∀ x ∈ xs, x.oneCell' = true) (hi : i < n) (hroom : n + 1 ≤ cap) :
    Calls Tryz.prog 73 #[.slice (some ⟨g, 0, none⟩) n cap, .int .i64 i, .slice (some ⟨ub, 0, none⟩) 1 1] w fun e w' => e = .returned (.slice (some ⟨g, 0, none⟩) (n + 1) cap) ∧ w'.ownsRow B 119 2 (.slice (some ⟨g, 0, none⟩) (n + 1) cap) (n + 1) (xs.take (i * 2) ++ [u1, u2] ++ xs.drop (i * 2)) ∧ Kept (fun k => k = g) w w' := by
  have hxl : xs.length = n * 2 := by rw [← htk]; simp; omega
  have hmid := cur_mid cur.toList n i u1 u2 hi (by simp; omega)
  rw [htk] at hmid
  have HM := Lib.hid hmid
  have hMx := hcap
  clear hmid
  unfold maxLen at hcap
  have hiw : IntKind.i64.wrap ((i : Int) + 1) = (i : Int) + 1 := by rw [IntKind.wrap_i64]; omega
  have hov : ∀ lb cb, (callFunc 113 #[.slice (some ⟨ub, 0, none⟩) 1 1, .slice (some ⟨g, (i + 1) * 2, none⟩) lb cb]).run Tryz.prog w = .ok (.value (.bool false)) w := fun lb cb => by
    rw [run_callFunc_extern Tryz.func113 (by kernel_rfl) (by kernel_rfl) (by kernel_rfl) (e := Extern.SlicesOverlaps.overlaps #[108, 108] #[4]) (by kernel_rfl),
      Lib.run_overlaps_apart w 108 4 119 Tryz.underlying108 2 (fun w => by kernel_rfl) ⟨ub, 0, none⟩ ⟨g, (i + 1) * 2, none⟩ 1 1 lb cb hub 119 119 2 (cap * 2)
        (by simp [World.shape?, hu]) (by simp [World.shape?, hg, hsz]) (by omega) (by simp [World.frozen?, hu]) (by simp [World.frozen?, hu])]
    rfl
  have hHg := Lib.hid hg
  have hHu := Lib.hid hu
  have hHx := Lib.hid hxs
  have hHt := Lib.hid htk
  clear hg hu hxs htk
  go_enter Tryz.func73, Tryz.ntmps73
  go_wp2_with fail
  have hC1 : ∀ W : World, W.heap[g]? = some (.cells cur 119 (0, 0)) → ∀ ty, (Builtin.copy_ #[108, 108] ty #[.slice (some ⟨g, (i + 1) * 2, none⟩) (n - i) (cap - (i + 1)), .slice (some ⟨g, i * 2, none⟩) (n + 1 - i) (cap - i)]).run Tryz.prog W = .ok (goInt ((n - i : Nat) : Int)) (W.setRow g (cur.toList.take (i * 2 + 2) ++ xs.drop (i * 2) ++ cur.toList.drop (i * 2 + 2 + (n - i) * 2)).toArray) := fun W hW ty => by
    obtain ⟨i0, hi0, _, hi1, _⟩ := info_parts info_datum
    have := run_copy2 (P := Tryz.prog) W 108 108 ty 119 g ((i + 1) * 2) (n - i) (cap - (i + 1)) ⟨g, i * 2, none⟩ (n + 1 - i) (cap - i) cur 119 (n - i) (xs.drop (i * 2)) Tryz.underlying108 (by rw [hi0]; simp [hi1]) hW (by simp only [Nat.min_def]; split <;> omega) (by rw [List.length_drop, hxl]; omega)
      (fun j v hj => by
        rw [add_plain, cell_of_row _ _ _ _ _ _ hW]
        rw [List.getElem?_drop, ← hHt.out, List.getElem?_take] at hj
        split at hj
        · simpa using hj
        · cases hj) (by omega) (fun v hv => hHx.out v (List.mem_of_mem_drop hv))
    rw [show (i + 1) * 2 = i * 2 + 2 by omega] at this
    rw [show (i + 1) * 2 = i * 2 + 2 by omega]
    exact this
  generalize hc1 : cur.toList.take (i * 2 + 2) ++ xs.drop (i * 2) ++ cur.toList.drop (i * 2 + 2 + (n - i) * 2) = c1 at *
  have HC1 := Lib.hid hC1
  have hl1 : c1.length = cap * 2 := by rw [← hc1]; simp [hxl]; omega
  clear hC1 hc1
  have hgl := lt_block hHg.out
  refine wp_region_r2 mixed0 (by kernel_rfl) (fun _ _ => false) (kills_none _ _)
    (fun j W W' => if j = 8 then Kept (fun k => k = g) W W' else Ext W W') (fun W => Kept (fun k => k = g) w W)
    (fun j v W => match j with
      | 0 => v = .slice (some ⟨g, 0, none⟩) (n + 1) cap
      | 1 => v = .int .i64 i
      | 2 => v = .int .i64 1
      | 3 => v = .int .i64 ((i : Int) + 1)
      | 4 => v = .slice (some ⟨g, (i + 1) * 2, none⟩) (n - i) (cap - (i + 1))
      | 5 => v = .slice (some ⟨g, 0, none⟩) (n + 1) cap
      | 6 => v = .int .i64 i
      | 7 => v = .slice (some ⟨g, i * 2, none⟩) (n + 1 - i) (cap - i)
      | 8 => W.heap[g]? = some (.cells c1.toArray 119 (0, 0))
      | _ => True)
    (fun W => W.heap[g]? = some (.cells cur 119 (0, 0))) (fun j => j == 8) hHg.out ?_ (Kept.refl _ w).drew ?_ ?_ ?_ ?_
  · intro j W W' hk hC hI hT
    have h8 : ¬ j = 8 := by simpa using hk
    simp only [h8, if_false] at hT
    exact (hT.block g (lt_block hI)).trans hI
  · intro j W W' hC hT
    by_cases h8 : j = 8
    · simp only [h8, if_true] at hT
      exact hC.trans hT
    · simp only [h8, if_false] at hT
      exact hC.trans (Kept.mono (Kept.of_ext hT) (fun _ _ h => h.elim))
  · intro i' j v W W' hij hk hw hC hR hT
    by_cases h8 : j = 8
    · subst h8
      have h8 : ¬ i' = 8 := hij
      simp only [h8, if_false] at hT
      have hR : W.heap[g]? = some (.cells c1.toArray 119 (0, 0)) := hR
      exact (hT.block g (lt_block hR)).trans hR
    · rcases j with _ | _ | _ | _ | _ | _ | _ | _ | _ | j
      all_goals first
        | exact trivial
        | exact hR
        | exact absurd rfl h8
  · intro j o hio vals W hC haf hI0
    rcases j with _ | _ | _ | _ | _ | _ | _ | _ | _ | j
    all_goals first
      | (exfalso; simp at hio; done)
      | skip
    all_goals
      simp at hio
      subst hio
      simp [bindD, rdB, Region.binds] at haf
    all_goals first
      | (simp [opYield_def, yieldUpon, relAct, dstAt, Act.put, Region.wanted, go_sem, haf, hiw, Ext.refl]; done)
      | skip
    · have e := slice_from W g (n + 1) cap (i + 1) ((i : Int) + 1) (by omega) (by omega) (by omega) hroom
      rw [show n + 1 - (i + 1) = n - i by omega] at e
      simp [opYield_def, yieldUpon, relAct, dstAt, Act.put, Region.wanted, go_sem, haf, e, Ext.refl]
    · have e := slice_from W g (n + 1) cap i (i : Int) rfl (by omega) (by omega) hroom
      simp [opYield_def, yieldUpon, relAct, dstAt, Act.put, Region.wanted, go_sem, haf, e, Ext.refl]
    · have hI := hI0 (fun k hk hk2 => .inl (by simpa using hk2))
      have e := HC1.out W hI
      simp [opYield_def, yieldUpon, relAct, dstAt, Act.put, Region.wanted, go_sem, haf, e]
      exact ⟨(Kept.of_grown (setRow_grown W g _)).mono (fun k _ h => by cases h; rfl), setRow_block W g _ _ _ _ hI⟩
  · intro vals W hC hR
    have h8 := hR 8 (by show 8 < 9; omega) (fun _ _ => rfl)
    have h8 : W.heap[g]? = some (.cells c1.toArray 119 (0, 0)) := h8
    have hu8 := (hC.block ub (lt_block hHu.out) hub).trans hHu.out
    have hC2 : ∀ ty, (Builtin.copy_ #[108, 108] ty #[.slice (some ⟨g, i * 2, none⟩) (n + 1 - i) (cap - i), .slice (some ⟨ub, 0, none⟩) 1 1]).run Tryz.prog W = .ok (goInt ((1 : Nat) : Int)) (W.setRow g (c1.take (i * 2) ++ [u1, u2] ++ c1.drop (i * 2 + 1 * 2)).toArray) := fun ty => by
      obtain ⟨i0, hi0, _, hi1, _⟩ := info_parts info_datum
      have := run_copy2 (P := Tryz.prog) W 108 108 ty 119 g (i * 2) (n + 1 - i) (cap - i) ⟨ub, 0, none⟩ 1 1 c1.toArray 119 1 [u1, u2] Tryz.underlying108 (by rw [hi0]; simp [hi1]) h8 (by simp only [Nat.min_def]; split <;> omega) rfl
        (fun j v hj => by
          rw [add_plain, cell_of_row _ _ _ _ _ _ hu8, Nat.zero_add]
          simpa using hj) (by simp [hl1]; omega) (fun v hv => by
          rcases List.mem_cons.1 hv with rfl | hv
          · exact h1
          · rcases List.mem_cons.1 hv with rfl | hv
            · exact h2
            · cases hv)
      simpa using this
    have hm := HM.out
    have hb := setRow_block W g (c1.take (i * 2) ++ [u1, u2] ++ c1.drop (i * 2 + 1 * 2)).toArray _ _ _ h8
    have hk2 := hC.trans ((Kept.of_grown (setRow_grown W g (c1.take (i * 2) ++ [u1, u2] ++ c1.drop (i * 2 + 1 * 2)).toArray)).mono (fun k _ h => by cases h; rfl))
    have HOWN := Lib.hid (row2_of (n := n + 1) (xs := xs.take (i * 2) ++ [u1, u2] ++ xs.drop (i * 2)) hb hgB hroom hMx (by simpa using hm.1.trans (by simpa using hsz)) (by simp [hxl]; omega) hm.2)
    generalize W.setRow g (c1.take (i * 2) ++ [u1, u2] ++ c1.drop (i * 2 + 1 * 2)).toArray = W2 at *
    clear hm hb hR h8 hu8
    simp [relAct, dstAt, Act.put]
    generalize vals 0 = y0
    generalize vals 1 = y1
    generalize vals 2 = y2
    generalize vals 3 = y3
    generalize vals 4 = y4
    generalize vals 5 = y5
    generalize vals 6 = y6
    generalize vals 7 = y7
    generalize vals 8 = y8
    have e := fun W => slice_from W g (n + 1) cap i (i : Int) rfl (by omega) (by omega) hroom
    go_wp2_with fail
    go_ret
    exact ⟨rfl, by simpa using HOWN.out, hk2⟩
set_option maxRecDepth 100000 in
set_option maxHeartbeats 8000000 in
theorem InsertGrow (B g n i : Nat) (xs : List Value) (ub : Nat) (u1 u2 : Value) (w : World) (cur : Array Value) (hg : w.heap[g]? = some (.cells cur 119 (0, 0))) (hgB : B ≤ w.heap.size) (hsz : cur.size = n * 2) (htk : cur.toList.take (n * 2) = xs) (hu : w.heap[ub]? = some (.cells #[u1, u2] 119 (0, 0)))
    (hub : ub ≠ g) (h1 : u1.oneCell' = true) (h2 : u2.oneCell' = true) (hxs : ∀ x ∈ xs, x.oneCell' = true) (hi : i < n) (hn : n ≤ 1000000) :
    Calls Tryz.prog 73 #[.slice (some ⟨g, 0, none⟩) n n, .int .i64 i, .slice (some ⟨ub, 0, none⟩) 1 1] w fun e w' => ∃ C, e = .returned (.slice (some ⟨w.heap.size, 0, none⟩) (n + 1) C) ∧ w'.ownsRow B 119 2 (.slice (some ⟨w.heap.size, 0, none⟩) (n + 1) C) (n + 1) (xs.take (i * 2) ++ [u1, u2] ++ xs.drop (i * 2)) ∧ Ext w w' := by
  have hxl : xs.length = n * 2 := by rw [← htk]; simp; omega
  obtain ⟨i0, hi0, hiz, hi1, hi2⟩ := info_parts info_datum
  have hgl := lt_block hg
  have hul := lt_block hu
  have hap : ∀ ty, ∃ C, ∃ c0 : List Value, n + 1 ≤ C ∧ C ≤ maxLen ∧ c0.length = C * 2 ∧ c0.take (i * 2) = xs.take (i * 2) ∧ (Builtin.append_ #[108, 3] ty #[.slice (some ⟨g, 0, none⟩) i n, .int .i64 ((n : Int) + 1 - i)]).run Tryz.prog w = .ok (.slice (some ⟨w.heap.size, 0, none⟩) (n + 1) C) (w.drew.alloc (.cells c0.toArray 119)) := fun ty => by
    have hol : (Builtin.firstCells i0.size i (.slice (some ⟨g, 0, none⟩) i n)).run Tryz.prog w.drew = .ok (xs.take (i * 2)).toArray w.drew := by
      have := run_loadCells_list (P := Tryz.prog) w.drew ⟨g, 0, none⟩ (xs.take (i * 2)) (fun j v hj => by
        rw [add_plain]
        show w.cell? _ = _
        rw [cell_of_row _ _ _ _ _ _ hg, Nat.zero_add]
        rw [List.getElem?_take] at hj
        split at hj
        · rw [← htk, List.getElem?_take] at hj
          split at hj
          · simpa using hj
          · cases hj
        · cases hj)
      rw [show (xs.take (i * 2)).length = i * 2 by simp [hxl]; omega] at this
      simpa [Builtin.firstCells, hi1] using this
    have hk : ((n : Int) + 1 - i) = ((n + 1 - i : Nat) : Int) := by omega
    have hs1 : i + (n + 1 - i) = n + 1 := by omega
    have := Lib.run_append_grow_zeros w 108 3 ty 119 i0 (.agg #[.slice none 0 0, .slice none 0 0]) .i64 .i64 Tryz.underlying108 Tryz.underlying3 hi0 hiz (some ⟨g, 0, none⟩) i n (xs.take (i * 2)) hol (n + 1 - i) (by omega) (by omega) (by omega) (by omega) (by rw [hi2]; omega) (growslice_fits (by omega) (by rw [hi2]; omega))
    rw [hs1] at this
    refine ⟨grownCap w (n + 1) n 119, ((xs.take (i * 2)).toArray ++ Builtin.zeroCells (Value.agg #[.slice none 0 0, .slice none 0 0]).cells (n + 1 - i) ++ Builtin.zeroCells (Value.agg #[.slice none 0 0, .slice none 0 0]).cells (grownCap w (n + 1) n 119 - (n + 1))).toList, grownCap_ge _ _ _ _, grownCap_le_maxLen _ _ _ _ (by unfold maxLen; omega), ?_, ?_, ?_⟩
    · have hz : ∀ k, (Builtin.zeroCells (Value.agg #[.slice none 0 0, .slice none 0 0]).cells k).size = k * 2 := fun k => by rw [size_zeroCells]; rfl
      have := grownCap_ge w (n + 1) n 119
      simp [hz, hxl]
      omega
    · rw [Array.toList_append, Array.toList_append, List.append_assoc, List.take_append_of_le_length (by simp [hxl]; omega)]
      simp [List.take_take]
    · rw [hk, this]
  have HAP := Lib.hid hap
  have hHg := Lib.hid hg
  have hHu := Lib.hid hu
  have hHx := Lib.hid hxs
  have hHt := Lib.hid htk
  clear hg hu hxs htk hap hi0 hiz hi1 hi2 hgl hul
  go_enter Tryz.func73, Tryz.ntmps73
  go_upto_region 9 with fail
  obtain ⟨C, c0, hC1, hC2, hC3, hC4, hC5⟩ := HAP.out 108
  have HC2 := Lib.hid hC2
  unfold maxLen at hC2
  have hb1 : Ext w (w.drew.alloc (.cells c0.toArray 119)) := Below.alloc ((⟨rfl, rfl, rfl, Nat.le_refl _, fun _ _ => rfl⟩ : Below w.heap.size w w.drew)) (Nat.le_refl _) _
  have hn1 : (w.drew.alloc (.cells c0.toArray 119)).heap[w.heap.size]? = some (.cells c0.toArray 119 (0, 0)) := heap_alloc_new w.drew _
  have hl0 := lt_block hHg.out
  have hlu := lt_block hHu.out
  have hne : ub ≠ w.heap.size := by omega
  have hg1 := (hb1.block g hl0).trans hHg.out
  have hu1 := (hb1.block ub hlu).trans hHu.out
  generalize w.drew.alloc (.cells c0.toArray 119) = W1 at *
  have hnew := cur_new c0 xs n i u1 u2 hi hxl (by omega) hC4
  obtain ⟨hN, hh⟩ : ∃ h, w.heap.size = h := ⟨_, rfl⟩
  have hb1' : Below hN w W1 := by rw [← hh]; exact hb1
  rw [hh] at hn1 hC5 hne hl0 hlu
  have hcp1 : ∀ ty, (Builtin.copy_ #[108, 108] ty #[.slice (some ⟨hN, i * 2, none⟩) (n + 1 - i) (C - i), .slice (some ⟨ub, 0, none⟩) 1 1]).run Tryz.prog W1 = .ok (goInt ((1 : Nat) : Int)) (W1.setRow hN (c0.take (i * 2) ++ [u1, u2] ++ c0.drop (i * 2 + 1 * 2)).toArray) := fun ty => by
    obtain ⟨i0, hi0, _, hi1, _⟩ := info_parts info_datum
    have := run_copy2 (P := Tryz.prog) W1 108 108 ty 119 hN (i * 2) (n + 1 - i) (C - i) ⟨ub, 0, none⟩ 1 1 c0.toArray 119 1 [u1, u2] Tryz.underlying108 (by rw [hi0]; simp [hi1]) hn1 (by simp only [Nat.min_def]; split <;> omega) rfl
      (fun j v hj => by
        rw [add_plain, cell_of_row _ _ _ _ _ _ hu1, Nat.zero_add]
        simpa using hj) (by simp; omega) (fun v hv => by
        rcases List.mem_cons.1 hv with rfl | hv
        · exact h1
        · rcases List.mem_cons.1 hv with rfl | hv
          · exact h2
          · cases hv)
    simpa using this
  have hn2 := setRow_block W1 hN (c0.take (i * 2) ++ [u1, u2] ++ c0.drop (i * 2 + 1 * 2)).toArray _ _ _ hn1
  have hk2 : Kept (fun k => k = hN) W1 _ := (Kept.of_grown (setRow_grown W1 hN (c0.take (i * 2) ++ [u1, u2] ++ c0.drop (i * 2 + 1 * 2)).toArray)).mono (fun k _ h => by cases h; rfl)
  obtain ⟨hnl1, hnl2, hnl3⟩ := hnew
  generalize hc1 : c0.take (i * 2) ++ [u1, u2] ++ c0.drop (i * 2 + 1 * 2) = c1 at *
  generalize W1.setRow hN c1.toArray = W2 at *
  have hg2 := (hk2.block g (lt_block hg1) (by omega)).trans hg1
  have hb2 : Ext w W2 := by
    have hb1w : Below w.heap.size w W1 := hb1
    exact hb1w.trans (hk2.below (B := w.heap.size) hb1.size (fun k hk e => by omega))
  generalize hc2 : c1.take (i * 2 + 2) ++ xs.drop (i * 2) ++ c1.drop (i * 2 + 2 + (n - i) * 2) = c2 at *
  have hcp2 : ∀ W : World, W.heap[g]? = some (.cells cur 119 (0, 0)) → W.heap[hN]? = some (.cells c1.toArray 119 (0, 0)) → ∀ ty, (Builtin.copy_ #[108, 108] ty #[.slice (some ⟨hN, (i + 1) * 2, none⟩) (n - i) (C - (i + 1)), .slice (some ⟨g, i * 2, none⟩) (n - i) (n - i)]).run Tryz.prog W = .ok (goInt ((n - i : Nat) : Int)) (W.setRow hN c2.toArray) := fun W hW hW2 ty => by
    obtain ⟨i0, hi0, _, hi1, _⟩ := info_parts info_datum
    have := run_copy2 (P := Tryz.prog) W 108 108 ty 119 hN ((i + 1) * 2) (n - i) (C - (i + 1)) ⟨g, i * 2, none⟩ (n - i) (n - i) c1.toArray 119 (n - i) (xs.drop (i * 2)) Tryz.underlying108 (by rw [hi0]; simp [hi1]) hW2 (Nat.min_self _) (by rw [List.length_drop, hxl]; omega)
      (fun j v hj => by
        rw [add_plain, cell_of_row _ _ _ _ _ _ hW]
        rw [List.getElem?_drop, ← hHt.out, List.getElem?_take] at hj
        split at hj
        · simpa using hj
        · cases hj) (by simp [hnl1]; omega) (fun v hv => hHx.out v (List.mem_of_mem_drop hv))
    rw [show (i + 1) * 2 = i * 2 + 2 by omega] at this
    rw [show (i + 1) * 2 = i * 2 + 2 by omega]
    rw [this]
    congr 2
    rw [← hc2]
  have HCP := Lib.hid hcp2
  have hgh : g ≠ hN := by omega
  have HG2 := Lib.hid hg2
  have HN2 := Lib.hid hn2
  have HOW : Hid (∀ W : World, W.heap[hN]? = some (.cells c2.toArray 119 (0, 0)) → W.ownsRow B 119 2 (.slice (some ⟨hN, 0, none⟩) (n + 1) C) (n + 1) (xs.take (i * 2) ++ [u1, u2] ++ xs.drop (i * 2))) := Lib.hid fun W hW => row2_of hW (by omega) hC1 HC2.out (by simp; omega) (by simp [hxl]; omega) (by simpa using hnl3)
  have e1 := fun W => slice_from W hN (n + 1) C i (i : Int) rfl (by omega) (by omega) hC1
  clear hcp2 hc1 hc2 hg2 hn2 hnl1 hnl2 hnl3 hC4 hn1 hg1 hu1 hk2
  go_wp2_with (first | (at_builtin; refine wpList_appendE rfl _ _ _ rfl rfl rfl hC5 ?_))
  have hgl2 := lt_block HG2.out
  have hiw : IntKind.i64.wrap ((i : Int) + 1) = (i : Int) + 1 := by rw [IntKind.wrap_i64]; omega
  refine wp_region_r2 mixed0 (by kernel_rfl) (fun _ _ => false) (kills_none _ _)
    (fun j W W' => if j = 8 then Kept (fun k => k = hN) W W' else Ext W W') (fun W => Kept (fun k => k = hN) W2 W)
    (fun j v W => match j with
      | 0 => v = .slice (some ⟨hN, 0, none⟩) (n + 1) C
      | 1 => v = .int .i64 i
      | 2 => v = .int .i64 1
      | 3 => v = .int .i64 ((i : Int) + 1)
      | 4 => v = .slice (some ⟨hN, (i + 1) * 2, none⟩) (n - i) (C - (i + 1))
      | 5 => v = .slice (some ⟨g, 0, none⟩) n n
      | 6 => v = .int .i64 i
      | 7 => v = .slice (some ⟨g, i * 2, none⟩) (n - i) (n - i)
      | 8 => W.heap[hN]? = some (.cells c2.toArray 119 (0, 0))
      | _ => True)
    (fun W => W.heap[hN]? = some (.cells c1.toArray 119 (0, 0))) (fun j => j == 8) HN2.out ?_ (Kept.refl _ W2).drew ?_ ?_ ?_ ?_
  · intro j W W' hk hC hI hT
    have h8 : ¬ j = 8 := by simpa using hk
    simp only [h8, if_false] at hT
    exact (hT.block hN (lt_block hI)).trans hI
  · intro j W W' hC hT
    by_cases h8 : j = 8
    · simp only [h8, if_true] at hT
      exact hC.trans hT
    · simp only [h8, if_false] at hT
      exact hC.trans (Kept.mono (Kept.of_ext hT) (fun _ _ h => h.elim))
  · intro i' j v W W' hij hk hw hC hR hT
    by_cases h8 : j = 8
    · subst h8
      have h8 : ¬ i' = 8 := hij
      simp only [h8, if_false] at hT
      have hR : W.heap[hN]? = some (.cells c2.toArray 119 (0, 0)) := hR
      exact (hT.block hN (lt_block hR)).trans hR
    · rcases j with _ | _ | _ | _ | _ | _ | _ | _ | _ | j
      all_goals first
        | exact trivial
        | exact hR
        | exact absurd rfl h8
  · intro j o hio vals W hC haf hI0
    rcases j with _ | _ | _ | _ | _ | _ | _ | _ | _ | j
    all_goals first
      | (exfalso; simp at hio; done)
      | skip
    all_goals
      simp at hio
      subst hio
      simp [bindD, rdB, Region.binds] at haf
    all_goals first
      | (simp [opYield_def, yieldUpon, relAct, dstAt, Act.put, Region.wanted, go_sem, haf, hiw, Ext.refl]; done)
      | skip
    · have e := slice_from W hN (n + 1) C (i + 1) ((i : Int) + 1) (by omega) (by omega) (by omega) hC1
      rw [show n + 1 - (i + 1) = n - i by omega] at e
      simp [opYield_def, yieldUpon, relAct, dstAt, Act.put, Region.wanted, go_sem, haf, e, Ext.refl]
    · have e := slice_from W g n n i (i : Int) rfl (by omega) (by omega) (Nat.le_refl _)
      simp [opYield_def, yieldUpon, relAct, dstAt, Act.put, Region.wanted, go_sem, haf, e, Ext.refl]
    · have hI := hI0 (fun k hk hk2 => .inl (by simpa using hk2))
      have hgW := (hC.block g hgl2 hgh).trans HG2.out
      have e := HCP.out W hgW hI
      simp [opYield_def, yieldUpon, relAct, dstAt, Act.put, Region.wanted, go_sem, haf, e]
      exact ⟨(Kept.of_grown (setRow_grown W hN _)).mono (fun k _ h => by cases h; rfl), setRow_block W hN _ _ _ _ hI⟩
  · intro vals W hC hR
    have h8 := hR 8 (by show 8 < 9; omega) (fun _ _ => rfl)
    have HOWN := Lib.hid (HOW.out W h8)
    have hb3 : Ext w W := by
      have hb2w : Below w.heap.size w W2 := hb2
      exact hb2w.trans (hC.below (B := w.heap.size) hb2w.size (fun k hk e => by omega))
    clear hR h8
    simp [relAct, dstAt, Act.put]
    generalize vals 0 = y0
    generalize vals 1 = y1
    generalize vals 2 = y2
    generalize vals 3 = y3
    generalize vals 4 = y4
    generalize vals 5 = y5
    generalize vals 6 = y6
    generalize vals 7 = y7
    generalize vals 8 = y8
    go_wp2_with fail
    go_ret
    subst hh
    exact ⟨C, rfl, by simpa using HOWN.out, hb3⟩
/-- one more is laid at a place among the data -/
theorem InsertAt (B : Nat) (v : Value) (n i : Nat) (xs : List Value) (ub : Nat) (u1 u2 : Value) (w : World) (hown : w.ownsRow B 119 2 v n xs) (hB : B ≤ w.heap.size) (hu : w.heap[ub]? = some (.cells #[u1, u2] 119 (0, 0)))
    (hub : v.ownBlock ≠ some ub) (h1 : u1.oneCell' = true) (h2 : u2.oneCell' = true) (hxs : ∀ x ∈ xs, x.oneCell' = true) (hi : i ≤ n) (hn : n ≤ 1000000) :
    Calls Tryz.prog 73 #[v, .int .i64 i, .slice (some ⟨ub, 0, none⟩) 1 1] w fun e w' => ∃ v', e = .returned v' ∧ w'.ownsRow B 119 2 v' (n + 1) (xs.take (i * 2) ++ [u1, u2] ++ xs.drop (i * 2)) ∧ Moved v w v' w' := by
  by_cases hin : i = n
  · subst hin
    refine (InsertEnd B v i xs ub u1 u2 (0, 0) w hown hB hu hub h1 h2 hn).mono ?_
    rintro e w' ⟨v', h3, h4, h5⟩
    refine ⟨v', h3, ?_, h5⟩
    have hl := hown.1
    rw [List.take_of_length_le (by omega), List.drop_of_length_le (by omega), List.append_nil]
    exact h4
  · rcases hown.2 with ⟨_, h0⟩ | ⟨g, cap, cur, rfl, hg, hh, hc1, hc2, hsz, htk⟩
    · omega
    · have hne : ub ≠ g := fun e => hub (by subst e; rfl)
      by_cases hr : n + 1 ≤ cap
      · refine (InsertRoom B g n cap i xs ub u1 u2 w cur hh hg hc2 hsz htk hu hne h1 h2 hxs (by omega) hr).mono ?_
        rintro e w' ⟨h3, h4, h5⟩
        exact ⟨_, h3, h4, h5.mono (fun k _ hk => by rw [hk]; rfl), fun b hb => .inl hb⟩
      · have : cap = n := by omega
        subst this
        refine (InsertGrow B g cap i xs ub u1 u2 w cur hh hB hsz htk hu hne h1 h2 hxs (by omega) hn).mono ?_
        rintro e w' ⟨C, h3, h4, h5⟩
        exact ⟨_, h3, h4, (Kept.of_ext h5).mono (fun _ _ h => h.elim), fun b hb => .inr (by cases hb; exact Nat.le_refl _)⟩
end Nm
end Go.Proofs.YtkeimgamjnpcbaaGreat

/- A zone of any records in memory: its names, its sets; what is kept as it is written. -/
namespace Go.Proofs.YtkeimgamjnpcbaaGreat
open Go.RowKit
set_option linter.unusedVariables false
set_option linter.unusedSimpArgs false
namespace Nm
/-- a map's entries, in whatever order -/
def Ents (D : DataW Unit) (es : List (Lit × DataW Unit)) : Prop := ∃ l, D = .map l ∧ l.Perm es
def KApart (es : List (Lit × DataW Unit)) : Prop := es.Pairwise fun a b => a.1 ≠ b.1
theorem KApart.perm {a b : List (Lit × DataW Unit)} (h : KApart a) (hp : a.Perm b) : KApart b := (hp.pairwise_iff (fun h => Ne.symm h)).1 h
theorem sameKey_self {k : Lit} (hk : WideAt.IsKeyLit k) : k.sameKey k = true := by cases k <;> first | (simp [Lit.sameKey]; done) | (cases hk)
theorem Ents.at_mem {D : DataW Unit} {es : List (Lit × DataW Unit)} (h : Ents D es) (ha : KApart es) {k : Lit} {d : DataW Unit} (hk : WideAt.IsKeyLit k) (hm : (k, d) ∈ es) (z : DataW Unit) : D.atKey k z = d := by
  obtain ⟨l, rfl, hp⟩ := h
  have hm' : (k, d) ∈ l := hp.mem_iff.2 hm
  have ha' := ha.perm hp.symm
  clear hm ha hp es
  unfold DataW.atKey
  have : l.find? (fun p => p.1.sameKey k) = some (k, d) := by
    induction l with
    | nil => cases hm'
    | cons x xs ih =>
      rw [List.find?_cons]
      rcases List.mem_cons.1 hm' with e | e
      · subst e
        simp only [sameKey_self hk]
      · have hne := (List.pairwise_cons.1 ha').1 _ e
        rw [Maps.sameKey_ne hne]
        exact ih e (List.pairwise_cons.1 ha').2
  simp only [this]
theorem Ents.at_not {D : DataW Unit} {es : List (Lit × DataW Unit)} (h : Ents D es) {k : Lit} (hm : ∀ p ∈ es, p.1 ≠ k) (z : DataW Unit) : D.atKey k z = z := by
  obtain ⟨l, rfl, hp⟩ := h
  unfold DataW.atKey
  have : l.find? (fun p => p.1.sameKey k) = none := by
    rw [List.find?_eq_none]
    intro x hx e
    rw [Maps.sameKey_ne (hm x (hp.mem_iff.1 hx))] at e
    cases e
  simp only [this]
theorem Ents.size {D : DataW Unit} {es : List (Lit × DataW Unit)} (h : Ents D es) : Maps.size D = es.length := by
  obtain ⟨l, rfl, hp⟩ := h
  rw [Maps.size_eq, hp.length_eq]
theorem insert_perm (x : Lit × DataW Unit) : ∀ l : List (Lit × DataW Unit), (DataW.insert x l).Perm (x :: l)
  | [] => List.Perm.refl _
  | y :: r => by
    unfold DataW.insert
    split
    · exact List.Perm.refl _
    · exact ((insert_perm x r).cons y).trans (List.Perm.swap x y r)
theorem Ents.put {D : DataW Unit} {es : List (Lit × DataW Unit)} (h : Ents D es) {k : Lit} (hm : ∀ p ∈ es, p.1 ≠ k) (d : DataW Unit) : Ents (D.put k d) (es ++ [(k, d)]) := by
  obtain ⟨l, rfl, hp⟩ := h
  refine ⟨_, rfl, (insert_perm _ _).trans ?_⟩
  have : l.filter (fun p => !p.1.sameKey k) = l := List.filter_eq_self.2 fun x hx => by rw [Maps.sameKey_ne (hm x (hp.mem_iff.1 hx))]; rfl
  rw [this]
  exact (hp.cons _).trans (List.perm_append_singleton _ _).symm
theorem Ents.del {D : DataW Unit} {es : List (Lit × DataW Unit)} (h : Ents D es) (k : Lit) : Ents (D.del k) (es.filter fun p => !p.1.sameKey k) := by
  obtain ⟨l, rfl, hp⟩ := h
  exact ⟨_, rfl, hp.filter _⟩
theorem Ents.empty : Ents (.map []) [] := ⟨[], rfl, List.Perm.refl _⟩
theorem Ents.perm {D : DataW Unit} {a b : List (Lit × DataW Unit)} (h : Ents D a) (hp : a.Perm b) : Ents D b := by
  obtain ⟨l, e, h⟩ := h
  exact ⟨l, e, h.trans hp⟩
/-- a name's node and its sets' map; a set and its data -/
structure StG (w : World) (B x bs s : Nat) (n : List Lab) (ttl : Int) (v : Value) (ds : List (Blob × Blob)) (N2 : Nat) (D2 : DataW Unit) : Prop where
  node : ∃ A c, w.heap[x]? = some (.cells #[.slice A n.length c, .map (some bs)] 115 (0, 0)) ∧ w.ownsRow B 9 1 (.slice A n.length c) n.length ((lower n).map strV)
  sets : w.ownsMap Tryz.prog 24 ptrR bs N2 D2
  set : w.heap[s]? = some (.cells #[.int .u32 ttl, v] 110 (0, 0))
  row : w.ownsRow B 119 2 v ds.length (datC ds)
  dat : DatOwn w B ds
  h1 : B ≤ bs
  h2 : B ≤ s
/-- a zone, and one of its sets -/
structure Foc (w : World) (B z bn bb x bs s : Nat) (ap n : List Lab) (t ttl : Int) (v : Value) (ds : List (Blob × Blob)) (c : Int) (D D2 : DataW Unit) (f : Lab → Int) (N N2 : Nat) : Prop where
  zn : Zn w B z bn bb ap c D f N
  st : StG w B x bs s n ttl v ds N2 D2
  n1 : bs ≠ bn
  n2 : bs ≠ bb
  hD : D.atKey (.string (zkey n)) .nil = ptrD (some x)
  hD2 : D2.atKey (.int .u16 t) .nil = ptrD (some s)
theorem StG.ext {w w' : World} {B x bs s : Nat} {n : List Lab} {ttl : Int} {v : Value} {ds : List (Blob × Blob)} {N2 : Nat} {D2 : DataW Unit} (h : StG w B x bs s n ttl v ds N2 D2) (hB : B ≤ w.heap.size) (hb : Below w.heap.size w w') : StG w' B x bs s n ttl v ds N2 D2 := by
  have hg : w.grownBy w' none := ⟨hb.os, hb.tape, hb.output, hb.size, fun k hk _ => hb.block k hk⟩
  obtain ⟨A, c, h1, h2⟩ := h.node
  exact ⟨⟨A, c, (hb.block _ (lt_block h1)).trans h1, own_below h2 hb⟩, h.sets.kept hg (by simp), (hb.block _ (lt_block h.set)).trans h.set, own_below h.row hb, h.dat.turn (Turn.of_ext hb hB), h.h1, h.h2⟩
section
variable {w w' W : World} {B z bn bb x bs s : Nat} {ap n : List Lab} {t ttl ttl2 : Int} {v v2 : Value} {ds : List (Blob × Blob)} {c : Int} {D D2 : DataW Unit} {f : Lab → Int} {N N2 : Nat}
theorem Foc.size (h : Foc w B z bn bb x bs s ap n t ttl v ds c D D2 f N N2) : B ≤ w.heap.size := Nat.le_trans h.st.h2 (Nat.le_of_lt (lt_block h.st.set))
theorem Foc.ext (h : Foc w B z bn bb x bs s ap n t ttl v ds c D D2 f N N2) (hb : Below w.heap.size w w') : Foc w' B z bn bb x bs s ap n t ttl v ds c D D2 f N N2 :=
  ⟨h.zn.ext hb, h.st.ext h.size hb, h.n1, h.n2, h.hD, h.hD2⟩
/-- the set's time to live, or its data, are laid anew -/
theorem Foc.put (h : Foc w B z bn bb x bs s ap n t ttl v ds c D D2 f N N2) (hk : Kept (fun k => k = s) w w') (hs : w'.heap[s]? = some (.cells #[.int .u32 ttl2, v] 110 (0, 0))) :
    Foc w' B z bn bb x bs s ap n t ttl2 v ds c D D2 f N N2 ∧ Turn B w w' := by
  have hZ : Zonal (fun k => k = s) w := Zonal.cells h.st.set (.inr (.inl rfl))
  obtain ⟨A, ca, g1, g2⟩ := h.zn.blk
  obtain ⟨A', c', g5, g6⟩ := h.st.node
  obtain ⟨E, g3, g4⟩ := h.zn.below
  refine ⟨⟨h.zn.kept hk hZ (ne_cells g1 h.st.set (by decide)) (ne_map h.zn.nodes h.st.set) (ne_map g3 h.st.set), ⟨⟨A', c', cells_zonal g5 hk hZ zT_node, row_zonal g6 hk hZ zT_str⟩, ownsMap_block h.st.sets (hk.block _ h.st.sets.lt (ne_map h.st.sets h.st.set)), hs, ?_, h.st.dat.zonal hk hZ, h.st.h1, h.st.h2⟩, h.n1, h.n2, h.hD, h.hD2⟩, Turn.zonal hk hZ h.size (fun k e => by rw [e]; exact h.st.h2)⟩
  refine Kept.row h.st.row hk fun k hkb e => ?_
  obtain ⟨cs, h1, _⟩ := row_block h.st.row hkb
  exact ne_cells h1 h.st.set (by decide) e
end
/-- what a set's data are behind an insertion -/
def insD (ds : List (Blob × Blob)) (p : Nat) (d : Blob × Blob) : List (Blob × Blob) := ds.take p ++ [d] ++ ds.drop p
theorem insD_len (ds : List (Blob × Blob)) (p : Nat) (d : Blob × Blob) (h : p ≤ ds.length) : (insD ds p d).length = ds.length + 1 := by simp [insD]; omega
theorem datC_len (ds : List (Blob × Blob)) : (datC ds).length = ds.length * 2 := by
  induction ds with
  | nil => rfl
  | cons d ds ih =>
    have e : datC (d :: ds) = d.1.v :: d.2.v :: datC ds := rfl
    rw [e]; simp [ih]; omega
theorem datC_append (a b : List (Blob × Blob)) : datC (a ++ b) = datC a ++ datC b := by simp [datC]
theorem datC_split (ds : List (Blob × Blob)) (p : Nat) : (datC ds).take (p * 2) = datC (ds.take p) ∧ (datC ds).drop (p * 2) = datC (ds.drop p) := by
  have h := datC_append (ds.take p) (ds.drop p)
  rw [List.take_append_drop] at h
  by_cases hp : p ≤ ds.length
  · have hl : (datC (ds.take p)).length = p * 2 := by rw [datC_len, List.length_take]; omega
    rw [h]
    exact ⟨by rw [List.take_append_of_le_length (by omega), List.take_of_length_le (by omega)], by rw [List.drop_append_of_le_length (by omega), List.drop_of_length_le (by omega), List.nil_append]⟩
  · have hl := datC_len ds
    rw [List.take_of_length_le (by omega), List.drop_of_length_le (by omega), List.take_of_length_le (by omega), List.drop_of_length_le (by omega)]
    exact ⟨rfl, rfl⟩
theorem datC_ins (ds : List (Blob × Blob)) (p : Nat) (d : Blob × Blob) : (datC ds).take (p * 2) ++ [d.1.v, d.2.v] ++ (datC ds).drop (p * 2) = datC (insD ds p d) := by
  obtain ⟨h1, h2⟩ := datC_split ds p
  rw [h1, h2]
  unfold insD
  rw [datC_append, datC_append]
  rfl
theorem datC_one (ds : List (Blob × Blob)) : ∀ x ∈ datC ds, x.oneCell' = true := by
  intro x hx
  unfold datC at hx
  obtain ⟨d, _, hd⟩ := List.mem_flatMap.1 hx
  rcases List.mem_cons.1 hd with rfl | hd
  · rfl
  · rcases List.mem_cons.1 hd with rfl | hd
    · rfl
    · cases hd
/-- a record that may be put; c: by which its data are held against others -/
structure RecG (n ap : List Lab) (t : Int) (d c : Lab) (cn cd : Nat) : Prop where
  small : Small n
  name : nameE n = 0
  inn : within n ap = true
  chk : ∀ A W, Cs W A (d.map byteV) → Calls Tryz.prog 67 #[.int .u16 t, .slice A d.length cd] W fun e w' => Below W.heap.size W w' ∧ e = .returned (.int .i64 0)
  wf : (Lit.int .u16 t).wf = true
  can : ∀ A W, Cs W A (d.map byteV) → Calls Tryz.prog 68 #[.int .u16 t, .slice A d.length cd] W fun e w' => Below W.heap.size W w' ∧ ∃ v, e = .returned v ∧ w'.ownsRow W.heap.size 5 1 v c.length (c.map byteV)
  len : d.length ≤ 100000
  cap1 : n.length ≤ cn
  cap2 : cn ≤ maxLen
  cap3 : d.length ≤ cd
  cap4 : cd ≤ maxLen
theorem Rec.to {n ap : List Lab} {t : Int} {d : Lab} {cn cd : Nat} (h : Rec n ap t d cn cd) : RecG n ap t d (canonD t d) cn cd :=
  ⟨h.small, h.name, h.inn, fun A W hA => by
    have := CheckE t h.easy A d cd W hA h.len h.cap3 h.cap4
    rw [h.data] at this
    exact this, h.wf, fun A W hA => ZCanon t h.easy A d cd W hA h.len h.cap3 h.cap4, h.len, h.cap1, h.cap2, h.cap3, h.cap4⟩
/-- one datum more -/
structure More (w w' : World) (B z bn bb s : Nat) (ap : List Lab) (c : Int) (D : DataW Unit) (f : Lab → Int) (N : Nat) (ttl : Int) (v v2 : Value) (ds : List (Blob × Blob)) (S : Nat → Prop) : Prop where
  kept : Kept S w w'
  zn : Zn w' B z bn bb ap c D f N
  set : w'.heap[s]? = some (.cells #[.int .u32 ttl, v2] 110 (0, 0))
  row : w'.ownsRow B 119 2 v2 ds.length (datC ds)
  dat : DatOwn w' B ds
  at_ : ∀ k, v2.ownBlock = some k → some k = v.ownBlock ∨ w.heap.size ≤ k
theorem More.before {w0 w w' : World} {B z bn bb s : Nat} {ap : List Lab} {c : Int} {D : DataW Unit} {f : Lab → Int} {N : Nat} {ttl : Int} {v v2 : Value} {ds : List (Blob × Blob)} {S S0 : Nat → Prop} (h : More w w' B z bn bb s ap c D f N ttl v v2 ds S) (hk : Kept S0 w0 w) (hS : ∀ k, k < w0.heap.size → S k → S0 k) : More w0 w' B z bn bb s ap c D f N ttl v v2 ds S0 :=
  ⟨hk.then h.kept hS, h.zn, h.set, h.row, h.dat, fun k hk2 => by
    rcases h.at_ k hk2 with e | e
    · exact .inl e
    · exact .inr (Nat.le_trans hk.size e)⟩
/-- two cells laid at a place of a row of such -/
def ins2 (xs : List Value) (p : Nat) (a b : Value) : List Value := xs.take (p * 2) ++ [a, b] ++ xs.drop (p * 2)
theorem ins2_datC (ds : List (Blob × Blob)) (p : Nat) (b1 b2 : Blob) : ins2 (datC ds) p b1.v b2.v = datC (insD ds p (b1, b2)) := datC_ins ds p (b1, b2)
theorem DatOwn.ins {w : World} {B : Nat} {ds : List (Blob × Blob)} (h : DatOwn w B ds) (p : Nat) {b1 b2 : Blob} (h1 : BlobOwn w B b1) (h2 : BlobOwn w B b2) : DatOwn w B (insD ds p (b1, b2)) := by
  intro d hd
  unfold insD at hd
  rcases List.mem_append.1 hd with hd | hd
  · rcases List.mem_append.1 hd with hd | hd
    · exact h d (List.mem_of_mem_take hd)
    · rcases List.mem_cons.1 hd with rfl | hd
      · exact ⟨h1, h2⟩
      · cases hd
  · exact h d (List.mem_of_mem_drop hd)
theorem Foc.more {w W : World} {B z bn bb x bs s : Nat} {ap n : List Lab} {t ttl : Int} {v v2 : Value} {ds : List (Blob × Blob)} {c : Int} {D D2 : DataW Unit} {f : Lab → Int} {N N2 : Nat} {b1 b2 : Blob} (h : Foc w B z bn bb x bs s ap n t ttl v ds c D D2 f N N2) (hk : Kept (fun k => k = s ∨ some k = v.ownBlock) w W)
    (hs : W.heap[s]? = some (.cells #[.int .u32 ttl, v2] 110 (0, 0))) (p : Nat) (hp : p ≤ ds.length) (hr : W.ownsRow B 119 2 v2 (ds.length + 1) (ins2 (datC ds) p b1.v b2.v)) (h1 : BlobOwn W B b1) (h2 : BlobOwn W B b2)
    (hat : ∀ k, v2.ownBlock = some k → some k = v.ownBlock ∨ w.heap.size ≤ k) :
    More w (W.setCell ⟨z, 3, none⟩ (.int .i64 (c + 1))) B z bn bb s ap (c + 1) D f N ttl v v2 (insD ds p (b1, b2)) (fun k => k = z ∨ k = s ∨ some k = v.ownBlock) := by
  have hZ : Zonal (fun k => k = s ∨ some k = v.ownBlock) w := by
    intro k hk2
    rcases hk2 with e | e
    · exact Zonal.cells h.st.set (.inr (.inl rfl)) k e
    · exact Zonal.row h.st.row k e
  obtain ⟨A, ca, g1, g2⟩ := h.zn.blk
  obtain ⟨E, g3, g4⟩ := h.zn.below
  have hrow : ∀ k, some k = v.ownBlock → ∃ cs, w.heap[k]? = some (.cells cs 119 (0, 0)) ∧ B ≤ k := fun k e => row_block h.st.row e.symm
  have hnz : ¬ (z = s ∨ some z = v.ownBlock) := by
    rintro (e | e)
    · exact ne_cells g1 h.st.set (by decide) e
    · obtain ⟨cs, e1, _⟩ := hrow z e
      exact ne_cells g1 e1 (by decide) rfl
  have hnm : ∀ {k : TypeId} {R : Value → Option (DataW Unit × List MemPlace)} {b n : Nat} {D : DataW Unit}, w.ownsMap Tryz.prog k R b n D → ¬ (b = s ∨ some b = v.ownBlock) := by
    rintro k R b n D hm (e | e)
    · exact ne_map hm h.st.set e
    · obtain ⟨cs, e1, _⟩ := hrow b e
      exact ne_map hm e1 rfl
  have hzn := h.zn.kept hk hZ hnz (hnm h.zn.nodes) (hnm g3)
  obtain ⟨q1, q2, q3, q4⟩ := hzn.setN (c' := c + 1)
  have hzW := (hk.block z (lt_block g1) hnz).trans g1
  refine ⟨(hk.mono (fun k _ e => .inr e)).trans (q2.mono (fun k _ e => .inl e)), q1, (q2.block s (lt_block hs) (ne_cells hs hzW (by decide))).trans hs, ?_, ?_, hat⟩
  · rw [← ins2_datC, insD_len ds p _ hp]
    refine Kept.row hr q2 fun k hkb e => ?_
    obtain ⟨cs, e1, _⟩ := row_block hr hkb
    exact ne_cells e1 hzW (by decide) e
  · exact (((h.st.dat.zonal hk hZ).ins p h1 h2)).zonal q2 q3
/-- a name's node and its sets' map -/
structure NdG (w : World) (B x bs : Nat) (n : List Lab) (N2 : Nat) (D2 : DataW Unit) : Prop where
  node : ∃ A c, w.heap[x]? = some (.cells #[.slice A n.length c, .map (some bs)] 115 (0, 0)) ∧ w.ownsRow B 9 1 (.slice A n.length c) n.length ((lower n).map strV)
  sets : w.ownsMap Tryz.prog 24 ptrR bs N2 D2
  h1 : B ≤ bs
theorem NdG.kept {S : Nat → Prop} {w w' : World} {B x bs : Nat} {n : List Lab} {N2 : Nat} {D2 : DataW Unit} (h : NdG w B x bs n N2 D2) (hk : Kept S w w') (hZ : Zonal S w) (h1 : ¬ S bs) : NdG w' B x bs n N2 D2 := by
  obtain ⟨A, c, g1, g2⟩ := h.node
  exact ⟨⟨A, c, cells_zonal g1 hk hZ zT_node, row_zonal g2 hk hZ zT_str⟩, ownsMap_block h.sets (hk.block _ h.sets.lt h1), h.h1⟩
theorem StG.nd {w : World} {B x bs s : Nat} {n : List Lab} {ttl : Int} {v : Value} {ds : List (Blob × Blob)} {N2 : Nat} {D2 : DataW Unit} (h : StG w B x bs s n ttl v ds N2 D2) : NdG w B x bs n N2 D2 := ⟨h.node, h.sets, h.h1⟩
theorem Foc.zonal {w : World} {B z bn bb x bs s : Nat} {ap n : List Lab} {t ttl : Int} {v : Value} {ds : List (Blob × Blob)} {c : Int} {D D2 : DataW Unit} {f : Lab → Int} {N N2 : Nat} (h : Foc w B z bn bb x bs s ap n t ttl v ds c D D2 f N N2) : Zonal (fun k => k = z ∨ k = s ∨ some k = v.ownBlock) w := by
  obtain ⟨A, ca, g1, g2⟩ := h.zn.blk
  intro k hk2
  rcases hk2 with e | e | e
  · exact Zonal.cells g1 (.inl rfl) k e
  · exact Zonal.cells h.st.set (.inr (.inl rfl)) k e
  · exact Zonal.row h.st.row k e
theorem Foc.nd_more {w w' : World} {B z bn bb x bs s : Nat} {ap n : List Lab} {t ttl : Int} {v : Value} {ds : List (Blob × Blob)} {c : Int} {D D2 : DataW Unit} {f : Lab → Int} {N N2 : Nat} (h : Foc w B z bn bb x bs s ap n t ttl v ds c D D2 f N N2) (hk : Kept (fun k => k = z ∨ k = s ∨ some k = v.ownBlock) w w') : NdG w' B x bs n N2 D2 :=
  h.st.nd.kept hk h.zonal (by
    obtain ⟨A, ca, g1, g2⟩ := h.zn.blk
    rintro (e | e | e)
    · exact ne_map h.st.sets g1 e
    · exact ne_map h.st.sets h.st.set e
    · obtain ⟨cs, e1, _⟩ := row_block h.st.row e.symm
      exact ne_map h.st.sets e1 rfl)
end Nm
end Go.Proofs.YtkeimgamjnpcbaaGreat
