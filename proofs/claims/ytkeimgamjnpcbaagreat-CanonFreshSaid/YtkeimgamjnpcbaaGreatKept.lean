/-
  Words for memory, continued: all blocks are kept but those of a set, and new ones.
-/
import Derived.Test.YtkeimgamjnpcbaaGreatStr
import Derived.Deep.RegionHeld
import Derived.Maps.AppendAt
namespace Go.Proofs.YtkeimgamjnpcbaaGreat
open Go.RowKit
set_option linter.unusedVariables false

/-- what was there is kept, but for the blocks of S -/
structure Kept (S : Nat → Prop) (w w' : World) : Prop where
  os : w'.os = w.os
  tape : w'.tape = w.tape
  output : w'.output = w.output
  size : w.heap.size ≤ w'.heap.size
  block : ∀ k, k < w.heap.size → ¬ S k → w'.heap[k]? = w.heap[k]?

section
variable {S : Nat → Prop} {w w' : World}
theorem Kept.refl (S : Nat → Prop) (w : World) : Kept S w w := ⟨rfl, rfl, rfl, Nat.le_refl _, fun _ _ _ => rfl⟩
theorem Kept.mono {S' : Nat → Prop} (h : Kept S w w') (hs : ∀ k, k < w.heap.size → S k → S' k) : Kept S' w w' := ⟨h.os, h.tape, h.output, h.size, fun k hk hn => h.block k hk (fun hS => hn (hs k hk hS))⟩
theorem Kept.trans {w'' : World} (h : Kept S w w') (k : Kept S w' w'') : Kept S w w'' :=
  ⟨k.os.trans h.os, k.tape.trans h.tape, k.output.trans h.output, Nat.le_trans h.size k.size, fun i hi hn => (k.block i (Nat.lt_of_lt_of_le hi h.size) hn).trans (h.block i hi hn)⟩
/-- behind a step that writes what is new alone, and blocks of S -/
theorem Kept.then {S' : Nat → Prop} {w'' : World} (h : Kept S w w') (k : Kept S' w' w'') (hs : ∀ i, i < w.heap.size → S' i → S i) : Kept S w w'' :=
  ⟨k.os.trans h.os, k.tape.trans h.tape, k.output.trans h.output, Nat.le_trans h.size k.size, fun i hi hn => (k.block i (Nat.lt_of_lt_of_le hi h.size) (fun hS => hn (hs i hi hS))).trans (h.block i hi hn)⟩
theorem Kept.of_below {B : Nat} (h : Below B w w') : Kept (fun k => B ≤ k) w w' := ⟨h.os, h.tape, h.output, h.size, fun k _ hn => h.block k (by omega)⟩
theorem Kept.of_ext (h : Below w.heap.size w w') : Kept (fun _ => False) w w' := ⟨h.os, h.tape, h.output, h.size, fun k hk _ => h.block k hk⟩
theorem Kept.below {B : Nat} (h : Kept S w w') (hB : B ≤ w.heap.size) (hS : ∀ k, k < B → ¬ S k) : Below B w w' := ⟨h.os, h.tape, h.output, h.size, fun k hk => h.block k (by omega) (hS k hk)⟩
theorem Kept.ext (h : Kept (fun _ => False) w w') : Below w.heap.size w w' := h.below (Nat.le_refl _) (fun _ _ h => h)
theorem Kept.of_grown {row : Option Nat} (h : w.grownBy w' row) : Kept (fun k => some k = row) w w' := ⟨h.os, h.tape, h.output, h.size, fun k hk hn => h.block k hk hn⟩
theorem Kept.alloc (h : Kept S w w') (o : Obj) : Kept S w (w'.alloc o) :=
  h.trans ⟨rfl, rfl, rfl, by simp, fun k hk _ => Below.heap_alloc _ _ _ hk⟩
theorem Kept.drew (h : Kept S w w') : Kept S w w'.drew := ⟨h.os, h.tape, h.output, h.size, h.block⟩
theorem Kept.drewN (h : Kept S w w') (n : Nat) : Kept S w (w'.drewN n) := ⟨h.os, h.tape, h.output, h.size, h.block⟩
theorem Kept.setCell (h : Kept S w w') {p : Addr} (hp : p.block < w.heap.size → S p.block) (u : Value) : Kept S w (w'.setCell p u) :=
  ⟨h.os, h.tape, h.output, by simpa [World.setCell] using h.size, fun k hk hn => (Below.heap_setCell _ _ _ _ (fun e => by subst e; exact hn (hp hk))).trans (h.block k hk hn)⟩
theorem Kept.cell (h : Kept S w w') {b o : Nat} (hb : b < w.heap.size) (hn : ¬ S b) : w'.cell? ⟨b, o, none⟩ = w.cell? ⟨b, o, none⟩ := World.cell?_of_block (a := ⟨b, o, none⟩) (h.block b hb hn)
theorem Kept.frozen (h : Kept S w w') {b o : Nat} (hb : b < w.heap.size) (hn : ¬ S b) : w'.frozen? ⟨b, o, none⟩ = w.frozen? ⟨b, o, none⟩ := World.frozen?_of_block (a := ⟨b, o, none⟩) (h.block b hb hn)
theorem Kept.row {B : Nat} {e : TypeId} {size : Nat} {v : Value} {n : Nat} {xs : List Value} (hr : w.ownsRow B e size v n xs) (h : Kept S w w') (hn : ∀ k, v.ownBlock = some k → ¬ S k) : w'.ownsRow B e size v n xs := by
  refine ⟨hr.1, ?_⟩
  rcases hr.2 with hn' | ⟨g, cap, cur, rfl, hg, hh, rest⟩
  · exact .inl hn'
  · refine .inr ⟨g, cap, cur, rfl, hg, ?_, rest⟩
    rw [h.block g (lt_block hh) (hn g rfl)]
    exact hh
theorem Kept.cs {A : Option Addr} {xs : List Value} (hc : Cs w A xs) (h : Kept S w w') (hn : ∀ a, A = some a → xs ≠ [] → ¬ S a.block) : Cs w' A xs := by
  intro i u hu
  obtain ⟨b, off, e, hlt, hcell⟩ := hc i u hu
  exact ⟨b, off, e, Nat.lt_of_lt_of_le hlt h.size, (h.cell hlt (hn _ e (fun hx => by subst hx; simp at hu))).trans hcell⟩
/-- where a slice lies that is not empty -/
theorem Cs.where {A : Option Addr} {xs : List Value} (hc : Cs w A xs) {a : Addr} (ha : A = some a) (hx : xs ≠ []) : a.block < w.heap.size := by
  cases xs with
  | nil => exact absurd rfl hx
  | cons x xs =>
    obtain ⟨b, off, e, hlt, _⟩ := hc 0 x rfl
    rw [ha] at e; cases e; exact hlt
end

theorem own_base {w : World} {B B' : Nat} {e : TypeId} {size : Nat} {v : Value} {n : Nat} {xs : List Value} (h : w.ownsRow B e size v n xs) (hB : B' ≤ B) : w.ownsRow B' e size v n xs :=
  ⟨h.1, by
    rcases h.2 with h | ⟨g, c, cur, h1, h2, h3⟩
    · exact .inl h
    · exact .inr ⟨g, c, cur, h1, Nat.le_trans hB h2, h3⟩⟩
theorem bcl {B : Nat} {w w' : World} (hb : Below B w w') {b o : Nat} (h : b < B) : w'.cell? ⟨b, o, none⟩ = w.cell? ⟨b, o, none⟩ := hb.cell (p := ⟨b, o, none⟩) h
theorem bfr {B : Nat} {w w' : World} (hb : Below B w w') {b o : Nat} (h : b < B) : w'.frozen? ⟨b, o, none⟩ = w.frozen? ⟨b, o, none⟩ := hb.frozen (p := ⟨b, o, none⟩) h
theorem drew_cell (w : World) (p : Addr) : w.drew.cell? p = w.cell? p := rfl
theorem setc_same {w : World} {b o : Nat} {v u : Value} (h : w.cell? ⟨b, o, none⟩ = some u) : (w.setCell ⟨b, o, none⟩ v).cell? ⟨b, o, none⟩ = some v := World.cell?_setCell_same w _ v h
theorem setc_far {w : World} {b o c k : Nat} {v : Value} (h : b ≠ c) : (w.setCell ⟨b, o, none⟩ v).cell? ⟨c, k, none⟩ = w.cell? ⟨c, k, none⟩ := World.cell?_setCell_far w ⟨b, o, none⟩ ⟨c, k, none⟩ v h
theorem alloc_cell {w : World} {p : Addr} {v : Value} (o : Obj) (h : w.cell? p = some v) : (w.alloc o).cell? p = some v := by rw [World.cell?_alloc_some w p o (by rw [h]; rfl)]; exact h
theorem setc_frozen {w : World} {p q : Addr} {v : Value} : (w.setCell p v).frozen? q = w.frozen? q := World.frozen?_setCell _ _ _ _
/-- a row has been appended to: nothing but it has turned; it lies where it lay, or in new memory -/
structure Moved (v : Value) (w : World) (v' : Value) (w' : World) : Prop where
  kept : Kept (fun b => some b = v.ownBlock) w w'
  at_ : ∀ b, v'.ownBlock = some b → v.ownBlock = some b ∨ w.heap.size ≤ b
theorem Moved.refl (v : Value) (w : World) : Moved v w v w := ⟨Kept.refl _ _, fun _ h => .inl h⟩
theorem Moved.trans {v v' v'' : Value} {w w' w'' : World} (h : Moved v w v' w') (k : Moved v' w' v'' w'') : Moved v w v'' w'' :=
  ⟨h.kept.then k.kept (fun i hi hs => by rcases h.at_ i hs.symm with h1 | h1; exact h1.symm; omega), fun b hb => by
    rcases k.at_ b hb with h1 | h1
    · exact h.at_ b h1
    · exact .inr (Nat.le_trans h.kept.size h1)⟩
theorem Moved.after {v v' : Value} {w w' w'' : World} (h : Moved v w v' w') (k : Below w'.heap.size w' w'') : Moved v w v' w'' := ⟨h.kept.then (Kept.of_ext k) (fun _ _ h => h.elim), h.at_⟩
theorem Moved.before {v v' : Value} {w0 w w' : World} (k : Below w0.heap.size w0 w) (h : Moved v w v' w') : Moved v w0 v' w' :=
  ⟨((Kept.of_ext k).mono (fun _ _ h => h.elim)).trans h.kept, fun b hb => by rcases h.at_ b hb with h1 | h1; exact .inl h1; exact .inr (Nat.le_trans k.size h1)⟩
theorem Moved.below {v v' : Value} {w w' : World} {B : Nat} {e : TypeId} {size n : Nat} {xs : List Value} (h : Moved v w v' w') (hown : w.ownsRow B e size v n xs) (hB : B ≤ w.heap.size) : Below B w w' :=
  h.kept.below hB (fun k hk hs => by have := (hown.lt k hs.symm).1; omega)
/-- append of one element (of so many cells), laid in a block of its own just before, to a row that the call owns: where it lies then -/
theorem wpList_push3 {P : Program} {ops : Array Oper} {rest : List Oper} {o : Oper} {a : Act} {Q : Exit → Act → World → Prop}
    {w : World} {B : Nat} {v : Value} {n : Nat} {xs : List Value} {e : TypeId} {size : Nat} (hown : w.ownsRow B e size v n xs) (hB : B ≤ w.heap.size)
    (us : List Value) (hus : us.length = size) (h1 : ∀ u ∈ us, u.oneCell' = true)
    {i : TypeInfo} {z : Value} {bytes : Nat} (hi : P.info? e = some i) (hz : i.zero = some z)
    (hsize : i.size = size) (hby : i.bytes = bytes) (hzs : z.cells.size = size) (hsz : 0 < size)
    (hgd : o.guard = none) (s x : Operand) (t : TypeId) (ht : P.underlying t = some (.slice e))
    (ho : o.op = .call { callee := .builtin .append, args := #[s, x], argTypes := #[t, t] })
    (hs : a.eval s = v) (hx : a.eval x = .slice (some ⟨w.heap.size, 0, none⟩) 1 1)
    (h63 : n + 1 ≤ maxLen) (hbytes : (n + 1) * bytes ≤ 140737488355328)
    (h : ∀ v' w', w'.ownsRow B e size v' (n + 1) (xs ++ us) → Moved v w v' w' → wpList P ops Q rest (a.put o.dst v') w') :
    wpList P ops Q (o :: rest) a (w.alloc (.cells us.toArray e)) := by
  refine wpList_append_own_at _ hgd s x t ho B e i z size bytes ht hi hz hsize hby hzs hsz v n xs hs (hown.alloc _) ⟨w.heap.size, 0, none⟩ 1 1 us hx (by omega) ?_ h1 h63 hbytes
    (by simp; omega) ?_
  · intro j u hu
    have hadd : (⟨w.heap.size, 0, none⟩ : Addr).add j = ⟨w.heap.size, j, none⟩ := by unfold Addr.add; split <;> simp_all
    rw [hadd, cell_of_row _ _ j us.toArray e (0, 0) (heap_alloc_new w _)]
    simpa using hu
  · intro v' w' h2 h3 _ hat
    refine h v' w' h2 ⟨((Kept.refl _ _).alloc _).trans (Kept.of_grown h3), fun b hb => ?_⟩
    rcases hat with hat | hat
    · exact .inl (hat ▸ hb)
    · rw [hat] at hb
      cases hb
      exact .inr (by simp)
end Go.Proofs.YtkeimgamjnpcbaaGreat
