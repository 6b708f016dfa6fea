/-
  Texts merged by a program (Rel2, Parse, Check, Cmp, Same, Blob, Put, Canon1, Fresh).
-/
import Derived.Test.YthogembgndkmpaaGreatDoorShelf
import Derived.IntWalk
import Derived.Shelf.Spec.SlicesGrow
import Derived.Lib.SliceRun
import Derived.Outline
import Derived.LoopN
import Derived.Deep.RegionWith
import Derived.Laws.Tables
import Derived.Test.YthogembgndkmpaaGreatDoorHk1
set_option linter.unusedSimpArgs false
set_option linter.unusedVariables false
/- A region that draws its order and whose operations make new memory alone: of each operation's value one fact that stays true as memory grows. -/
namespace Go.Proofs.YthogembgndkmpaaGreatDoor
open Go.RowKit

/-- what is said of a value, true as memory grows -/
structure Fact where
  p : Value → World → Prop
  st : ∀ v W W', Ext W W' → p v W → p v W'
def Fact.is (u : Value) : Fact := ⟨fun v _ => v = u, fun _ _ _ _ h => h⟩
def Fact.any : Fact := ⟨fun _ _ => True, fun _ _ _ _ h => h⟩
def Fact.own (B : Nat) (e : TypeId) (size : Nat) (n : Nat) (xs : List Value) : Fact := ⟨fun v W => W.ownsRow B e size v n xs, fun _ _ _ hE h => own_below h hE⟩
def Fact.tup2 (f g : Fact) : Fact := ⟨fun v W => ∃ a b, v = .tuple #[a, b] ∧ f.p a W ∧ g.p b W, fun _ _ _ hE ⟨a, b, h1, h2, h3⟩ => ⟨a, b, h1, f.st _ _ _ hE h2, g.st _ _ _ hE h3⟩⟩
def Fact.tup3 (f g h : Fact) : Fact := ⟨fun v W => ∃ a b c, v = .tuple #[a, b, c] ∧ f.p a W ∧ g.p b W ∧ h.p c W, fun _ _ _ hE ⟨a, b, c, h1, h2, h3, h4⟩ => ⟨a, b, c, h1, f.st _ _ _ hE h2, g.st _ _ _ hE h3, h.st _ _ _ hE h4⟩⟩
def factAt (fs : List Fact) (j : Nat) : Fact := fs.getD j Fact.any
def facts (W : World) (vals : Nat → Value) : List Fact → Nat → Prop
  | [], _ => True
  | f :: fs, k => f.p (vals k) W ∧ facts W vals fs (k + 1)
theorem facts_of {W : World} {vals : Nat → Value} : ∀ (fs gs : List Fact) (k : Nat), (∀ j, j < fs.length → (fs.getD j Fact.any).p (vals (k + j)) W) → facts W vals fs k
  | [], _, _, _ => trivial
  | f :: fs, gs, k, h => ⟨by simpa using h 0 (by simp), facts_of fs gs (k + 1) (fun j hj => by have := h (j + 1) (by simp; omega); simpa [Nat.add_assoc, Nat.add_comm 1 j] using this)⟩
theorem Fact.tup3_elim {f g h : Fact} {v : Value} {W : World} {C : Prop} (hp : (Fact.tup3 f g h).p v W) (k : ∀ a b c, v = .tuple #[a, b, c] → f.p a W → g.p b W → h.p c W → C) : C := let ⟨a, b, c, h1, h2, h3, h4⟩ := hp; k a b c h1 h2 h3 h4
theorem Fact.tup2_elim {f g : Fact} {v : Value} {W : World} {C : Prop} (hp : (Fact.tup2 f g).p v W) (k : ∀ a b, v = .tuple #[a, b] → f.p a W → g.p b W → C) : C := let ⟨a, b, h1, h2, h3⟩ := hp; k a b h1 h2 h3
theorem Fact.tup3_mk {f g h : Fact} {a b c : Value} {W : World} (h2 : f.p a W) (h3 : g.p b W) (h4 : h.p c W) : (Fact.tup3 f g h).p (.tuple #[a, b, c]) W := ⟨a, b, c, rfl, h2, h3, h4⟩
theorem Fact.tup2_mk {f g : Fact} {a b : Value} {W : World} (h2 : f.p a W) (h3 : g.p b W) : (Fact.tup2 f g).p (.tuple #[a, b]) W := ⟨a, b, rfl, h2, h3⟩
theorem tup3_p (f g h : Fact) (v : Value) (W : World) : (Fact.tup3 f g h).p v W = ∃ a b c, v = .tuple #[a, b, c] ∧ f.p a W ∧ g.p b W ∧ h.p c W := rfl
theorem tup2_p (f g : Fact) (v : Value) (W : World) : (Fact.tup2 f g).p v W = ∃ a b, v = .tuple #[a, b] ∧ f.p a W ∧ g.p b W := rfl
@[simp] theorem is_p (u v : Value) (W : World) : (Fact.is u).p v W = (v = u) := rfl
@[simp] theorem any_p (v : Value) (W : World) : Fact.any.p v W = True := rfl
@[simp] theorem own_p (B : Nat) (e : TypeId) (size : Nat) (n : Nat) (xs : List Value) (v : Value) (W : World) : (Fact.own B e size n xs).p v W = W.ownsRow B e size v n xs := rfl

/-- WHATEVER THE ORDER: new memory alone -/
theorem wp_region_mono {P : Program} {ops : Array Oper} {id : Nat} {Q : Exit → Act → World → Prop} {a0 : Act} {w0 : World} (hm : P.follows .mixedOrders = true) (hB : relB ops = true) (fs : List Fact) (hf : fs.length = ops.size)
    (step : ∀ i o, ops[i]? = some o → ∀ vals W, Ext w0 W → (∀ e ∈ o.after, bindD e = true → (factAt fs e.on).p (vals e.on) W) →
      opYield P ops o (relAct ops a0 (fun _ => true) vals i) W (fun v W' => Ext W W' ∧ (factAt fs i).p v W'))
    (hend : ∀ vals W, Ext w0 W → facts W vals fs 0 → Q .normal (relAct ops a0 (fun _ => true) vals ops.size) W) :
    (Code.region id ops true).wp P Q a0 w0 := by
  refine wp_region_rel hm hB (fun _ _ => false) ?_ (fun _ W W' => Ext W W') (fun W => Ext w0 W) (fun i v W => (factAt fs i).p v W) ?_ ?_ ?_ ?_ ?_
  · simp [killsB]
  · exact ⟨rfl, rfl, rfl, Nat.le_refl _, fun _ _ => rfl⟩
  · intro i W W' h1 h2
    exact h1.trans h2
  · intro i j v W W' _ _ _ _ h1 h2
    exact (factAt fs j).st _ _ _ h2 h1
  · intro i o ho vals W hE h
    exact step i o ho vals W hE h
  · intro vals W hE h
    refine hend vals W hE (facts_of fs [] 0 fun j hj => ?_)
    rw [Nat.zero_add]
    exact h j (by omega) (fun _ _ => rfl)
/-- a fact that looks at no world -/
def Fact.plain (f : Fact) : Prop := ∀ v W W', f.p v W → f.p v W'
theorem plain_is (u : Value) : (Fact.is u).plain := fun _ _ _ h => h
theorem plain_any : Fact.any.plain := fun _ _ _ h => h
def killG (ops : Array Oper) (kd fk : Nat → Nat) (i j : Nat) : Bool := i != j && !waitsB ops j i && ((kd i == 1 && decide (2 ≤ fk j)) || (decide (2 ≤ kd i) && (fk j == 1 || decide (3 ≤ fk j))))
def keepB (ops : Array Oper) (kd fk : Nat → Nat) (j : Nat) : Bool := (List.range ops.size).all fun i => !killG ops kd fk i j
/-- a row that was there when the region began (N: the heap's size then) -/
def Fact.old (N B : Nat) (e : TypeId) (size : Nat) (n : Nat) (xs : List Value) : Fact := ⟨fun v W => W.ownsRow B e size v n xs ∧ ∀ k, v.ownBlock = some k → k < N, fun _ _ _ hE h => ⟨own_below h.1 hE, h.2⟩⟩
/-- what an operation of a kind does to the world: 0: new memory; 1: it writes what was there from B on; 2: it writes what is new since the region began -/
def kindT (B N : Nat) : Nat → World → World → Prop
  | 0, W, W' => Ext W W'
  | 1, W, W' => Kept (fun b => B ≤ b ∧ b < N) W W'
  | _, W, W' => Below N W W'
/-- what a fact of a kind bears: 0: anything; 1: what kind 1 does; 2: what kind 2 does; 3: new memory alone -/
def kindF (N : Nat) : Nat → Fact → Prop
  | 0, f => f.plain
  | 1, f => ∀ v W W', Kept (fun b => b < N) W W' → f.p v W → f.p v W'
  | 2, f => ∀ v W W', Below N W W' → f.p v W → f.p v W'
  | _, _ => True
theorem kind_own (N B : Nat) (e : TypeId) (size : Nat) (n : Nat) (xs : List Value) (hB : N ≤ B) : kindF N 1 (Fact.own B e size n xs) := fun v W W' hk h => Kept.row h hk (fun k hk2 => by have := (h.lt k hk2).1; omega)
theorem kind_old (N B : Nat) (e : TypeId) (size : Nat) (n : Nat) (xs : List Value) : kindF N 2 (Fact.old N B e size n xs) := fun v W W' hk h => ⟨Kept.row h.1 (Kept.of_below hk) (fun k hk2 => by have := h.2 k hk2; omega), h.2⟩
/-- just that row -/
def Fact.row (u : Value) (B : Nat) (e : TypeId) (size : Nat) (n : Nat) (xs : List Value) : Fact := ⟨fun v W => v = u ∧ W.ownsRow B e size u n xs, fun _ _ _ hE h => ⟨h.1, own_below h.2 hE⟩⟩
theorem kind_row (N : Nat) (u : Value) (B : Nat) (e : TypeId) (size : Nat) (n : Nat) (xs : List Value) (hu : ∀ k, u.ownBlock = some k → k < N) : kindF N 2 (Fact.row u B e size n xs) := fun v W W' hk h => ⟨h.1, Kept.row h.2 (Kept.of_below hk) (fun k hk2 => by have := hu k hk2; omega)⟩
theorem kind_is (N : Nat) (u : Value) : kindF N 0 (Fact.is u) := plain_is u
theorem kind_any (N : Nat) : kindF N 0 Fact.any := plain_any
/-- WHATEVER THE ORDER: operations of three kinds, facts of three kinds; I0: what holds when the region begins, till an operation of kind 1 -/
theorem wp_region_gen0 {P : Program} {ops : Array Oper} {id : Nat} {Q : Exit → Act → World → Prop} {a0 : Act} {w0 : World} (hm : P.follows .mixedOrders = true) (hB : relB ops = true) (B : Nat) (hBs : B ≤ w0.heap.size) (fs : List Fact)
    (kd fk : Nat → Nat) (hk : killsB ops (killG ops kd fk) = true) (hf : ∀ j, kindF w0.heap.size (fk j) (factAt fs j))
    (I0 : World → Prop) (hI0 : I0 w0.drew) (hI1 : ∀ W W', Ext W W' → I0 W → I0 W') (hI2 : ∀ W W', Below w0.heap.size W W' → I0 W → I0 W')
    (step : ∀ i o, ops[i]? = some o → ∀ vals W, Below B w0 W → (∀ e ∈ o.after, bindD e = true → (factAt fs e.on).p (vals e.on) W) → ((∀ k, k < ops.size → (kd k == 1) = true → k = i ∨ waitsB ops k i = true) → I0 W) →
      opYield P ops o (relAct ops a0 (fun _ => true) vals i) W (fun v W' => kindT B w0.heap.size (kd i) W W' ∧ (factAt fs i).p v W'))
    (hend : ∀ vals W, Below B w0 W → (∀ j, j < ops.size → keepB ops kd fk j = true → (factAt fs j).p (vals j) W) → Q .normal (relAct ops a0 (fun _ => true) vals ops.size) W) :
    (Code.region id ops true).wp P Q a0 w0 := by
  refine wp_region_rel0 hm hB (killG ops kd fk) hk (fun i W W' => kindT B w0.heap.size (kd i) W W') (fun W => Below B w0 W) (fun i v W => (factAt fs i).p v W) I0 (fun i => kd i == 1) hI0 ?_ ?_ ?_ ?_ ?_ ?_
  · intro i W W' hk0 hC h1 h2
    generalize kd i = c at *
    match c, h2 with
    | 0, h2 => exact hI1 _ _ h2 h1
    | 1, _ => cases hk0
    | c + 2, h2 => exact hI2 _ _ h2 h1
  · exact ⟨rfl, rfl, rfl, Nat.le_refl _, fun _ _ => rfl⟩
  · intro i W W' h1 h2
    refine h1.trans ?_
    have hs := h1.size
    generalize kd i = c at *
    match c, h2 with
    | 0, h2 => exact Below.mono h2 (by omega)
    | 1, h2 => exact Kept.below h2 (by omega) (fun k hk h => by omega)
    | c + 2, h2 => exact Below.mono h2 hBs
  · intro i j v W W' hij hki hwt hC h1 h2
    have hs := hC.size
    have hfj := hf j
    unfold killG at hki
    rw [hwt] at hki
    generalize kd i = c at *
    generalize fk j = d at *
    generalize factAt fs j = f at *
    match c, h2 with
    | 0, h2 => exact f.st _ _ _ h2 h1
    | 1, h2 =>
      match d, hfj with
      | 0, hfj => exact hfj _ _ _ h1
      | 1, hfj => exact hfj _ _ _ (Kept.mono h2 (fun k _ h => h.2)) h1
      | d + 2, _ => simp [hij] at hki
    | c + 2, h2 =>
      match d, hfj with
      | 0, hfj => exact hfj _ _ _ h1
      | 1, _ => simp [hij] at hki
      | 2, hfj => exact hfj _ _ _ h2 h1
      | d + 3, _ => simp [hij] at hki
  · intro i o ho vals W hE h hI
    exact step i o ho vals W hE h hI
  · intro vals W hE h
    refine hend vals W hE fun j hj hkj => h j hj fun i hi => ?_
    have := List.all_eq_true.1 hkj i (List.mem_range.2 hi)
    simpa only [Bool.not_eq_true'] using this
/-- WHATEVER THE ORDER: operations of three kinds, facts of three kinds -/
theorem wp_region_gen {P : Program} {ops : Array Oper} {id : Nat} {Q : Exit → Act → World → Prop} {a0 : Act} {w0 : World} (hm : P.follows .mixedOrders = true) (hB : relB ops = true) (B : Nat) (hBs : B ≤ w0.heap.size) (fs : List Fact)
    (kd fk : Nat → Nat) (hk : killsB ops (killG ops kd fk) = true) (hf : ∀ j, kindF w0.heap.size (fk j) (factAt fs j))
    (step : ∀ i o, ops[i]? = some o → ∀ vals W, Below B w0 W → (∀ e ∈ o.after, bindD e = true → (factAt fs e.on).p (vals e.on) W) →
      opYield P ops o (relAct ops a0 (fun _ => true) vals i) W (fun v W' => kindT B w0.heap.size (kd i) W W' ∧ (factAt fs i).p v W'))
    (hend : ∀ vals W, Below B w0 W → (∀ j, j < ops.size → keepB ops kd fk j = true → (factAt fs j).p (vals j) W) → Q .normal (relAct ops a0 (fun _ => true) vals ops.size) W) :
    (Code.region id ops true).wp P Q a0 w0 := by
  refine wp_region_rel hm hB (killG ops kd fk) hk (fun i W W' => kindT B w0.heap.size (kd i) W W') (fun W => Below B w0 W) (fun i v W => (factAt fs i).p v W) ?_ ?_ ?_ ?_ ?_
  · exact ⟨rfl, rfl, rfl, Nat.le_refl _, fun _ _ => rfl⟩
  · intro i W W' h1 h2
    refine h1.trans ?_
    have hs := h1.size
    generalize kd i = c at *
    match c, h2 with
    | 0, h2 => exact Below.mono h2 (by omega)
    | 1, h2 => exact Kept.below h2 (by omega) (fun k hk h => by omega)
    | c + 2, h2 => exact Below.mono h2 hBs
  · intro i j v W W' hij hki hwt hC h1 h2
    have hs := hC.size
    have hfj := hf j
    unfold killG at hki
    rw [hwt] at hki
    generalize kd i = c at *
    generalize fk j = d at *
    generalize factAt fs j = f at *
    match c, h2 with
    | 0, h2 => exact f.st _ _ _ h2 h1
    | 1, h2 =>
      match d, hfj with
      | 0, hfj => exact hfj _ _ _ h1
      | 1, hfj => exact hfj _ _ _ (Kept.mono h2 (fun k _ h => h.2)) h1
      | d + 2, _ => simp [hij] at hki
    | c + 2, h2 =>
      match d, hfj with
      | 0, hfj => exact hfj _ _ _ h1
      | 1, _ => simp [hij] at hki
      | 2, hfj => exact hfj _ _ _ h2 h1
      | d + 3, _ => simp [hij] at hki
  · intro i o ho vals W hE h
    exact step i o ho vals W hE h
  · intro vals W hE h
    refine hend vals W hE fun j hj hkj => h j hj fun i hi => ?_
    have := List.all_eq_true.1 hkj i (List.mem_range.2 hi)
    simpa only [Bool.not_eq_true'] using this
end Go.Proofs.YthogembgndkmpaaGreatDoor

/- Names on the wire, read: plain Lean, no program in sight. -/
namespace Go.Proofs.YthogembgndkmpaaGreatDoor
open Go.RowKit
namespace Nm
/-- a name read from bytes: its labels, how many bytes it takes -/
def openL : Nat → Lab → Option (List Lab × Nat)
  | 0, _ => none
  | _ + 1, [] => none
  | f + 1, c :: r => if c.toNat = 0 then some ([], 1) else if 63 < c.toNat ∨ r.length < c.toNat then none else
      (openL f (r.drop c.toNat)).map fun p => (r.take c.toNat :: p.1, p.2 + (1 + c.toNat))
def parse (b : Lab) : Option (List Lab × Nat) := openL (b.length + 1) b
theorem openL_fuel : ∀ (f g : Nat) (b : Lab), b.length < f → b.length < g → openL f b = openL g b
  | 0, _, b, h, _ => by omega
  | _ + 1, 0, b, _, h => by omega
  | f + 1, g + 1, [], _, _ => rfl
  | f + 1, g + 1, c :: r, h1, h2 => by
    unfold openL
    split
    · rfl
    · split
      · rfl
      · rw [openL_fuel f g (r.drop c.toNat) (by simp at *; omega) (by simp at *; omega)]
theorem parse_nil : parse [] = none := rfl
theorem parse_cons (c : UInt8) (r : Lab) : parse (c :: r) = if c.toNat = 0 then some ([], 1) else if 63 < c.toNat ∨ r.length < c.toNat then none else
    (parse (r.drop c.toNat)).map fun p => (r.take c.toNat :: p.1, p.2 + (1 + c.toNat)) := by
  unfold parse
  rw [show (c :: r).length + 1 = (r.length + 1) + 1 from rfl]
  conv => lhs; unfold openL
  split
  · rfl
  · split
    · rfl
    · rw [openL_fuel (r.length + 1) ((r.drop c.toNat).length + 1) (r.drop c.toNat) (by simp; omega) (by omega)]
/-- what was read so far ahead of what will be -/
def pre (n : List Lab) (k : Nat) (o : Option (List Lab × Nat)) : Option (List Lab × Nat) := o.map fun p => (n ++ p.1, p.2 + k)
theorem pre_nil (o : Option (List Lab × Nat)) : pre [] 0 o = o := by cases o <;> simp [pre]
theorem pre_step {b : Lab} {n : List Lab} {k : Nat} (hk : k < b.length) (h0 : b[k].toNat ≠ 0) (h1 : ¬ 63 < b[k].toNat) (h2 : k + 1 + b[k].toNat ≤ b.length) :
    pre n k (parse (b.drop k)) = pre (n ++ [(b.drop (k + 1)).take b[k].toNat]) (k + 1 + b[k].toNat) (parse (b.drop (k + 1 + b[k].toNat))) := by
  rw [List.drop_eq_getElem_cons hk, parse_cons, if_neg h0, if_neg (by rw [List.length_drop]; omega)]
  rw [List.drop_drop]
  cases parse (b.drop (k + 1 + b[k].toNat)) with
  | none => rfl
  | some p => simp [pre]; omega
theorem pre_end {b : Lab} {n : List Lab} {k : Nat} (hk : k < b.length) (h0 : b[k].toNat = 0) : pre n k (parse (b.drop k)) = some (n, k + 1) := by
  rw [List.drop_eq_getElem_cons hk, parse_cons, if_pos h0]
  simp [pre]; omega
theorem pre_long {b : Lab} {n : List Lab} {k : Nat} (hk : k < b.length) (h1 : 63 < b[k].toNat) : pre n k (parse (b.drop k)) = none := by
  rw [List.drop_eq_getElem_cons hk, parse_cons, if_neg (by omega), if_pos (.inl h1)]
  rfl
theorem pre_short {b : Lab} {n : List Lab} {k : Nat} (hk : k < b.length) (h0 : b[k].toNat ≠ 0) (h2 : ¬ k + 1 + b[k].toNat ≤ b.length) : pre n k (parse (b.drop k)) = none := by
  rw [List.drop_eq_getElem_cons hk, parse_cons, if_neg h0, if_pos (.inr (by rw [List.length_drop]; omega))]
  rfl
theorem pre_out {b : Lab} {n : List Lab} {k : Nat} (hk : ¬ k < b.length) : pre n k (parse (b.drop k)) = none := by
  rw [List.drop_eq_nil_of_le (by omega), parse_nil]
  rfl
/-- what is read: labels of 1 to 63 bytes, whose bytes these are -/
theorem parse_some : ∀ (m : Nat) (b : Lab), b.length ≤ m → ∀ {n k}, parse b = some (n, k) → k ≤ b.length ∧ wire n = b.take k ∧ (∀ l ∈ n, 1 ≤ l.length ∧ l.length ≤ 63) ∧ n.length < k
  | 0, b, hm, n, k, h => by
    have : b = [] := List.length_eq_zero_iff.1 (by omega)
    subst this; cases h
  | m + 1, [], hm, n, k, h => by cases h
  | m + 1, c :: r, hm, n, k, h => by
    rw [parse_cons] at h
    split at h
    · rename_i h0
      cases h
      have : c = 0 := by exact UInt8.toNat_inj.1 (by simpa using h0)
      subst this
      simp [wire, wires]
    · rename_i h0
      split at h
      · cases h
      · rename_i h1
        cases hp : parse (r.drop c.toNat) with
        | none => rw [hp] at h; cases h
        | some p =>
          obtain ⟨n', k'⟩ := p
          rw [hp] at h
          simp at h
          obtain ⟨rfl, rfl⟩ := h
          obtain ⟨g1, g2, g3, g4⟩ := parse_some m (r.drop c.toNat) (by simp at *; omega) hp
          have hlen : (r.take c.toNat).length = c.toNat := by rw [List.length_take]; omega
          refine ⟨by simp at *; omega, ?_, ?_, by simp; omega⟩
          · have e1 : wire (r.take c.toNat :: n') = wire1 (r.take c.toNat) ++ wire n' := by simp [wire, wires]
            rw [e1, g2]
            unfold wire1
            rw [hlen]
            rw [show k' + (1 + c.toNat) = (c.toNat + k') + 1 from by omega, List.take_succ_cons, List.take_add]
            simp
          · intro l hl
            rcases List.mem_cons.1 hl with rfl | hl
            · omega
            · exact g3 l hl
theorem wires_cons (l : Lab) (n : List Lab) : wires (l :: n) = wire1 l ++ wires n := rfl
theorem wire_cons (l : Lab) (n : List Lab) : wire (l :: n) = wire1 l ++ wire n := by simp [wire, wires]
theorem parse_wire : ∀ (n : List Lab) (r : Lab), (∀ l ∈ n, 1 ≤ l.length ∧ l.length ≤ 63) → parse (wire n ++ r) = some (n, (wire n).length)
  | [], r, _ => by
    show parse (0 :: r) = _
    rw [parse_cons]; rfl
  | l :: n, r, h => by
    have h1 := h l (by simp)
    have hc : (UInt8.ofNat l.length).toNat = l.length := by simp; omega
    rw [wire_cons]
    show parse (UInt8.ofNat l.length :: (l ++ wire n ++ r)) = _
    rw [parse_cons, hc, if_neg (by omega), if_neg (by simp; omega), List.append_assoc, List.drop_left, List.take_left,
      parse_wire n r (fun x hx => h x (by simp [hx]))]
    simp [wire1]
    omega
theorem wire_inj {n m : List Lab} (hn : ∀ l ∈ n, 1 ≤ l.length ∧ l.length ≤ 63) (hm : ∀ l ∈ m, 1 ≤ l.length ∧ l.length ≤ 63) (h : wire n = wire m) : n = m := by
  have h1 := parse_wire n [] hn
  have h2 := parse_wire m [] hm
  rw [h] at h1
  rw [h1] at h2
  simpa using h2

/-- the document's check of a name -/
def nameE (n : List Lab) : Int := if n.any (·.isEmpty) then 30 else if n.any (fun l => decide (63 < l.length)) || decide (255 < (wire n).length) then 31 else 0
theorem nameE_zero {n : List Lab} : nameE n = 0 ↔ (∀ l ∈ n, 1 ≤ l.length ∧ l.length ≤ 63) ∧ (wire n).length ≤ 255 := by
  unfold nameE
  constructor
  · intro h
    split at h
    · cases h
    · rename_i h1
      split at h
      · cases h
      · rename_i h2
        simp at h1 h2
        refine ⟨fun l hl => ⟨?_, h2.1 l hl⟩, h2.2⟩
        exact List.length_pos_iff.2 (fun e => h1 (e ▸ hl))
  · intro ⟨h1, h2⟩
    rw [if_neg, if_neg]
    · simp
      exact ⟨fun l hl => (h1 l hl).2, h2⟩
    · simp
      intro hl
      have := (h1 [] hl).1
      simp at this
/-- what name.Open tells -/
def openE (b : Lab) : Int := match parse b with
  | none => 30
  | some (_, k) => if 255 < k then 31 else 0
def openN (b : Lab) : List Lab := match parse b with
  | none => []
  | some (n, k) => if 255 < k then [] else n
def openK (b : Lab) : Nat := match parse b with
  | none => 0
  | some (n, k) => if 255 < k then 0 else k
theorem nameE_parse {b : Lab} {n : List Lab} {k : Nat} (h : parse b = some (n, k)) : nameE n = if 255 < k then 31 else 0 := by
  obtain ⟨h1, h2, h3, _⟩ := parse_some b.length b (Nat.le_refl _) h
  have hk : (wire n).length = k := by rw [h2, List.length_take]; omega
  unfold nameE
  rw [hk, if_neg, ]
  · have : (n.any fun l => decide (63 < l.length)) = false := by
      rw [List.any_eq_false]
      intro l hl
      have := h3 l hl
      simp; omega
    rw [this]
    simp
  · simp
    intro hl
    have := (h3 [] hl).1
    simp at this
end Nm
end Go.Proofs.YthogembgndkmpaaGreatDoor

/- Contracts of package name: Check. -/
namespace Go.Proofs.YthogembgndkmpaaGreatDoor
open Go.RowKit
namespace Nm
theorem wire_len_take {n : List Lab} {k : Nat} (h : k < n.length) : (wire (n.take (k + 1))).length = (wire (n.take k)).length + 1 + n[k].length := by
  unfold wire
  rw [wires_take h]
  simp; omega
def TotR (n : List Lab) (t : Int) : Prop := 1 ≤ t ∧ t ≤ 510 ∧ (t = ((wire n).length : Int) ∨ (255 < t ∧ 255 < (wire n).length))
def longB (n : List Lab) : Bool := n.any fun l => decide (63 < l.length)
def CheckR (n : List Lab) (w : World) (tt lg i : Value) (wr : World) : Prop :=
  ∃ (k : Nat) (t : Int), k ≤ n.length ∧ i = .int .i64 k ∧ tt = .int .i64 t ∧ lg = .bool (longB (n.take k)) ∧ TotR (n.take k) t ∧ (∀ l ∈ n.take k, l ≠ []) ∧ w = wr
theorem longB_take {n : List Lab} {k : Nat} (h : k < n.length) : longB (n.take (k + 1)) = (longB (n.take k) || decide (63 < n[k].length)) := by
  unfold longB
  rw [List.take_succ_eq_append_getElem h, List.any_append]
  simp
theorem nameE_bad {n : List Lab} (h : [] ∈ n) : nameE n = 30 := by
  unfold nameE
  rw [if_pos]
  rw [List.any_eq_true]
  exact ⟨[], h, rfl⟩
theorem nameE_good {n : List Lab} (h : ∀ l ∈ n, l ≠ []) : nameE n = if longB n = true ∨ 255 < (wire n).length then 31 else 0 := by
  unfold nameE
  rw [if_neg]
  · unfold longB
    simp
  · simp
    exact fun hl => h [] hl rfl
set_option maxHeartbeats 1000000 in
theorem Check (A : Option Addr) (n : List Lab) (cap : Nat) (w : World) (hc : Cs w A (n.map strV)) (hf : Few n) :
    Calls Tryz.prog 156 #[.slice A n.length cap] w fun e w' => e = .returned (.int .i64 (nameE n)) ∧ w = w' := by
  have hlen := hf.1
  have HF := Lib.hid hf
  clear hf
  go_enter Tryz.func156, Tryz.ntmps156
  go_wp2_with fail
  go_loopw [3, 4, 9] (CheckR n w) (fun _ _ i _ => n.length - (intOf i).toNat)
  case atStart => exact ⟨0, 1, Nat.zero_le _, rfl, rfl, rfl, ⟨by omega, by omega, .inl (by simp [wire, wires])⟩, by simp, rfl⟩
  case round =>
    obtain ⟨k, t, hk, rfl, rfl, rfl, ⟨ht1, ht2, ht3⟩, hne, rfl⟩ := hrel
    by_cases hlt : k < n.length
    · obtain ⟨bk, off, rfl, hbl, hc0⟩ := Cs.str hc hlt
      have hl6 : n[k].length ≤ 100000 := HF.out.2 n[k] (List.getElem_mem hlt)
      have HM : Hid (n[k] ∈ n) := Lib.hid (List.getElem_mem hlt)
      have HW := Lib.hid (wire_len_take hlt)
      have HL := Lib.hid (longB_take hlt)
      have HN : Hid (∀ l ∈ n.take (k + 1), l ∈ n.take k ∨ l = n[k]) := Lib.hid (by
        intro l hl
        rw [List.take_succ_eq_append_getElem hlt] at hl
        rw [List.mem_append] at hl
        simpa only [List.mem_singleton] using hl)
      have hsz := strB_size n[k]
      have htl := strB_toList n[k]
      generalize n[k] = l at *
      generalize longB (n.take k) = lg at *
      by_cases hl0 : l = []
      · subst hl0
        have HE := Lib.hid (nameE_bad HM.out)
        cases lg
        all_goals
          go_wp2_with fail
          go_ret
          exact ⟨ret_int HE.out.symm, rfl⟩
      · have hpos : 0 < l.length := List.length_pos_iff.2 hl0
        have hne2 : ((strB l).toList == []) = false := by
          rw [htl, beq_eq_false_iff_ne]; exact hl0
        have hne3 : (strB l).toList.isEmpty = false := by
          rw [htl]; simpa using hl0
        have HZ := Lib.hid hl0
        clear hl0 htl
        cases lg
        all_goals
          go_wp2_with fail
          refine ⟨⟨k + 1, _, by omega, by go_num, rfl, ?_, ⟨?_, ?_, ?_⟩, ?_, rfl⟩, by simp [intOf]; omega⟩
          · rw [HL.out]
            first
              | rfl
              | (have e : ((63 : Int) < (l.length : Int)) = (63 < l.length) := propext (by omega)
                 simp [e])
          · first | (split <;> split <;> omega) | (split <;> omega) | omega
          · first | (split <;> split <;> omega) | (split <;> omega) | omega
          · rw [HW.out]
            first | (split <;> split <;> omega) | (split <;> omega) | omega
          · intro x hx
            rcases HN.out x hx with h | h
            · exact hne x h
            · rw [h]; exact HZ.out
    · have hkl : k = n.length := by omega
      rw [hkl, List.take_length] at ht3 hne ⊢
      clear hkl
      have HE := Lib.hid (nameE_good hne)
      generalize longB n = lg at *
      clear hne
      by_cases h5 : 255 < t
      · have h6 : 255 < (wire n).length := by omega
        generalize (wire n).length = m at *
        cases lg
        all_goals
          go_wp2_with fail
          go_ret
          exact ⟨ret_int (by rw [HE.out]; simp [h6]), rfl⟩
      · have h6 : ¬ 255 < (wire n).length := by omega
        generalize (wire n).length = m at *
        cases lg
        all_goals
          go_wp2_with fail
          go_ret
          exact ⟨ret_int (by rw [HE.out]; simp [h6]), rfl⟩
end Nm
end Go.Proofs.YthogembgndkmpaaGreatDoor

/- Contracts of package name: Compare, Same, Within. -/
namespace Go.Proofs.YthogembgndkmpaaGreatDoor
open Go.RowKit
namespace Nm
theorem mixed0 : Tryz.prog.follows .mixedOrders = true := by kernel_rfl
/-- labels held against one another, the last ones first -/
def cmpR : List Lab → List Lab → Int
  | [], [] => 0
  | [], _ :: _ => -1
  | _ :: _, [] => 1
  | x :: a, y :: b => if Lib.compareBytes (low x) (low y) = 0 then cmpR a b else Lib.compareBytes (low x) (low y)
def cmpN (a b : List Lab) : Int := cmpR a.reverse b.reverse
theorem strCompare (a b : Lab) (w : World) : Calls Tryz.prog 79 #[.string (strB a), .string (strB b)] w fun e w' => e = .returned (.int .i64 (Lib.compareBytes a b)) ∧ w = w' := by
  have h := Any.strings_Compare Tryz.strCmp (strB a) (strB b) w
  exact h.mono fun e w' ⟨h1, h2⟩ => ⟨h1, h2.symm⟩
theorem cmpR_step {a b : List Lab} {j : Nat} (ha : j < a.length) (hb : j < b.length) : cmpR (a.reverse.drop j) (b.reverse.drop j) =
    if Lib.compareBytes (low (a[a.length - 1 - j]'(by omega))) (low (b[b.length - 1 - j]'(by omega))) = 0 then cmpR (a.reverse.drop (j + 1)) (b.reverse.drop (j + 1)) else Lib.compareBytes (low (a[a.length - 1 - j]'(by omega))) (low (b[b.length - 1 - j]'(by omega))) := by
  rw [List.drop_eq_getElem_cons (l := a.reverse) (by simpa using ha), List.drop_eq_getElem_cons (l := b.reverse) (by simpa using hb)]
  simp only [cmpR, List.getElem_reverse]
theorem cmpR_end {a b : List Lab} {j : Nat} (h : ¬ (j < a.length ∧ j < b.length)) (ha : j ≤ a.length) (hb : j ≤ b.length) : cmpR (a.reverse.drop j) (b.reverse.drop j) = if a.length < b.length then -1 else if b.length < a.length then 1 else 0 := by
  by_cases h1 : j < a.length
  · have h2 : j = b.length := by omega
    rw [List.drop_eq_getElem_cons (l := a.reverse) (by simpa using h1), List.drop_eq_nil_of_le (show b.reverse.length ≤ j by simp; omega), if_neg (by omega), if_pos (by omega)]
    rfl
  · have h2 : j = a.length := by omega
    rw [List.drop_eq_nil_of_le (show a.reverse.length ≤ j by simp; omega)]
    by_cases h3 : j < b.length
    · rw [List.drop_eq_getElem_cons (l := b.reverse) (by simpa using h3), if_pos (by omega)]
      rfl
    · rw [List.drop_eq_nil_of_le (show b.reverse.length ≤ j by simp; omega), if_neg (by omega), if_neg (by omega)]
      rfl
def CmpR (a b : List Lab) (w : World) (i : Value) (wr : World) : Prop :=
  ∃ j : Nat, j ≤ a.length ∧ j ≤ b.length ∧ i = .int .i64 j ∧ cmpN a b = cmpR (a.reverse.drop j) (b.reverse.drop j) ∧ Below w.heap.size w wr
set_option maxRecDepth 100000 in
set_option maxHeartbeats 20000000 in
theorem Compare (A B : Option Addr) (a b : List Lab) (ca cb : Nat) (w : World) (hca : Cs w A (a.map strV)) (hcb : Cs w B (b.map strV)) (ha : Few a) (hb : Few b) :
    Calls Tryz.prog 56 #[.slice A a.length ca, .slice B b.length cb] w fun e w' => Below w.heap.size w w' ∧ e = .returned (.int .i64 (cmpN a b)) := by
  have hla := ha.1
  have hlb := hb.1
  have HA := Lib.hid hca
  have HB := Lib.hid hcb
  have HF := Lib.hid ha
  have HG := Lib.hid hb
  clear hca hcb ha hb
  go_enter Tryz.func56, Tryz.ntmps56
  go_wp2_with fail
  go_loopw [12] (CmpR a b w) (fun i _ => a.length - (intOf i).toNat)
  case atStart => exact ⟨0, Nat.zero_le _, Nat.zero_le _, rfl, rfl, Below.refl _ _⟩
  case round =>
    obtain ⟨j, hja, hjb, rfl, hcmp, hbel⟩ := hrel
    have HC := Lib.hid hcmp
    clear hcmp
    by_cases hlt : j < a.length ∧ j < b.length
    · obtain ⟨h1, h2⟩ := hlt
      have hm1 : a.length - 1 - j < a.length := by omega
      have hm2 : b.length - 1 - j < b.length := by omega
      obtain ⟨ba, oa, rfl, hba, hxa⟩ := Cs.str HA.out hm1
      obtain ⟨bb, ob, rfl, hbb, hxb⟩ := Cs.str HB.out hm2
      have HS := Lib.hid (cmpR_step h1 h2)
      have wa : IntKind.i64.wrap ((a.length : Int) - 1) = (a.length : Int) - 1 := IntWalk.i64_in _ (by omega)
      have wb : IntKind.i64.wrap ((b.length : Int) - 1) = (b.length : Int) - 1 := IntWalk.i64_in _ (by omega)
      have wa2 : IntKind.i64.wrap ((a.length : Int) - 1 - j) = ((a.length - 1 - j : Nat) : Int) := by rw [IntWalk.i64_in _ (by omega)]; omega
      have wb2 : IntKind.i64.wrap ((b.length : Int) - 1 - j) = ((b.length - 1 - j : Nat) : Int) := by rw [IntWalk.i64_in _ (by omega)]; omega
      have s1 := HF.out.2 _ (List.getElem_mem hm1)
      have s2 := HG.out.2 _ (List.getElem_mem hm2)
      generalize a[a.length - 1 - j] = x at *
      generalize b[b.length - 1 - j] = y at *
      go_wp2_with fail
      have hxa1 := (hbel.cell (p := ⟨ba, oa + (a.length - 1 - j), none⟩) hba).trans hxa
      have hxb1 := (hbel.cell (p := ⟨bb, ob + (b.length - 1 - j), none⟩) hbb).trans hxb
      have hbs := hbel.size
      have HL1 : Hid (strB (low x) = strB (low x)) := Lib.hid rfl
      refine wp_region_mono mixed0 (by kernel_rfl) [.is (.slice (some ⟨ba, oa, none⟩) a.length ca), .is (.slice (some ⟨ba, oa, none⟩) a.length ca), .is (.int .i64 a.length), .is (.int .i64 ((a.length : Int) - 1)), .is (.int .i64 j), .is (.int .i64 (a.length - 1 - j : Nat)),
        .is (.pointer (some ⟨ba, oa + (a.length - 1 - j), none⟩)), .is (.string (strB x)), .is (.string (strB (low x))),
        .is (.slice (some ⟨bb, ob, none⟩) b.length cb), .is (.slice (some ⟨bb, ob, none⟩) b.length cb), .is (.int .i64 b.length), .is (.int .i64 ((b.length : Int) - 1)), .is (.int .i64 j), .is (.int .i64 (b.length - 1 - j : Nat)),
        .is (.pointer (some ⟨bb, ob + (b.length - 1 - j), none⟩)), .is (.string (strB y)), .is (.string (strB (low y))), .is (.int .i64 (Lib.compareBytes (low x) (low y))), .is (.int .i64 (Lib.compareBytes (low x) (low y)))] rfl ?_ ?_
      · intro i o hio vals W hE haf
        have e0 := (bcl hE (by omega)).trans hxa1
        have e1 := (bcl hE (by omega)).trans hxb1
        clear hxa hxa1 hxb hxb1
        rcases i with _ | _ | _ | _ | _ | _ | _ | _ | _ | _ | _ | _ | _ | _ | _ | _ | _ | _ | _ | _ | i
        all_goals first
          | (exfalso; simp at hio; done)
          | (simp at hio; subst hio; simp [bindD, rdB, Region.binds, factAt] at haf; simp [opYield_def, yieldUpon, relAct, dstAt, Act.put, Region.wanted, go_sem, haf, e0, e1, Ext.refl, factAt, wa, wb, wa2, wb2, hm1, hm2]; done)
          | skip
        all_goals
          simp at hio
          subst hio
          simp [bindD, rdB, Region.binds, factAt] at haf
          simp [opYield_def, yieldUpon, relAct, dstAt, Act.put, Region.wanted, go_sem, haf, factAt]
        · exact (small x W (by omega)).mono fun e W' h => h
        · exact (small y W (by omega)).mono fun e W' h => h
        · exact (strCompare (low x) (low y) W).mono fun e W' h => ⟨h.1, h.2 ▸ Ext.refl _⟩
      · intro vals W hE hF
        simp [facts] at hF
        simp [relAct, dstAt, Act.put, hF]
        clear hF
        have hb5 := hbel.trans (Below.mono hE hbs)
        generalize Lib.compareBytes (low x) (low y) = c at *
        by_cases hc0 : c = 0
        · have hcb : (c == 0) = true := by simp [hc0]
          have hcb2 : (c != 0) = false := by simp [hc0]
          have HS2 := Lib.hid hc0
          clear hc0
          go_wp2_with fail
          exact ⟨⟨j + 1, h1, h2, by go_num, by rw [HC.out, HS.out, if_pos HS2.out], hb5⟩, by simp [intOf]; omega⟩
        · have hcb : (c == 0) = false := by simp [hc0]
          have hcb2 : (c != 0) = true := by simp [hc0]
          go_wp2_with fail
          go_ret
          exact ⟨hb5, ret_int (by rw [HC.out, HS.out, if_neg hc0])⟩
    · have HE := Lib.hid (cmpR_end hlt hja hjb)
      have hmin : ¬ (j : Int) < min (a.length : Int) (b.length : Int) := by omega
      by_cases h1 : a.length < b.length
      · have HV : Hid (cmpN a b = -1) := Lib.hid (by rw [HC.out, HE.out, if_pos h1])
        clear HC HE
        go_wp2_with fail
        go_ret
        exact ⟨hbel, ret_int HV.out.symm⟩
      · by_cases h2 : b.length < a.length
        · have HV : Hid (cmpN a b = 1) := Lib.hid (by rw [HC.out, HE.out, if_neg h1, if_pos h2])
          clear HC HE
          go_wp2_with fail
          go_ret
          exact ⟨hbel, ret_int HV.out.symm⟩
        · have HV : Hid (cmpN a b = 0) := Lib.hid (by rw [HC.out, HE.out, if_neg h1, if_neg h2])
          clear HC HE
          go_wp2_with fail
          go_ret
          exact ⟨hbel, ret_int HV.out.symm⟩
end Nm
end Go.Proofs.YthogembgndkmpaaGreatDoor

/- Contracts of package name: Same, Within; the order of names. -/
namespace Go.Proofs.YthogembgndkmpaaGreatDoor
open Go.RowKit
namespace Nm
theorem cb_zero : ∀ (a b : Lab), Lib.compareBytes a b = 0 ↔ a = b
  | [], [] => by simp [Lib.compareBytes]
  | [], _ :: _ => by simp [Lib.compareBytes]
  | _ :: _, [] => by simp [Lib.compareBytes]
  | x :: a, y :: b => by
    unfold Lib.compareBytes
    have ih := cb_zero a b
    by_cases h1 : x < y
    · rw [if_pos h1]
      constructor
      · intro h; cases h
      · intro h; cases h; exact absurd h1 (UInt8.lt_irrefl x)
    · rw [if_neg h1]
      by_cases h2 : y < x
      · rw [if_pos h2]
        constructor
        · intro h; cases h
        · intro h; cases h; exact absurd h2 (UInt8.lt_irrefl x)
      · rw [if_neg h2, ih]
        have hxy : x = y := by
          rw [UInt8.lt_iff_toNat_lt] at h1 h2
          exact UInt8.toNat_inj.1 (by omega)
        constructor
        · intro h; rw [h, hxy]
        · intro h; injection h
theorem cmpR_zero : ∀ (a b : List Lab), cmpR a b = 0 ↔ lower a = lower b
  | [], [] => by simp [cmpR]
  | [], _ :: _ => by simp [cmpR, lower]
  | _ :: _, [] => by simp [cmpR, lower]
  | x :: a, y :: b => by
    unfold cmpR
    have ih := cmpR_zero a b
    have e : lower (x :: a) = lower (y :: b) ↔ low x = low y ∧ lower a = lower b := by simp [lower]
    rw [e]
    split
    · rename_i h
      rw [ih, ← cb_zero]
      simp [h]
    · rename_i h
      rw [cb_zero] at h
      constructor
      · intro h2; rw [cb_zero] at h2; exact absurd h2 h
      · intro h2; exact absurd h2.1 h
theorem cmpN_zero (a b : List Lab) : cmpN a b = 0 ↔ lower a = lower b := by
  unfold cmpN
  rw [cmpR_zero]
  unfold lower
  rw [List.map_reverse, List.map_reverse, List.reverse_inj]
def same (a b : List Lab) : Bool := cmpN a b == 0
theorem same_iff (a b : List Lab) : same a b = true ↔ lower a = lower b := by unfold same; rw [beq_iff_eq, cmpN_zero]
def within (n apex : List Lab) : Bool := decide (apex.length ≤ n.length) && same (n.drop (n.length - apex.length)) apex
theorem within_iff (n apex : List Lab) : within n apex = true ↔ apex.length ≤ n.length ∧ lower (n.drop (n.length - apex.length)) = lower apex := by
  unfold within
  rw [Bool.and_eq_true, decide_eq_true_eq, same_iff]
theorem Same (A B : Option Addr) (a b : List Lab) (ca cb : Nat) (w : World) (hca : Cs w A (a.map strV)) (hcb : Cs w B (b.map strV)) (ha : Few a) (hb : Few b) :
    Calls Tryz.prog 34 #[.slice A a.length ca, .slice B b.length cb] w fun e w' => Below w.heap.size w w' ∧ e = .returned (.bool (same a b)) := by
  have hc := Compare A B a b ca cb w hca hcb ha hb
  unfold same
  generalize cmpN a b = c at *
  go_enter Tryz.func34, Tryz.ntmps34
  go_wp2_with fail
  refine hc.mono ?_
  rintro e w' ⟨hb, rfl⟩
  go_wp2_with fail
  go_ret
  exact ⟨hb, rfl⟩
set_option maxRecDepth 100000 in
set_option maxHeartbeats 2000000 in
theorem Within (A B : Option Addr) (a b : List Lab) (ca cb : Nat) (w : World) (hca : Cs w A (a.map strV)) (hcb : Cs w B (b.map strV)) (ha : Few a) (hb : Few b) (hcap : a.length ≤ ca) (hcap2 : ca ≤ maxLen) :
    Calls Tryz.prog 35 #[.slice A a.length ca, .slice B b.length cb] w fun e w' => Below w.heap.size w w' ∧ e = .returned (.bool (within a b)) := by
  unfold maxLen at hcap2
  have hla := ha.1
  have hlb := hb.1
  by_cases h : b.length ≤ a.length
  · have hd := hca.drop' (a.length - b.length) ca (by simpa using hcap)
    rw [← List.map_drop] at hd
    have hdl : (a.drop (a.length - b.length)).length = a.length - (a.length - b.length) := List.length_drop
    have HW : Hid (within a b = same (a.drop (a.length - b.length)) b) := Lib.hid (by unfold within; simp [h])
    have hS := fun A' c' (hA' : Cs w A' ((a.drop (a.length - b.length)).map strV)) => Same A' B (a.drop (a.length - b.length)) b c' cb w hA' hcb (ha.drop _) hb
    rw [hdl] at hS
    have hge : decide (b.length ≤ a.length) = true := by simpa using h
    clear hdl
    have HS := Lib.hid hS
    have HD := Lib.hid hd
    clear hS hd ha hb hca hcb
    generalize same (a.drop (a.length - b.length)) b = s at *
    go_enter Tryz.func35, Tryz.ntmps35
    go_wp2_with fail
    all_goals
      have HD2 := HD.out
      simp only [h, if_true, if_false] at HD2
      refine (HS.out _ _ HD2).mono ?_
      rintro e w' ⟨hb5, rfl⟩
      go_wp2_with fail
      go_ret
      exact ⟨hb5, by rw [HW.out]; rfl⟩
  · have HW : Hid (within a b = false) := Lib.hid (by unfold within; simp [h])
    have hge : decide (b.length ≤ a.length) = false := by simpa using h
    go_enter Tryz.func35, Tryz.ntmps35
    go_wp2_with fail
    go_ret
    exact ⟨Below.refl _ _, by rw [HW.out]; rfl⟩
end Nm
end Go.Proofs.YthogembgndkmpaaGreatDoor

/- Contracts of slices.Clone, Grow, Concat at bytes; rows of rows of bytes. -/
namespace Go.Proofs.YthogembgndkmpaaGreatDoor
open Go.RowKit Go.Shelf

/-- bytes that lie somewhere -/
structure Blob where
  A : Option Addr
  l : Lab
  cap : Nat
instance : Inhabited Blob := ⟨⟨none, [], 0⟩⟩
def Blob.v (b : Blob) : Value := .slice b.A b.l.length b.cap
def Blob.ok (w : World) (b : Blob) : Prop := Cs w b.A (b.l.map byteV)
def Blobs (w : World) (bs : List Blob) : Prop := ∀ b ∈ bs, b.ok w
def join (bs : List Blob) : Lab := bs.flatMap (·.l)
theorem Blobs.below {w w' : World} {bs : List Blob} (h : Blobs w bs) (hb : Below w.heap.size w w') : Blobs w' bs := fun b hb2 => Cs.below (h b hb2) hb
theorem Blobs.drewN {w : World} {bs : List Blob} (h : Blobs w bs) (k : Nat) : Blobs (w.drewN k) bs := h
theorem join_take {bs : List Blob} {k : Nat} (h : k < bs.length) : join (bs.take (k + 1)) = join (bs.take k) ++ bs[k].l := by
  unfold join
  rw [List.take_succ_eq_append_getElem h, List.flatMap_append]
  simp
theorem join_take_le (bs : List Blob) (k : Nat) : (join (bs.take k)).length ≤ (join bs).length := by
  unfold join
  conv => rhs; rw [← List.take_append_drop k bs, List.flatMap_append, List.length_append]
  omega
theorem Cs.blob {w : World} {A : Option Addr} {bs : List Blob} (h : Cs w A (bs.map Blob.v)) {i : Nat} (hi : i < bs.length) :
    ∃ b off, A = some ⟨b, off, none⟩ ∧ b < w.heap.size ∧ w.cell? ⟨b, off + i, none⟩ = some (.slice bs[i].A bs[i].l.length bs[i].cap) := by
  refine h i _ ?_
  simp [Blob.v, hi]
theorem own_empty (w : World) (B g cap : Nat) (e : TypeId) (cs : Array Value) (h : w.heap[g]? = some (.cells cs e (0, 0))) (hB : B ≤ g) (hc : cap ≤ maxLen) (hs : cs.size = cap) : w.ownsRow B e 1 (.slice (some ⟨g, 0, none⟩) 0 cap) 0 [] :=
  ⟨by simp, .inr ⟨g, cap, cs, rfl, hB, h, Nat.zero_le _, hc, by omega, by simp⟩⟩

theorem GrowNil (n : Nat) (w : World) (hn : n ≤ 1000000000) : Calls Tryz.prog 68 #[.slice none 0 0, .int .i64 n] w fun e w' => ∃ v, e = .returned v ∧ w'.ownsRow w.heap.size 5 1 v 0 [] ∧ Below w.heap.size w w' := by
  obtain ⟨i0, hi, hz0, hz1, hz2⟩ := info_parts info_u8
  by_cases h0 : n = 0
  · subst h0
    have h := Any8.slices_Grow_room Tryz.growB none 0 0 0 w (Nat.le_refl _) (by omega) (by omega) (by omega)
    change Calls Tryz.prog 68 _ _ _ at h
    refine h.mono fun e w' ⟨he, hw⟩ => ?_
    subst hw
    exact ⟨_, he, World.ownsRow_nil _ _ _ _, Below.refl _ _⟩
  · have h := Any8.slices_Grow_grow Tryz.growB i0 (.int .u8 0) hi hz0 (by omega) none 0 0 n [] w (Nat.le_refl _) (by omega) (by rw [hz2]; omega) (by omega) (by simp) (fun _ => rfl) (fun a ha => by cases ha)
    change Calls Tryz.prog 68 _ _ _ at h
    refine h.mono fun e w' ⟨he, hw⟩ => ?_
    subst hw
    refine ⟨_, he, own_empty _ _ _ _ _ _ (heap_alloc_new _ _) (Nat.le_refl _) (grownCap_le_maxLen _ _ _ _ (by unfold maxLen; omega)) ?_, ?_⟩
    · have hge := grownCap_ge w (0 + n) 0 5
      have hg : ∀ (a b : Nat), (Builtin.zeroCells (Value.int .u8 0).cells a).size = a := fun a b => by simp [Builtin.zeroCells, Value.cells]
      show (((#[] : Array Value) ++ Builtin.zeroCells (Value.int .u8 0).cells (0 + n - 0)) ++ Builtin.zeroCells (Value.int .u8 0).cells (grownCap w (0 + n) 0 5 - (0 + n))).size = grownCap w (0 + n) 0 5
      rw [Array.size_append, Array.size_append, hg _ 0, hg _ 0]
      generalize grownCap w (0 + n) 0 5 = q at *
      show 0 + (0 + n - 0) + (q - (0 + n)) = q
      omega
    · exact ((Below.refl w.heap.size w).drew).alloc (Nat.le_refl _) _

def ConcR1 (bs : List Blob) (w : World) (s i : Value) (wr : World) : Prop :=
  ∃ k : Nat, k ≤ bs.length ∧ i = .int .i64 k ∧ s = .int .i64 (join (bs.take k)).length ∧ Below w.heap.size w wr
def ConcR2 (bs : List Blob) (w : World) (v i : Value) (wr : World) : Prop :=
  ∃ k : Nat, k ≤ bs.length ∧ i = .int .i64 k ∧ wr.ownsRow w.heap.size 5 1 v (join (bs.take k)).length ((join (bs.take k)).map byteV) ∧ Below w.heap.size w wr
set_option maxHeartbeats 1000000 in
theorem Concat (A : Option Addr) (bs : List Blob) (cap : Nat) (w : World) (hc : Cs w A (bs.map Blob.v)) (hb : Blobs w bs) (hn : bs.length ≤ 1000000) (hj : (join bs).length ≤ 100000000) :
    Calls Tryz.prog 46 #[.slice A bs.length cap] w fun e w' => ∃ v, e = .returned v ∧ w'.ownsRow w.heap.size 5 1 v (join bs).length ((join bs).map byteV) ∧ Below w.heap.size w w' := by
  have HB := Lib.hid hb
  clear hb
  go_enter Tryz.func46, Tryz.ntmps46
  go_wp2_with fail
  go_loopw [3, 11] (ConcR1 bs w) (fun _ i _ => bs.length - (intOf i).toNat)
  case atStart => exact ⟨0, Nat.zero_le _, rfl, rfl, Below.refl _ _⟩
  case round =>
    obtain ⟨k, hk, rfl, rfl, hbel⟩ := hrel
    have hjk := join_take_le bs k
    have hjk1 := join_take_le bs (k + 1)
    by_cases hlt : k < bs.length
    · obtain ⟨bk, off, rfl, hbl, hc0⟩ := Cs.blob hc hlt
      have hc1 := (hbel.cell (p := ⟨bk, off + k, none⟩) hbl).trans hc0
      have hjt := join_take hlt
      rw [hjt, List.length_append] at hjk1
      have HN : Hid ((join (bs.take (k + 1))).length = (join (bs.take k)).length + bs[k].l.length) := Lib.hid (by rw [hjt, List.length_append])
      clear hjt
      generalize bs[k] = b at *
      generalize (join (bs.take k)).length = s at *
      generalize (join bs).length = tot at *
      generalize b.l.length = bl at *
      go_wp2_with fail
      exact ⟨⟨k + 1, by omega, by go_num, by rw [HN.out]; go_num, hbel⟩, by simp [intOf]; omega⟩
    · have hkl : k = bs.length := by omega
      subst hkl
      rw [List.take_length]
      clear hjk hjk1
      go_wp2_with fail
      refine (GrowNil (join bs).length _ (by omega)).mono ?_
      rintro e w2 ⟨v2, rfl, hown2, hb2⟩
      have hown2' : w2.ownsRow w.heap.size 5 1 v2 0 [] := ⟨hown2.1, by
        rcases hown2.2 with h | ⟨g, c, cur, h1, h2, h3⟩
        · exact .inl h
        · exact .inr ⟨g, c, cur, h1, Nat.le_trans hbel.size h2, h3⟩⟩
      have hbel2 := hbel.trans (hb2.mono hbel.size)
      clear hown2 hb2 hbel
      go_wp2_with fail
      go_loopw [6, 27] (ConcR2 bs w) (fun _ i _ => bs.length - (intOf i).toNat)
      case atStart => exact ⟨0, Nat.zero_le _, rfl, hown2', hbel2⟩
      case round =>
        obtain ⟨k, hk, rfl, hown, hbel⟩ := hrel
        have hjk := join_take_le bs k
        have hjk1 := join_take_le bs (k + 1)
        by_cases hlt : k < bs.length
        · obtain ⟨bk, off, rfl, hbl, hc0⟩ := Cs.blob hc hlt
          have hc1 := (hbel.cell (p := ⟨bk, off + k, none⟩) hbl).trans hc0
          have hjt := join_take hlt
          rw [hjt, List.length_append] at hjk1
          have HN := Lib.hid hjt
          have hok : Cs wr bs[k].A (bs[k].l.map byteV) := Cs.below (HB.out bs[k] (List.getElem_mem hlt)) hbel
          clear hjt
          generalize bs[k] = b at *
          generalize join (bs.take k) = xs at *
          generalize (join bs).length = tot at *
          go_wp2_with (first | (at_builtin; refine wpList_bytes hown hbel.size hok rfl (.tmp 31) (.tmp 32) Tryz.underlying28 rfl rfl rfl (by omega) ?_; intro v4 w4 hown4 hbw4; have hbw5 := hbel.trans hbw4))
          exact ⟨⟨k + 1, by omega, by go_num, by rw [HN.out, List.length_append]; exact hown4, hbw5⟩, by simp [intOf]; omega⟩
        · have hkl : k = bs.length := by omega
          subst hkl
          rw [List.take_length] at hown
          clear hjk hjk1
          go_wp2_with fail
          go_ret
          exact ⟨_, rfl, hown, hbel⟩

set_option maxHeartbeats 1000000 in
theorem CloneB (A : Option Addr) (l : Lab) (cap : Nat) (w : World) (hc : Cs w A (l.map byteV)) (hn : l.length ≤ 100000000) :
    Calls Tryz.prog 87 #[.slice A l.length cap] w fun e w' => ∃ v, e = .returned v ∧ w'.ownsRow w.heap.size 5 1 v l.length (l.map byteV) ∧ Below w.heap.size w w' := by
  cases A with
  | none =>
    have hl : l = [] := by simpa using hc.none_nil
    have hq : ∀ W, (binOp .eql 28 (.slice none l.length cap) (.slice none 0 0)).run Tryz.prog W = .ok (.bool true) W := fun W => Lib.run_eql_slice_nil (P := Tryz.prog) W 28 5 none l.length cap 0 0 Tryz.underlying28
    have HL : Hid (∀ w : World, w.ownsRow w.heap.size 5 1 (.slice none 0 0) l.length (l.map byteV)) := Lib.hid (fun w => by rw [hl]; exact World.ownsRow_nil _ _ _ _)
    clear hl
    generalize l.length = m at *
    go_enter Tryz.func87, Tryz.ntmps87
    go_wp2_with fail
    go_ret
    exact ⟨_, rfl, HL.out _, Below.refl _ _⟩
  | some a =>
    have hq : ∀ W, (binOp .eql 28 (.slice (some a) l.length cap) (.slice none 0 0)).run Tryz.prog W = .ok (.bool false) W := fun W => Lib.run_eql_slice_nil (P := Tryz.prog) W 28 5 (some a) l.length cap 0 0 Tryz.underlying28
    have hown : (w.alloc (.cells #[] 5)).ownsRow w.heap.size 5 1 (.slice (some ⟨w.heap.size, 0, none⟩) 0 0) 0 (([] : Lab).map byteV) := own_empty _ _ _ _ _ _ (heap_alloc_new _ _) (Nat.le_refl _) (by unfold maxLen; omega) rfl
    have hb0 : Below w.heap.size w (w.alloc (.cells #[] 5)) := (Below.refl _ _).alloc (Nat.le_refl _) _
    have hc1 := hc.below hb0
    have HO := Lib.hid hown
    clear hown
    go_enter Tryz.func87, Tryz.ntmps87
    go_wp2_with (first | (at_builtin; refine wpList_bytes HO.out hb0.size hc1 rfl _ _ Tryz.underlying28 rfl rfl rfl (by omega) ?_; intro v4 w4 hown4 hbw4; have hbw5 := hb0.trans hbw4))
    go_ret
    exact ⟨_, rfl, by simpa using hown4, hbw5⟩
end Go.Proofs.YthogembgndkmpaaGreatDoor

/- Contracts of package rdata: put, SigBytes. -/
namespace Go.Proofs.YthogembgndkmpaaGreatDoor
open Go.RowKit
namespace Nm
/-- append of bytes that lie somewhere to a row of the call's own, in a region that draws -/
theorem yield_bytes {ops : Array Oper} {o : Oper} {a : Act} {W : World} {R : Value → World → Prop} (hgd : o.guard = none) (sl x : Operand) {t : TypeId} (ht : Tryz.prog.underlying t = some (.slice 5))
    (ho : o.op = .call { callee := .builtin .append, args := #[sl, x], argTypes := #[t, t] }) {B : Nat} {v : Value} {n : Nat} {xs us : List Value} (hs : a.eval sl = v) (hown : W.ownsRow B 5 1 v n xs) (hB : B ≤ W.heap.size)
    {A : Option Addr} {c : Nat} (hx : a.eval x = .slice A us.length c) (hcs : Cs W A us) (h1 : ∀ u ∈ us, u.oneCell' = true) (hn : n + us.length ≤ 1000000000)
    (h : ∀ v' W', W'.ownsRow B 5 1 v' (n + us.length) (xs ++ us) → Below B W W' → R v' W') : opYield Tryz.prog ops o a W R := by
  obtain ⟨i0, hi, hz0, hz1, hz2⟩ := info_parts info_u8
  have hw : Region.wanted o (yielded ops a.tmps) = true := by simp [Region.wanted, hgd]
  rw [opYield_def, if_pos hw]
  cases A with
  | none =>
    have hsn : us = [] := hcs.none_nil
    subst hsn
    have hr := run_nothing (P := Tryz.prog) (ty := o.type) ht hi hown c
    unfold execOp
    simp only [ho, resolve, invoke, builtin, Sem.run_bind, Sem.run_pure, Result.andThen_ok, List.map_toArray, List.map_cons, List.map_nil, hs, hx, List.length_nil, hr]
    exact h v W (by simpa using hown) (Below.refl _ _)
  | some b =>
    obtain ⟨v', W', hr, h2, h3, _⟩ := run_append_own (P := Tryz.prog) W B t o.type 5 i0 _ 1 1 ht hi hz0 hz1 hz2 rfl (by decide) v n xs hown b us.length c us (by simp) hcs.cells h1 (by unfold maxLen; omega) (by omega) hB
    unfold execOp
    simp only [ho, resolve, invoke, builtin, Sem.run_bind, Sem.run_pure, Result.andThen_ok, List.map_toArray, List.map_cons, List.map_nil, hs, hx, hr]
    exact h v' W' h2 ((Below.refl _ _).grown h3 hB (fun k hk => (hown.lt k hk).1))
/-- a number's bytes, the highest first -/
def be2 (n : Nat) : Lab := [UInt8.ofNat (n / 256), UInt8.ofNat n]
def be4 (n : Nat) : Lab := [UInt8.ofNat (n / 16777216), UInt8.ofNat (n / 65536), UInt8.ofNat (n / 256), UInt8.ofNat n]
theorem byteV_mod (n : Nat) : byteV (UInt8.ofNat n) = .int .u8 ((n : Int) % 256) := by
  unfold byteV
  rw [UInt8.toNat_ofNat']
  congr 1
set_option maxRecDepth 100000 in
set_option maxHeartbeats 4000000 in
theorem put2 (B : Nat) (v : Value) (m : Nat) (xs : Lab) (n : Nat) (w : World) (hown : w.ownsRow B 5 1 v m (xs.map byteV)) (hB : B ≤ w.heap.size) (hm : m ≤ 100000000) (hn : n < 4294967296) :
    Calls Tryz.prog 55 #[v, .int .u32 n, .int .i64 2] w fun e w' => ∃ v', e = .returned v' ∧ w'.ownsRow B 5 1 v' (m + 2) ((xs ++ be2 n).map byteV) ∧ Moved v w v' w' := by
  obtain ⟨i0, hi, hz0, hz1, hz2⟩ := info_parts info_u8
  have tok1 : True := trivial
  have tok2 : True := trivial
  go_enter Tryz.func55, Tryz.ntmps55
  go_wp2_with fail
  refine wp_loop_rounds 3 ?_
  rw [rounds_succ]
  go_wp2_with (first | (at_builtin; have _t := tok1; refine wpList_push3 hown hB [.int .u8 ((n : Int) / 256 % 256)] rfl (by simp [Value.oneCell']) hi hz0 hz1 hz2 rfl (by decide) rfl (.tmp 14) _ 28 Tryz.underlying28 rfl rfl rfl (by unfold maxLen; omega) (by omega) ?_; intro v1 w1 hown1 hbw1; clear tok1; have hbs1 := hbw1.kept.size))
  rw [rounds_succ]
  have hB1 := Nat.le_trans hB hbs1
  go_wp2_with (first | (at_builtin; have _t := tok2; refine wpList_push3 hown1 hB1 [.int .u8 ((n : Int) % 256)] rfl (by simp [Value.oneCell']) hi hz0 hz1 hz2 rfl (by decide) rfl (.tmp 14) _ 28 Tryz.underlying28 rfl rfl rfl (by unfold maxLen; omega) (by omega) ?_; intro v2 w2 hown2 hbw2; clear tok2; have hbs2 := Nat.le_trans hbs1 hbw2.kept.size))
  rw [rounds_succ]
  go_wp2_with fail
  go_ret
  refine ⟨_, rfl, ?_, hbw1.trans hbw2⟩
  have e1 := byteV_mod (n / 256)
  have e2 := byteV_mod n
  rw [show ((n / 256 : Nat) : Int) = (n : Int) / 256 from by omega] at e1
  rw [List.map_append]
  show w2.ownsRow B 5 1 v2 (m + 1 + 1) (xs.map byteV ++ [byteV (UInt8.ofNat (n / 256)), byteV (UInt8.ofNat n)])
  rw [e1, e2, show [Value.int .u8 ((n : Int) / 256 % 256), Value.int .u8 ((n : Int) % 256)] = [Value.int .u8 ((n : Int) / 256 % 256)] ++ [Value.int .u8 ((n : Int) % 256)] from rfl, ← List.append_assoc]
  exact hown2
set_option maxRecDepth 100000 in
set_option maxHeartbeats 4000000 in
theorem put4 (B : Nat) (v : Value) (m : Nat) (xs : Lab) (n : Nat) (w : World) (hown : w.ownsRow B 5 1 v m (xs.map byteV)) (hB : B ≤ w.heap.size) (hm : m ≤ 100000000) (hn : n < 4294967296) :
    Calls Tryz.prog 55 #[v, .int .u32 n, .int .i64 4] w fun e w' => ∃ v', e = .returned v' ∧ w'.ownsRow B 5 1 v' (m + 4) ((xs ++ be4 n).map byteV) ∧ Moved v w v' w' := by
  obtain ⟨i0, hi, hz0, hz1, hz2⟩ := info_parts info_u8
  have tok1 : True := trivial
  have tok2 : True := trivial
  have tok3 : True := trivial
  have tok4 : True := trivial
  go_enter Tryz.func55, Tryz.ntmps55
  go_wp2_with fail
  refine wp_loop_rounds 5 ?_
  rw [rounds_succ]
  go_wp2_with (first | (at_builtin; have _t := tok1; refine wpList_push3 hown hB [.int .u8 ((n : Int) / 16777216)] rfl (by simp [Value.oneCell']) hi hz0 hz1 hz2 rfl (by decide) rfl (.tmp 14) _ 28 Tryz.underlying28 rfl rfl rfl (by unfold maxLen; omega) (by omega) ?_; intro v1 w1 hown1 hbw1; clear tok1; have hbs1 := hbw1.kept.size))
  have hB1 := Nat.le_trans hB hbs1
  rw [rounds_succ]
  go_wp2_with (first | (at_builtin; have _t := tok2; refine wpList_push3 hown1 hB1 [.int .u8 ((n : Int) / 65536 % 256)] rfl (by simp [Value.oneCell']) hi hz0 hz1 hz2 rfl (by decide) rfl (.tmp 14) _ 28 Tryz.underlying28 rfl rfl rfl (by unfold maxLen; omega) (by omega) ?_; intro v2 w2 hown2 hbw2; clear tok2; have hbs2 := Nat.le_trans hbs1 hbw2.kept.size))
  have hB2 := Nat.le_trans hB hbs2
  rw [rounds_succ]
  go_wp2_with (first | (at_builtin; have _t := tok3; refine wpList_push3 hown2 hB2 [.int .u8 ((n : Int) / 256 % 256)] rfl (by simp [Value.oneCell']) hi hz0 hz1 hz2 rfl (by decide) rfl (.tmp 14) _ 28 Tryz.underlying28 rfl rfl rfl (by unfold maxLen; omega) (by omega) ?_; intro v3 w3 hown3 hbw3; clear tok3; have hbs3 := Nat.le_trans hbs2 hbw3.kept.size))
  have hB3 := Nat.le_trans hB hbs3
  rw [rounds_succ]
  go_wp2_with (first | (at_builtin; have _t := tok4; refine wpList_push3 hown3 hB3 [.int .u8 ((n : Int) % 256)] rfl (by simp [Value.oneCell']) hi hz0 hz1 hz2 rfl (by decide) rfl (.tmp 14) _ 28 Tryz.underlying28 rfl rfl rfl (by unfold maxLen; omega) (by omega) ?_; intro v4 w4 hown4 hbw4; clear tok4; have hbs4 := Nat.le_trans hbs3 hbw4.kept.size))
  have hB4 := Nat.le_trans hB hbs4
  rw [rounds_succ]
  go_wp2_with fail
  go_ret
  refine ⟨_, rfl, ?_, ((hbw1.trans hbw2).trans hbw3).trans hbw4⟩
  have e1 := byteV_mod (n / 16777216)
  have e2 := byteV_mod (n / 65536)
  have e3 := byteV_mod (n / 256)
  have e4 := byteV_mod n
  rw [show ((n / 16777216 : Nat) : Int) % 256 = (n : Int) / 16777216 from by omega] at e1
  rw [show ((n / 65536 : Nat) : Int) = (n : Int) / 65536 from by omega] at e2
  rw [show ((n / 256 : Nat) : Int) = (n : Int) / 256 from by omega] at e3
  rw [List.map_append]
  show w4.ownsRow B 5 1 v4 (m + 1 + 1 + 1 + 1) (xs.map byteV ++ [byteV (UInt8.ofNat (n / 16777216)), byteV (UInt8.ofNat (n / 65536)), byteV (UInt8.ofNat (n / 256)), byteV (UInt8.ofNat n)])
  rw [e1, e2, e3, e4]
  simpa [List.append_assoc] using hown4
end Nm
end Go.Proofs.YthogembgndkmpaaGreatDoor

/- Contracts towards canon.Fresh: Labels, Plus, Clone of a name; the reference's. -/
namespace Go.Proofs.YthogembgndkmpaaGreatDoor
open Go.RowKit
namespace Nm

theorem strV_one (n : List Lab) : ∀ u ∈ n.map strV, u.oneCell' = true := by intro u hu; obtain ⟨y, _, rfl⟩ := List.mem_map.1 hu; rfl
/-- append of texts that lie somewhere to a row of the call's own -/
theorem wpList_names {ops : Array Oper} {rest : List Oper} {o : Oper} {a : Act} {Q : Exit → Act → World → Prop} {w : World} {B : Nat} {v : Value} {n : Nat} {xs : List Lab}
    (hown : w.ownsRow B 9 1 v n (xs.map strV)) (hB : B ≤ w.heap.size) {A : Option Addr} {s : List Lab} {c : Nat} (hs2 : Cs w A (s.map strV)) (hgd : o.guard = none) (sl x : Operand) {t : TypeId} (ht : Tryz.prog.underlying t = some (.slice 9))
    (ho : o.op = .call { callee := .builtin .append, args := #[sl, x], argTypes := #[t, t] }) (hs : a.eval sl = v) (hx : a.eval x = .slice A s.length c) (hn : n + s.length ≤ 1000000000)
    (h : ∀ v' w', w'.ownsRow B 9 1 v' (n + s.length) ((xs ++ s).map strV) → Below B w w' → wpList Tryz.prog ops Q rest (a.put o.dst v') w') : wpList Tryz.prog ops Q (o :: rest) a w := by
  obtain ⟨i0, hi, hz0, hz1, hz2⟩ := info_parts info_str
  cases A with
  | none =>
    have hsn : s = [] := by simpa using hs2.none_nil
    subst hsn
    refine wpList_nothing hgd sl x t ho ht hi hs hown hx ?_
    refine h v w ?_ (Below.refl _ _)
    simpa using hown
  | some b =>
    refine wpList_append_own w hgd sl x t ho B 9 i0 _ 1 16 ht hi hz0 hz1 hz2 rfl (by decide) v n _ hs hown b s.length c (s.map strV) hx (by simp) hs2.cells (strV_one s) (by unfold maxLen; omega) (by omega) hB ?_
    intro v' w' h1 h2 _
    rw [← List.map_append] at h1
    exact h v' w' h1 ((Below.refl _ _).grown h2 hB (fun k hk => (hown.lt k hk).1))
set_option maxHeartbeats 1000000 in
theorem CloneN (A : Option Addr) (n : List Lab) (cap : Nat) (w : World) (hc : Cs w A (n.map strV)) (hn : n.length ≤ 100000000) :
    Calls Tryz.prog 24 #[.slice A n.length cap] w fun e w' => ∃ v, e = .returned v ∧ w'.ownsRow w.heap.size 9 1 v n.length (n.map strV) ∧ Below w.heap.size w w' := by
  cases A with
  | none =>
    have hl : n = [] := by simpa using hc.none_nil
    have hq : ∀ W, (binOp .eql 26 (.slice none n.length cap) (.slice none 0 0)).run Tryz.prog W = .ok (.bool true) W := fun W => Lib.run_eql_slice_nil (P := Tryz.prog) W 26 9 none n.length cap 0 0 Tryz.underlying26
    have HL : Hid (∀ w : World, w.ownsRow w.heap.size 9 1 (.slice none 0 0) n.length (n.map strV)) := Lib.hid (fun w => by rw [hl]; exact World.ownsRow_nil _ _ _ _)
    clear hl
    generalize n.length = m at *
    go_enter Tryz.func24, Tryz.ntmps24
    go_wp2_with fail
    go_ret
    exact ⟨_, rfl, HL.out _, Below.refl _ _⟩
  | some a =>
    have hq : ∀ W, (binOp .eql 26 (.slice (some a) n.length cap) (.slice none 0 0)).run Tryz.prog W = .ok (.bool false) W := fun W => Lib.run_eql_slice_nil (P := Tryz.prog) W 26 9 (some a) n.length cap 0 0 Tryz.underlying26
    have hown : (w.alloc (.cells #[] 9)).ownsRow w.heap.size 9 1 (.slice (some ⟨w.heap.size, 0, none⟩) 0 0) 0 (([] : List Lab).map strV) := own_empty _ _ _ _ _ _ (heap_alloc_new _ _) (Nat.le_refl _) (by unfold maxLen; omega) rfl
    have hb0 : Below w.heap.size w (w.alloc (.cells #[] 9)) := (Below.refl _ _).alloc (Nat.le_refl _) _
    have hc1 := hc.below hb0
    have HO := Lib.hid hown
    clear hown
    go_enter Tryz.func24, Tryz.ntmps24
    go_wp2_with (first | (at_builtin; refine wpList_names HO.out hb0.size hc1 rfl _ _ Tryz.underlying26 rfl rfl rfl (by omega) ?_; intro v4 w4 hown4 hbw4; have hbw5 := hb0.trans hbw4))
    go_ret
    exact ⟨_, rfl, by simpa using hown4, hbw5⟩

/-- how many labels, but for a first star -/
def labels (n : List Lab) : Nat := (if wild n then n.length - 1 else n.length) % 256
set_option maxHeartbeats 1000000 in
theorem Labels (A : Option Addr) (n : List Lab) (cap : Nat) (w : World) (hc : Cs w A (n.map strV)) (hf : n.length ≤ 1000000) (hcap : n.length ≤ cap) (hcap2 : cap ≤ maxLen) :
    Calls Tryz.prog 17 #[.slice A n.length cap] w fun e w' => e = .returned (.int .u8 (labels n)) ∧ w = w' := by
  unfold maxLen at hcap2
  unfold labels
  cases hw : wild n
  · go_enter Tryz.func17, Tryz.ntmps17
    go_wp2_with fail
    refine (Wild A n cap w hc hf).mono ?_
    rintro e w' ⟨rfl, rfl⟩
    go_wp2_with fail
    go_ret
    exact ⟨ret_int (by simp), rfl⟩
  · have hpos : 1 ≤ n.length := by cases n with | nil => cases hw | cons a n => simp
    go_enter Tryz.func17, Tryz.ntmps17
    go_wp2_with fail
    refine (Wild A n cap w hc hf).mono ?_
    rintro e w' ⟨rfl, rfl⟩
    go_wp2_with fail
    all_goals
      go_ret
      exact ⟨ret_int (by first | (simp; done) | (simp; omega)), rfl⟩

set_option maxHeartbeats 1000000 in
theorem RefWild (A : Option Addr) (n : List Lab) (cap : Nat) (w : World) (hc : Cs w A (n.map strV)) (hf : n.length ≤ 1000000) :
    Calls Tryz.prog 60 #[.slice A n.length cap] w fun e w' => e = .returned (.bool (wild n)) ∧ w = w' := by
  cases n with
  | nil =>
    go_enter Tryz.func60, Tryz.ntmps60
    go_wp2_with fail
    go_ret
    exact ⟨rfl, rfl⟩
  | cons l n =>
    obtain ⟨bk, off, rfl, hbl, hc0⟩ := Cs.str hc (i := 0) (by simp)
    rw [Nat.add_zero] at hc0
    simp only [List.getElem_cons_zero] at hc0
    have hpos : (0 : Int) < (((l :: n).length : Nat) : Int) := by simp only [List.length_cons]; omega
    have hw : wild (l :: n) = ((strB l).toList == [42]) := by
      rw [strB_toList]
      unfold wild
      split
      · rename_i h; cases h; rfl
      · rename_i h
        rw [eq_comm, beq_eq_false_iff_ne]
        intro e; subst e; exact h n rfl
    rw [hw]
    clear hw
    generalize (l :: n).length = m at *
    go_enter Tryz.func60, Tryz.ntmps60
    go_wp2_with fail
    go_ret
    exact ⟨rfl, rfl⟩
set_option maxHeartbeats 1000000 in
theorem RefLabels (A : Option Addr) (n : List Lab) (cap : Nat) (w : World) (hc : Cs w A (n.map strV)) (hf : n.length ≤ 1000000) :
    Calls Tryz.prog 39 #[.slice A n.length cap] w fun e w' => e = .returned (.int .u8 (labels n)) ∧ w = w' := by
  unfold labels
  cases hw : wild n
  · go_enter Tryz.func39, Tryz.ntmps39
    go_wp2_with fail
    refine (RefWild A n cap w hc hf).mono ?_
    rintro e w' ⟨rfl, rfl⟩
    go_wp2_with fail
    go_ret
    exact ⟨ret_int (by simp), rfl⟩
  · have hpos : 1 ≤ n.length := by cases n with | nil => cases hw | cons a n => simp
    go_enter Tryz.func39, Tryz.ntmps39
    go_wp2_with fail
    refine (RefWild A n cap w hc hf).mono ?_
    rintro e w' ⟨rfl, rfl⟩
    go_wp2_with fail
    go_ret
    exact ⟨ret_int (by omega), rfl⟩

/-- times don't come round -/
def plus (a b : Int) : Int := min (a + b) 4294967295
set_option maxHeartbeats 1000000 in
theorem Plus (a b : Int) (h1 : 0 ≤ a) (h2 : a ≤ 4294967295) (h3 : 0 ≤ b) (h4 : b ≤ 4294967295) (w : World) : Calls Tryz.prog 23 #[.int .u32 a, .int .u32 b] w fun e w' => e = .returned (.int .u32 (plus a b)) ∧ w = w' := by
  unfold plus
  go_enter Tryz.func23, Tryz.ntmps23
  go_wp2_with fail
  go_ret
  exact ⟨ret_int (by omega), rfl⟩
end Nm
end Go.Proofs.YthogembgndkmpaaGreatDoor

/- Contracts of canon.Fresh and the reference's. -/
namespace Go.Proofs.YthogembgndkmpaaGreatDoor
open Go.RowKit
namespace Nm
theorem below_drew {B : Nat} {a w : World} (h : Below B a w) : Below B a w.drew := ⟨h.os, h.tape, h.output, h.size, h.block⟩

theorem cells9 {w : World} {g : Nat} {T : TypeId} {c0 c1 c2 c3 c4 c5 c6 c7 c8 : Value} (h : w.heap[g]? = some (.cells #[c0, c1, c2, c3, c4, c5, c6, c7, c8] T (0, 0))) :
    w.cell? ⟨g, 0, none⟩ = some c0 ∧ w.cell? ⟨g, 1, none⟩ = some c1 ∧ w.cell? ⟨g, 2, none⟩ = some c2 ∧ w.cell? ⟨g, 3, none⟩ = some c3 ∧ w.cell? ⟨g, 4, none⟩ = some c4 ∧ w.cell? ⟨g, 5, none⟩ = some c5 ∧ w.cell? ⟨g, 6, none⟩ = some c6 ∧ w.cell? ⟨g, 7, none⟩ = some c7 ∧ w.cell? ⟨g, 8, none⟩ = some c8 ∧ ∀ i, w.frozen? ⟨g, i, none⟩ = false := by
  refine ⟨?_, ?_, ?_, ?_, ?_, ?_, ?_, ?_, ?_, fun i => by simp [World.frozen?, h]⟩ <;> (rw [cell_of_row w g _ _ _ _ h]; rfl)
/-- a store of a whole struct, one step of a region that draws -/
theorem step_store_row {P : Program} {ops : Array Oper} {o : Oper} {a : Act} {w : World} {K : Act → World → Prop} {Q : Exit → Act → World → Prop} {E : Prop} (hgd : o.guard = none) (ty : TypeId) (x y : Operand) (ho : o.op = .store ty x y)
    (g : Nat) (cells : Array Value) (hx : a.eval x = .pointer (some ⟨g, 0, none⟩)) (hy : a.eval y = .agg cells)
    (t : TypeId) (old : Array Value) (hg : w.heap[g]? = some (.cells old t (0, 0))) (hi : (P.info? ty).map (·.size) = some cells.size)
    (hold : old.size = cells.size) (h1 : cells.all (·.oneCell') = true)
    (h : K (a.put o.dst undef) (w.setRow g cells)) : if Region.wanted o (yielded ops a.tmps) = true then Oper.wp P o a w K Q else E := by
  have hw : Region.wanted o (yielded ops a.tmps) = true := by simp [Region.wanted, hgd]
  rw [if_pos hw]
  exact wp_store_row ty x y ho g cells hx hy t old hg hi hold h1 h
/-- a set, a signature as they are handed in -/
structure SetV where
  A : Option Addr
  n : List Lab
  cap : Nat
  t : Int
  ttl : Int
  D : Option Addr
  ds : List Blob
  dcap : Nat
def SetV.v (s : SetV) : Value := .agg #[.slice s.A s.n.length s.cap, .int .u16 s.t, .int .u32 s.ttl, .slice s.D s.ds.length s.dcap]
def SetV.ok (w : World) (s : SetV) : Prop := Cs w s.A (s.n.map strV) ∧ Cs w s.D (s.ds.map Blob.v) ∧ Blobs w s.ds
theorem SetV.ok.below {w w' : World} {s : SetV} (h : s.ok w) (hb : Below w.heap.size w w') : s.ok w' := ⟨h.1.below hb, h.2.1.below hb, h.2.2.below hb⟩

set_option maxRecDepth 100000 in
set_option maxHeartbeats 10000000 in
theorem Fresh (s : SetV) (ttl tag now valid : Int) (A : Option Addr) (sn : List Lab) (cap : Nat) (w : World) (hs : s.ok w) (hsn : s.n.length ≤ 1000) (hscap : s.n.length ≤ s.cap) (hscap2 : s.cap ≤ maxLen)
    (hc : Cs w A (sn.map strV)) (hn : sn.length ≤ 1000) (h1 : 0 ≤ now) (h2 : now ≤ 4294967295) (h3 : 0 ≤ valid) (h4 : valid ≤ 4294967295) :
    Calls Tryz.prog 7 #[s.v, .int .u32 ttl, .int .u16 tag, .slice A sn.length cap, .int .u32 now, .int .u32 valid] w fun e w' =>
      ∃ v, e = .returned (.agg #[.int .u16 s.t, .int .u8 253, .int .u8 (labels s.n), .int .u32 ttl, .int .u32 (plus now valid), .int .u32 now, .int .u16 tag, v, .slice none 0 0]) ∧ w'.ownsRow w.heap.size 9 1 v sn.length (sn.map strV) ∧ Below w.heap.size w w' := by
  unfold SetV.v
  obtain ⟨hs1, _, _⟩ := hs
  have HS := Lib.hid hs1
  have HC := Lib.hid hc
  clear hs1 hc
  go_enter Tryz.func7, Tryz.ntmps7
  go_wp2_with fail
  generalize hw1 : (w.alloc (.cells #[.slice s.A s.n.length s.cap, .int .u16 s.t, .int .u32 s.ttl, .slice s.D s.ds.length s.dcap] 34)).alloc _ = w1
  have hb1 : Below w.heap.size w w1 := by rw [← hw1]; exact ((Below.refl _ _).alloc (Nat.le_refl _) _).alloc (by simp) _
  have hsz1 : w1.heap.size = w.heap.size + 2 := by rw [← hw1]; simp
  have HS1 := Lib.hid (HS.out.below hb1)
  have HC1 := Lib.hid (HC.out.below hb1)
  have hr : w1.heap[w.heap.size + 1]? = some (.cells #[.int .u16 0, .int .u8 0, .int .u8 0, .int .u32 0, .int .u32 0, .int .u32 0, .int .u16 0, .slice none 0 0, .slice none 0 0] 41 (0, 0)) := by
    have := heap_alloc_new (w.alloc (.cells #[.slice s.A s.n.length s.cap, .int .u16 s.t, .int .u32 s.ttl, .slice s.D s.ds.length s.dcap] 34)) (.cells #[.int .u16 0, .int .u8 0, .int .u8 0, .int .u32 0, .int .u32 0, .int .u32 0, .int .u16 0, .slice none 0 0, .slice none 0 0] 41)
    rw [World.size_alloc] at this
    rw [← hw1]; exact this
  have hx0 : w1.cell? ⟨w.heap.size, 0, none⟩ = some (.slice s.A s.n.length s.cap) := by rw [← hw1]; simp [go_sem]
  have hx1 : w1.cell? ⟨w.heap.size, 1, none⟩ = some (.int .u16 s.t) := by rw [← hw1]; simp [go_sem]
  clear hw1
  refine wp_region_rel (by kernel_rfl) (by kernel_rfl) (fun _ _ => false) (by kernel_rfl)
    (fun i W W' => if i = 14 then W.grownBy W' (some (w.heap.size + 1)) ∧ (∃ cs, W'.heap[w.heap.size + 1]? = some (.cells cs 41 (0, 0)) ∧ cs.size = 9) else Below W.heap.size W W')
    (fun W => w1.grownBy W (some (w.heap.size + 1)) ∧ ∃ cs, W.heap[w.heap.size + 1]? = some (.cells cs 41 (0, 0)) ∧ cs.size = 9)
    (fun i v W => match i with
      | 0 => v = .pointer (some ⟨w.heap.size, 1, none⟩)
      | 1 => v = .int .u16 s.t
      | 2 => v = .pointer (some ⟨w.heap.size, 0, none⟩)
      | 3 => v = .slice s.A s.n.length s.cap
      | 4 => v = .int .u8 (labels s.n)
      | 5 => v = .int .u32 ttl
      | 6 => v = .int .u32 now
      | 7 => v = .int .u32 valid
      | 8 => v = .int .u32 (plus now valid)
      | 9 => v = .int .u32 now
      | 10 => v = .int .u16 tag
      | 11 => v = .slice A sn.length cap
      | 12 => ∃ A5 c5, v = .slice A5 sn.length c5 ∧ W.ownsRow w1.heap.size 9 1 (.slice A5 sn.length c5) sn.length (sn.map strV)
      | 13 => ∃ A5 c5, v = .agg #[.int .u16 s.t, .int .u8 253, .int .u8 (labels s.n), .int .u32 ttl, .int .u32 (plus now valid), .int .u32 now, .int .u16 tag, .slice A5 sn.length c5, .slice none 0 0] ∧ W.ownsRow w1.heap.size 9 1 (.slice A5 sn.length c5) sn.length (sn.map strV)
      | 14 => ∃ A5 c5, W.heap[w.heap.size + 1]? = some (.cells #[.int .u16 s.t, .int .u8 253, .int .u8 (labels s.n), .int .u32 ttl, .int .u32 (plus now valid), .int .u32 now, .int .u16 tag, .slice A5 sn.length c5, .slice none 0 0] 41 (0, 0)) ∧ W.ownsRow w1.heap.size 9 1 (.slice A5 sn.length c5) sn.length (sn.map strV)
      | _ => True)
    ?_ ?_ ?_ ?_ ?_
  · exact ⟨⟨rfl, rfl, rfl, Nat.le_refl _, fun _ _ _ => rfl⟩, _, hr, rfl⟩
  · intro i W W' ⟨hg, hcs⟩ hT
    by_cases hi : i = 14
    · simp only [hi, if_true] at hT
      exact ⟨hg.trans hT.1, hT.2⟩
    · simp only [hi, if_false] at hT
      obtain ⟨cs, h5, h6⟩ := hcs
      exact ⟨hg.trans ⟨hT.os, hT.tape, hT.output, hT.size, fun k hk _ => hT.block k hk⟩, cs, (hT.block _ (lt_block h5)).trans h5, h6⟩
  · intro i j v W W' hij _ _ hCW hRj hT
    by_cases hi : i = 14
    · simp only [hi, if_true] at hT
      have hne : ∀ A5 c5, W.ownsRow w1.heap.size 9 1 (.slice A5 sn.length c5) sn.length (sn.map strV) → W'.ownsRow w1.heap.size 9 1 (.slice A5 sn.length c5) sn.length (sn.map strV) := fun A5 c5 h => h.kept hT.1 (.inr (by
        intro e
        have := (h.lt _ e).1
        omega))
      rcases j with _ | _ | _ | _ | _ | _ | _ | _ | _ | _ | _ | _ | _ | _ | _ | j
      all_goals first
        | exact hRj
        | (obtain ⟨A5, c5, h5, h6⟩ := hRj; exact ⟨A5, c5, h5, hne A5 c5 h6⟩)
        | (exfalso; omega)
        | trivial
    · simp only [hi, if_false] at hT
      rcases j with _ | _ | _ | _ | _ | _ | _ | _ | _ | _ | _ | _ | _ | _ | _ | j
      all_goals first
        | exact hRj
        | (obtain ⟨A5, c5, h5, h6⟩ := hRj; exact ⟨A5, c5, h5, own_below h6 hT⟩)
        | (obtain ⟨A5, c5, h5, h6⟩ := hRj; exact ⟨A5, c5, (hT.block _ (lt_block h5)).trans h5, own_below h6 hT⟩)
  · intro i o hio vals W hCW haf
    have e0 : W.cell? ⟨w.heap.size, 0, none⟩ = some (.slice s.A s.n.length s.cap) := hCW.1.cell hx0 (by simp)
    have e1 : W.cell? ⟨w.heap.size, 1, none⟩ = some (.int .u16 s.t) := hCW.1.cell hx1 (by simp)
    have hbw : Below w.heap.size w W := hb1.grown hCW.1 hb1.size (fun k hk => by cases hk; omega)
    have hcs : Cs W s.A (s.n.map strV) := HS.out.below hbw
    have hcn : Cs W A (sn.map strV) := HC.out.below hbw
    have hWs := hCW.1.size
    rcases i with _ | _ | _ | _ | _ | _ | _ | _ | _ | _ | _ | _ | _ | _ | _ | i
    · simp at hio
      subst hio
      simp [bindD, rdB, Region.binds] at haf
      simp [opYield_def, yieldUpon, relAct, dstAt, Act.put, Region.wanted, go_sem, haf, e0, e1, Below.refl]
    · simp at hio
      subst hio
      simp [bindD, rdB, Region.binds] at haf
      simp [opYield_def, yieldUpon, relAct, dstAt, Act.put, Region.wanted, go_sem, haf, e0, e1, Below.refl]
    · simp at hio
      subst hio
      simp [bindD, rdB, Region.binds] at haf
      simp [opYield_def, yieldUpon, relAct, dstAt, Act.put, Region.wanted, go_sem, haf, e0, e1, Below.refl]
    · simp at hio
      subst hio
      simp [bindD, rdB, Region.binds] at haf
      simp [opYield_def, yieldUpon, relAct, dstAt, Act.put, Region.wanted, go_sem, haf, e0, e1, Below.refl]
    · simp at hio
      subst hio
      simp [bindD, rdB, Region.binds] at haf
      simp [opYield_def, yieldUpon, relAct, dstAt, Act.put, Region.wanted, go_sem, haf]
      exact (Labels s.A s.n s.cap W hcs (by omega) hscap hscap2).mono fun e W' ⟨h1, h2⟩ => ⟨h1, h2 ▸ Below.refl _ _⟩
    · simp at hio
      subst hio
      simp [bindD, rdB, Region.binds] at haf
      simp [opYield_def, yieldUpon, relAct, dstAt, Act.put, Region.wanted, go_sem, haf, e0, e1, Below.refl]
    · simp at hio
      subst hio
      simp [bindD, rdB, Region.binds] at haf
      simp [opYield_def, yieldUpon, relAct, dstAt, Act.put, Region.wanted, go_sem, haf, e0, e1, Below.refl]
    · simp at hio
      subst hio
      simp [bindD, rdB, Region.binds] at haf
      simp [opYield_def, yieldUpon, relAct, dstAt, Act.put, Region.wanted, go_sem, haf, e0, e1, Below.refl]
    · simp at hio
      subst hio
      simp [bindD, rdB, Region.binds] at haf
      simp [opYield_def, yieldUpon, relAct, dstAt, Act.put, Region.wanted, go_sem, haf]
      exact (Plus now valid h1 h2 h3 h4 W).mono fun e W' ⟨h1, h2⟩ => ⟨h1, h2 ▸ Below.refl _ _⟩
    · simp at hio
      subst hio
      simp [bindD, rdB, Region.binds] at haf
      simp [opYield_def, yieldUpon, relAct, dstAt, Act.put, Region.wanted, go_sem, haf, e0, e1, Below.refl]
    · simp at hio
      subst hio
      simp [bindD, rdB, Region.binds] at haf
      simp [opYield_def, yieldUpon, relAct, dstAt, Act.put, Region.wanted, go_sem, haf, e0, e1, Below.refl]
    · simp at hio
      subst hio
      simp [bindD, rdB, Region.binds] at haf
      simp [opYield_def, yieldUpon, relAct, dstAt, Act.put, Region.wanted, go_sem, haf, e0, e1, Below.refl]
    · simp at hio
      subst hio
      simp [bindD, rdB, Region.binds] at haf
      simp [opYield_def, yieldUpon, relAct, dstAt, Act.put, Region.wanted, go_sem, haf]
      refine (CloneN A sn cap W hcn (by omega)).mono fun e W' ⟨v, h1, h2, h3⟩ => ?_
      obtain ⟨A5, c5, rfl, _, _⟩ := Cs.of_own h2
      exact ⟨_, h1, h3, A5, c5, rfl, own_base h2 hWs⟩
    · simp at hio
      subst hio
      simp [bindD, rdB, Region.binds] at haf
      obtain ⟨q1, q4, q5, q8, q9, q10, A5, c5, q12, own⟩ := haf
      simp [opYield_def, yieldUpon, relAct, dstAt, Act.put, Region.wanted, go_sem, q1, q4, q5, q8, q9, q10, q12]
      exact ⟨Below.refl _ _, A5, c5, ⟨rfl, rfl⟩, own⟩
    · simp at hio
      subst hio
      have haf13 := haf ⟨13, .data⟩ (by simp) (by decide)
      simp at haf13
      clear haf
      refine haf13.elim fun A5 hx => hx.elim fun c5 hy => ?_
      have q13 := hy.1
      have own := hy.2
      refine hCW.2.elim fun cs hz => ?_
      have hcs2 := hz.1
      have hsz := hz.2
      refine yield_store (g := w.heap.size + 1) (cells := #[.int .u16 s.t, .int .u8 253, .int .u8 (labels s.n), .int .u32 ttl, .int .u32 (plus now valid), .int .u32 now, .int .u16 tag, .slice A5 sn.length c5, .slice none 0 0]) rfl rfl (by simp [relAct, dstAt, Act.put, Act.eval]) (by simp [relAct, dstAt, Act.put, Act.eval, q13]) hcs2 (by kernel_rfl) hsz (by simp [Value.oneCell']) ?_
      have hblk := setRow_block W (w.heap.size + 1) #[.int .u16 s.t, .int .u8 253, .int .u8 (labels s.n), .int .u32 ttl, .int .u32 (plus now valid), .int .u32 now, .int .u16 tag, .slice A5 sn.length c5, .slice none 0 0] cs 41 (0, 0) hcs2
      have hgr := setRow_grown W (w.heap.size + 1) #[.int .u16 s.t, .int .u8 253, .int .u8 (labels s.n), .int .u32 ttl, .int .u32 (plus now valid), .int .u32 now, .int .u16 tag, .slice A5 sn.length c5, .slice none 0 0]
      refine ⟨?_, A5, c5, hblk, own.kept hgr (.inr (by intro e; have := (own.lt _ e).1; omega))⟩
      rw [if_pos rfl]
      exact ⟨hgr, _, hblk, rfl⟩
    · simp at hio
  · intro vals W hCW hR
    have r14 := hR 14 (by show 14 < 15; omega) (fun _ _ => rfl)
    obtain ⟨A5, c5, hblk, hown⟩ := r14
    simp [relAct, dstAt, Act.put]
    clear hR
    obtain ⟨k0, k1, k2, k3, k4, k5, k6, k7, k8, _⟩ := cells9 hblk
    have hbw : Below w.heap.size w W := hb1.grown hCW.1 hb1.size (fun k hk => by cases hk; omega)
    have hown2 := own_base hown (show w.heap.size ≤ w1.heap.size by omega)
    have HQ := Lib.hid hown2
    clear hown hown2 hblk hCW hr hx0 hx1
    go_wp2_with fail
    refine bodyPost_ret (v := .agg #[.int .u16 s.t, .int .u8 253, .int .u8 (labels s.n), .int .u32 ttl, .int .u32 (plus now valid), .int .u32 now, .int .u16 tag, .slice A5 sn.length c5, .slice none 0 0]) ?_ rfl ⟨_, rfl, HQ.out, hbw⟩
    simp [results, Tryz.results7, go_sem, k0, k1, k2, k3, k4, k5, k6, k7, k8]
end Nm
end Go.Proofs.YthogembgndkmpaaGreatDoor
