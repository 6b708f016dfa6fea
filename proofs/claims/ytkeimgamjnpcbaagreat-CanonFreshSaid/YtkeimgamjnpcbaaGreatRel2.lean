/-
  A region that draws its order and whose operations make new memory alone: of each operation's value one fact that stays true as memory grows.
-/
import Derived.Test.YtkeimgamjnpcbaaGreatRel
import Derived.Test.YtkeimgamjnpcbaaGreatQuiet
import Derived.Test.YtkeimgamjnpcbaaGreatKept
namespace Go.Proofs.YtkeimgamjnpcbaaGreat
open Go.RowKit
set_option linter.unusedVariables false

/-- what is said of a value, true as memory grows -/
structure Fact where
  p : Value → World → Prop
  st : ∀ v W W', Ext W W' → p v W → p v W'
def Fact.is (u : Value) : Fact := ⟨fun v _ => v = u, fun _ _ _ _ h => h⟩
def Fact.any : Fact := ⟨fun _ _ => True, fun _ _ _ _ h => h⟩
def Fact.own (B : Nat) (e : TypeId) (size : Nat) (n : Nat) (xs : List Value) : Fact := ⟨fun v W => W.ownsRow B e size v n xs, fun _ _ _ hE h => own_below h hE⟩
def Fact.tup2 (f g : Fact) : Fact := ⟨fun v W => ∃ a b, v = .tuple #[a, b] ∧ f.p a W ∧ g.p b W, fun _ _ _ hE ⟨a, b, h1, h2, h3⟩ => ⟨a, b, h1, f.st _ _ _ hE h2, g.st _ _ _ hE h3⟩⟩
def Fact.tup3 (f g h : Fact) : Fact := ⟨fun v W => ∃ a b c, v = .tuple #[a, b, c] ∧ f.p a W ∧ g.p b W ∧ h.p c W, fun _ _ _ hE ⟨a, b, c, h1, h2, h3, h4⟩ => ⟨a, b, c, h1, f.st _ _ _ hE h2, g.st _ _ _ hE h3, h.st _ _ _ hE h4⟩⟩
def factAt (fs : List Fact) (j : Nat) : Fact := fs.getD j Fact.any
def facts (W : World) (vals : Nat → Value) : List Fact → Nat → Prop
  | [], _ => True
  | f :: fs, k => f.p (vals k) W ∧ facts W vals fs (k + 1)
theorem facts_of {W : World} {vals : Nat → Value} : ∀ (fs gs : List Fact) (k : Nat), (∀ j, j < fs.length → (fs.getD j Fact.any).p (vals (k + j)) W) → facts W vals fs k
  | [], _, _, _ => trivial
  | f :: fs, gs, k, h => ⟨by simpa using h 0 (by simp), facts_of fs gs (k + 1) (fun j hj => by have := h (j + 1) (by simp; omega); simpa [Nat.add_assoc, Nat.add_comm 1 j] using this)⟩
theorem Fact.tup3_elim {f g h : Fact} {v : Value} {W : World} {C : Prop} (hp : (Fact.tup3 f g h).p v W) (k : ∀ a b c, v = .tuple #[a, b, c] → f.p a W → g.p b W → h.p c W → C) : C := let ⟨a, b, c, h1, h2, h3, h4⟩ := hp; k a b c h1 h2 h3 h4
theorem Fact.tup2_elim {f g : Fact} {v : Value} {W : World} {C : Prop} (hp : (Fact.tup2 f g).p v W) (k : ∀ a b, v = .tuple #[a, b] → f.p a W → g.p b W → C) : C := let ⟨a, b, h1, h2, h3⟩ := hp; k a b h1 h2 h3
theorem Fact.tup3_mk {f g h : Fact} {a b c : Value} {W : World} (h2 : f.p a W) (h3 : g.p b W) (h4 : h.p c W) : (Fact.tup3 f g h).p (.tuple #[a, b, c]) W := ⟨a, b, c, rfl, h2, h3, h4⟩
theorem Fact.tup2_mk {f g : Fact} {a b : Value} {W : World} (h2 : f.p a W) (h3 : g.p b W) : (Fact.tup2 f g).p (.tuple #[a, b]) W := ⟨a, b, rfl, h2, h3⟩
theorem tup3_p (f g h : Fact) (v : Value) (W : World) : (Fact.tup3 f g h).p v W = ∃ a b c, v = .tuple #[a, b, c] ∧ f.p a W ∧ g.p b W ∧ h.p c W := rfl
theorem tup2_p (f g : Fact) (v : Value) (W : World) : (Fact.tup2 f g).p v W = ∃ a b, v = .tuple #[a, b] ∧ f.p a W ∧ g.p b W := rfl
@[simp] theorem is_p (u v : Value) (W : World) : (Fact.is u).p v W = (v = u) := rfl
@[simp] theorem any_p (v : Value) (W : World) : Fact.any.p v W = True := rfl
@[simp] theorem own_p (B : Nat) (e : TypeId) (size : Nat) (n : Nat) (xs : List Value) (v : Value) (W : World) : (Fact.own B e size n xs).p v W = W.ownsRow B e size v n xs := rfl

/-- WHATEVER THE ORDER: new memory alone -/
theorem wp_region_mono {P : Program} {ops : Array Oper} {id : Nat} {Q : Exit → Act → World → Prop} {a0 : Act} {w0 : World} (hm : P.follows .mixedOrders = true) (hB : relB ops = true) (fs : List Fact) (hf : fs.length = ops.size)
    (step : ∀ i o, ops[i]? = some o → ∀ vals W, Ext w0 W → (∀ e ∈ o.after, bindD e = true → (factAt fs e.on).p (vals e.on) W) →
      opYield P ops o (relAct ops a0 (fun _ => true) vals i) W (fun v W' => Ext W W' ∧ (factAt fs i).p v W'))
    (hend : ∀ vals W, Ext w0 W → facts W vals fs 0 → Q .normal (relAct ops a0 (fun _ => true) vals ops.size) W) :
    (Code.region id ops true).wp P Q a0 w0 := by
  refine wp_region_rel hm hB (fun _ _ => false) ?_ (fun _ W W' => Ext W W') (fun W => Ext w0 W) (fun i v W => (factAt fs i).p v W) ?_ ?_ ?_ ?_ ?_
  · simp [killsB]
  · exact ⟨rfl, rfl, rfl, Nat.le_refl _, fun _ _ => rfl⟩
  · intro i W W' h1 h2
    exact h1.trans h2
  · intro i j v W W' _ _ _ _ h1 h2
    exact (factAt fs j).st _ _ _ h2 h1
  · intro i o ho vals W hE h
    exact step i o ho vals W hE h
  · intro vals W hE h
    refine hend vals W hE (facts_of fs [] 0 fun j hj => ?_)
    rw [Nat.zero_add]
    exact h j (by omega) (fun _ _ => rfl)
/-- a fact that looks at no world -/
def Fact.plain (f : Fact) : Prop := ∀ v W W', f.p v W → f.p v W'
theorem plain_is (u : Value) : (Fact.is u).plain := fun _ _ _ h => h
theorem plain_any : Fact.any.plain := fun _ _ _ h => h
def killG (ops : Array Oper) (kd fk : Nat → Nat) (i j : Nat) : Bool := i != j && !waitsB ops j i && ((kd i == 1 && decide (2 ≤ fk j)) || (decide (2 ≤ kd i) && (fk j == 1 || decide (3 ≤ fk j))))
def keepB (ops : Array Oper) (kd fk : Nat → Nat) (j : Nat) : Bool := (List.range ops.size).all fun i => !killG ops kd fk i j
/-- a row that was there when the region began (N: the heap's size then) -/
def Fact.old (N B : Nat) (e : TypeId) (size : Nat) (n : Nat) (xs : List Value) : Fact := ⟨fun v W => W.ownsRow B e size v n xs ∧ ∀ k, v.ownBlock = some k → k < N, fun _ _ _ hE h => ⟨own_below h.1 hE, h.2⟩⟩
/-- what an operation of a kind does to the world: 0: new memory; 1: it writes what was there from B on; 2: it writes what is new since the region began -/
def kindT (B N : Nat) : Nat → World → World → Prop
  | 0, W, W' => Ext W W'
  | 1, W, W' => Kept (fun b => B ≤ b ∧ b < N) W W'
  | _, W, W' => Below N W W'
/-- what a fact of a kind bears: 0: anything; 1: what kind 1 does; 2: what kind 2 does; 3: new memory alone -/
def kindF (N : Nat) : Nat → Fact → Prop
  | 0, f => f.plain
  | 1, f => ∀ v W W', Kept (fun b => b < N) W W' → f.p v W → f.p v W'
  | 2, f => ∀ v W W', Below N W W' → f.p v W → f.p v W'
  | _, _ => True
theorem kind_own (N B : Nat) (e : TypeId) (size : Nat) (n : Nat) (xs : List Value) (hB : N ≤ B) : kindF N 1 (Fact.own B e size n xs) := fun v W W' hk h => Kept.row h hk (fun k hk2 => by have := (h.lt k hk2).1; omega)
theorem kind_old (N B : Nat) (e : TypeId) (size : Nat) (n : Nat) (xs : List Value) : kindF N 2 (Fact.old N B e size n xs) := fun v W W' hk h => ⟨Kept.row h.1 (Kept.of_below hk) (fun k hk2 => by have := h.2 k hk2; omega), h.2⟩
/-- just that row -/
def Fact.row (u : Value) (B : Nat) (e : TypeId) (size : Nat) (n : Nat) (xs : List Value) : Fact := ⟨fun v W => v = u ∧ W.ownsRow B e size u n xs, fun _ _ _ hE h => ⟨h.1, own_below h.2 hE⟩⟩
theorem kind_row (N : Nat) (u : Value) (B : Nat) (e : TypeId) (size : Nat) (n : Nat) (xs : List Value) (hu : ∀ k, u.ownBlock = some k → k < N) : kindF N 2 (Fact.row u B e size n xs) := fun v W W' hk h => ⟨h.1, Kept.row h.2 (Kept.of_below hk) (fun k hk2 => by have := hu k hk2; omega)⟩
theorem kind_is (N : Nat) (u : Value) : kindF N 0 (Fact.is u) := plain_is u
theorem kind_any (N : Nat) : kindF N 0 Fact.any := plain_any
/-- WHATEVER THE ORDER: operations of three kinds, facts of three kinds; I0: what holds when the region begins, till an operation of kind 1 -/
theorem wp_region_gen0 {P : Program} {ops : Array Oper} {id : Nat} {Q : Exit → Act → World → Prop} {a0 : Act} {w0 : World} (hm : P.follows .mixedOrders = true) (hB : relB ops = true) (B : Nat) (hBs : B ≤ w0.heap.size) (fs : List Fact)
    (kd fk : Nat → Nat) (hk : killsB ops (killG ops kd fk) = true) (hf : ∀ j, kindF w0.heap.size (fk j) (factAt fs j))
    (I0 : World → Prop) (hI0 : I0 w0.drew) (hI1 : ∀ W W', Ext W W' → I0 W → I0 W') (hI2 : ∀ W W', Below w0.heap.size W W' → I0 W → I0 W')
    (step : ∀ i o, ops[i]? = some o → ∀ vals W, Below B w0 W → (∀ e ∈ o.after, bindD e = true → (factAt fs e.on).p (vals e.on) W) → ((∀ k, k < ops.size → (kd k == 1) = true → k = i ∨ waitsB ops k i = true) → I0 W) →
      opYield P ops o (relAct ops a0 (fun _ => true) vals i) W (fun v W' => kindT B w0.heap.size (kd i) W W' ∧ (factAt fs i).p v W'))
    (hend : ∀ vals W, Below B w0 W → (∀ j, j < ops.size → keepB ops kd fk j = true → (factAt fs j).p (vals j) W) → Q .normal (relAct ops a0 (fun _ => true) vals ops.size) W) :
    (Code.region id ops true).wp P Q a0 w0 := by
  refine wp_region_rel0 hm hB (killG ops kd fk) hk (fun i W W' => kindT B w0.heap.size (kd i) W W') (fun W => Below B w0 W) (fun i v W => (factAt fs i).p v W) I0 (fun i => kd i == 1) hI0 ?_ ?_ ?_ ?_ ?_ ?_
  · intro i W W' hk0 hC h1 h2
    generalize kd i = c at *
    match c, h2 with
    | 0, h2 => exact hI1 _ _ h2 h1
    | 1, _ => cases hk0
    | c + 2, h2 => exact hI2 _ _ h2 h1
  · exact ⟨rfl, rfl, rfl, Nat.le_refl _, fun _ _ => rfl⟩
  · intro i W W' h1 h2
    refine h1.trans ?_
    have hs := h1.size
    generalize kd i = c at *
    match c, h2 with
    | 0, h2 => exact Below.mono h2 (by omega)
    | 1, h2 => exact Kept.below h2 (by omega) (fun k hk h => by omega)
    | c + 2, h2 => exact Below.mono h2 hBs
  · intro i j v W W' hij hki hwt hC h1 h2
    have hs := hC.size
    have hfj := hf j
    unfold killG at hki
    rw [hwt] at hki
    generalize kd i = c at *
    generalize fk j = d at *
    generalize factAt fs j = f at *
    match c, h2 with
    | 0, h2 => exact f.st _ _ _ h2 h1
    | 1, h2 =>
      match d, hfj with
      | 0, hfj => exact hfj _ _ _ h1
      | 1, hfj => exact hfj _ _ _ (Kept.mono h2 (fun k _ h => h.2)) h1
      | d + 2, _ => simp [hij] at hki
    | c + 2, h2 =>
      match d, hfj with
      | 0, hfj => exact hfj _ _ _ h1
      | 1, _ => simp [hij] at hki
      | 2, hfj => exact hfj _ _ _ h2 h1
      | d + 3, _ => simp [hij] at hki
  · intro i o ho vals W hE h hI
    exact step i o ho vals W hE h hI
  · intro vals W hE h
    refine hend vals W hE fun j hj hkj => h j hj fun i hi => ?_
    have := List.all_eq_true.1 hkj i (List.mem_range.2 hi)
    simpa only [Bool.not_eq_true'] using this
/-- WHATEVER THE ORDER: operations of three kinds, facts of three kinds -/
theorem wp_region_gen {P : Program} {ops : Array Oper} {id : Nat} {Q : Exit → Act → World → Prop} {a0 : Act} {w0 : World} (hm : P.follows .mixedOrders = true) (hB : relB ops = true) (B : Nat) (hBs : B ≤ w0.heap.size) (fs : List Fact)
    (kd fk : Nat → Nat) (hk : killsB ops (killG ops kd fk) = true) (hf : ∀ j, kindF w0.heap.size (fk j) (factAt fs j))
    (step : ∀ i o, ops[i]? = some o → ∀ vals W, Below B w0 W → (∀ e ∈ o.after, bindD e = true → (factAt fs e.on).p (vals e.on) W) →
      opYield P ops o (relAct ops a0 (fun _ => true) vals i) W (fun v W' => kindT B w0.heap.size (kd i) W W' ∧ (factAt fs i).p v W'))
    (hend : ∀ vals W, Below B w0 W → (∀ j, j < ops.size → keepB ops kd fk j = true → (factAt fs j).p (vals j) W) → Q .normal (relAct ops a0 (fun _ => true) vals ops.size) W) :
    (Code.region id ops true).wp P Q a0 w0 := by
  refine wp_region_rel hm hB (killG ops kd fk) hk (fun i W W' => kindT B w0.heap.size (kd i) W W') (fun W => Below B w0 W) (fun i v W => (factAt fs i).p v W) ?_ ?_ ?_ ?_ ?_
  · exact ⟨rfl, rfl, rfl, Nat.le_refl _, fun _ _ => rfl⟩
  · intro i W W' h1 h2
    refine h1.trans ?_
    have hs := h1.size
    generalize kd i = c at *
    match c, h2 with
    | 0, h2 => exact Below.mono h2 (by omega)
    | 1, h2 => exact Kept.below h2 (by omega) (fun k hk h => by omega)
    | c + 2, h2 => exact Below.mono h2 hBs
  · intro i j v W W' hij hki hwt hC h1 h2
    have hs := hC.size
    have hfj := hf j
    unfold killG at hki
    rw [hwt] at hki
    generalize kd i = c at *
    generalize fk j = d at *
    generalize factAt fs j = f at *
    match c, h2 with
    | 0, h2 => exact f.st _ _ _ h2 h1
    | 1, h2 =>
      match d, hfj with
      | 0, hfj => exact hfj _ _ _ h1
      | 1, hfj => exact hfj _ _ _ (Kept.mono h2 (fun k _ h => h.2)) h1
      | d + 2, _ => simp [hij] at hki
    | c + 2, h2 =>
      match d, hfj with
      | 0, hfj => exact hfj _ _ _ h1
      | 1, _ => simp [hij] at hki
      | 2, hfj => exact hfj _ _ _ h2 h1
      | d + 3, _ => simp [hij] at hki
  · intro i o ho vals W hE h
    exact step i o ho vals W hE h
  · intro vals W hE h
    refine hend vals W hE fun j hj hkj => h j hj fun i hi => ?_
    have := List.all_eq_true.1 hkj i (List.mem_range.2 hi)
    simpa only [Bool.not_eq_true'] using this
end Go.Proofs.YtkeimgamjnpcbaaGreat
