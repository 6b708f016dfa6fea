/-
  Texts merged by a program (Rel4, RefW, ShaM, SumM, Sum).
-/
import Derived.Laws.CopyRow
import Derived.Test.YthogembgndkmpaaGreatDoorHk2
import Derived.Test.YthogembgndkmpaaGreatDoorHk5
set_option linter.unusedSimpArgs false
set_option linter.unusedVariables false
/- A region that draws its order: what is said of an operation may name the values of those that it waits for, and only what may still run can undo it. -/
namespace Go.Proofs.YthogembgndkmpaaGreatDoor
open Go.RowKit
/-- operation j waits for i, at once or by others -/
def waitsT (ops : Array Oper) : Nat → Nat → Nat → Bool
  | 0, _, _ => false
  | f + 1, j, i => match ops[j]? with
    | none => false
    | some o => o.after.any fun e => Region.binds .any e && (e.on == i || waitsT ops f e.on i)
theorem waitsT_listed {ops : Array Oper} {listed : Array Bool} (hdown : ∀ j o, ops[j]? = some o → listed.getD j false = true → ∀ e ∈ o.after, Region.binds .any e = true → listed.getD e.on false = true) :
    ∀ (f j i : Nat), listed.getD j false = true → waitsT ops f j i = true → listed.getD i false = true
  | 0, _, _, _, h => by cases h
  | f + 1, j, i, hj, h => by
    unfold waitsT at h
    cases ho : ops[j]? with
    | none => rw [ho] at h; cases h
    | some o =>
      rw [ho] at h
      simp only [] at h
      rw [Array.any_eq_true] at h
      obtain ⟨x, hx, h9⟩ := h
      simp only [Bool.and_eq_true, Bool.or_eq_true, beq_iff_eq] at h9
      have he := hdown j o ho hj _ (Array.getElem_mem hx) h9.1
      rcases h9.2 with h9 | h9
      · rw [← h9]; exact he
      · exact waitsT_listed hdown f _ i he h9
/-- an edge along which a value is handed on, or calls stand in order -/
def bindC (e : Edge) : Bool := Region.binds .any e && (rdB e || match e.ground with | .chain => true | _ => false)
theorem bindC_binds {e : Edge} (h : bindC e = true) : Region.binds .any e = true := by unfold bindC at h; rw [Bool.and_eq_true] at h; exact h.1
/-- who waits for what is undone has run, or undoes it -/
def killsX (bd : Edge → Bool) (ops : Array Oper) (kills : Nat → Nat → Bool) : Bool := (List.range ops.size).all fun i => (List.range ops.size).all fun j => !kills i j || (List.range ops.size).all fun k => match ops[k]? with
  | none => true
  | some o => k == i || waitsT ops ops.size i k || o.after.all fun e => !(bd e) || e.on != j
section
variable {P : Program} {ops : Array Oper}
/-- WHATEVER THE ORDER -/
theorem wp_region_t {id : Nat} {Q : Exit → Act → World → Prop} {a0 : Act} {w0 : World} (bd : Edge → Bool) (hbd : ∀ e, bd e = true → Region.binds .any e = true) (hm : P.follows .mixedOrders = true) (hB : relB2 ops = true)
    (kills : Nat → Nat → Bool) (hkB : killsX bd ops kills = true) (T : Nat → World → World → Prop) (C : World → Prop) (R : Nat → (Nat → Value) → World → Prop) (hRc : ∀ j vals i v W, i ≠ j → waitsT ops ops.size j i = false → R j vals W → R j (fun k => if k = i then v else vals k) W)
    (I0 : World → Prop) (kills0 : Nat → Bool) (hI0 : I0 { w0 with drawn := w0.drawn + 1 }) (hIst : ∀ i W W', kills0 i = false → C W → I0 W → T i W W' → I0 W')
    (hC0 : C { w0 with drawn := w0.drawn + 1 }) (hC : ∀ i W W', C W → T i W W' → C W')
    (hR : ∀ i j v W W', i ≠ j → kills i j = false → waitsT ops ops.size j i = false → C W → R j v W → T i W W' → R j v W')
    (step : ∀ i o, ops[i]? = some o → ∀ vals W, C W → (∀ e ∈ o.after, bd e = true → R e.on vals W) → ((∀ k, k < ops.size → kills0 k = true → k = i ∨ waitsT ops ops.size k i = true) → I0 W) →
      opYield P ops o (relAct ops a0 (fun _ => true) vals i) W (fun v W' => T i W W' ∧ R i (fun k => if k = i then v else vals k) W'))
    (hend : ∀ vals W, C W → (∀ j, j < ops.size → (∀ i, i < ops.size → kills i j = false) → R j vals W) → Q .normal (relAct ops a0 (fun _ => true) vals ops.size) W) :
    (Code.region id ops true).wp P Q a0 w0 := by
  have main : ∀ (fuel : Nat) (listed : Array Bool) (vals : Nat → Value) (W : World), listed.size = ops.size → listed.toList.count false ≤ fuel →
      (∀ j o, ops[j]? = some o → listed.getD j false = true → ∀ e ∈ o.after, Region.binds .any e = true → listed.getD e.on false = true) → C W →
      (∀ j, listed.getD j false = true → (∀ i, listed.getD i false = true → kills i j = false) → R j vals W) → ((∀ k, listed.getD k false = true → kills0 k = false) → I0 W) →
      wpAny P .any ops Q fuel listed (relAct ops a0 (fun j => listed.getD j false) vals ops.size) W := by
    intro fuel
    have fin : ∀ (listed : Array Bool) (vals : Nat → Value) (W : World), listed.size = ops.size → Region.ready .any ops listed = [] → C W →
        (∀ j, listed.getD j false = true → (∀ i, listed.getD i false = true → kills i j = false) → R j vals W) → Q .normal (relAct ops a0 (fun j => listed.getD j false) vals ops.size) W := by
      intro listed vals W hs hr hCW hRW
      have all : ∀ n, ∀ j, j < n → j < ops.size → listed.getD j false = true := by
        intro n
        induction n with
        | zero => intro j h; omega
        | succ n ih =>
          intro j hj hlt
          cases hl : listed.getD j false
          · exfalso
            have hop : ops[j]? = some ops[j] := Array.getElem?_eq_getElem hlt
            obtain ⟨_, hb2, _⟩ := relB2_spec hB hop
            have : j ∈ Region.ready .any ops listed := by
              rw [mem_ready]
              refine ⟨?_, ops[j], hop, fun e he hb => ih e.on (by have := hb2 e he hb; omega) (by have := hb2 e he hb; omega)⟩
              have hjs : j < listed.size := by omega
              simp [hjs] at hl ⊢
              exact hl
            rw [hr] at this
            cases this
          · rfl
      have e := relAct_congr (ops := ops) (a0 := a0) (L := fun j => listed.getD j false) (L' := fun _ => true) (vals := vals) (vals' := vals) ops.size (fun j hj => ⟨all (j + 1) j (by omega) hj, fun _ => rfl⟩)
      rw [e]
      refine hend vals W hCW fun j hj hk => hRW j (all (j + 1) j (by omega) hj) fun i hi => ?_
      refine hk i ?_
      rcases Nat.lt_or_ge i ops.size with g | g
      · exact g
      · have : listed.getD i false = false := by simp [Array.getElem?_eq_none (show listed.size ≤ i by omega)]
        rw [this] at hi; cases hi
    induction fuel with
    | zero =>
      intro listed vals W hs hcount hdown hCW hRW hIW
      have hr : Region.ready .any ops listed = [] := by
        rw [List.eq_nil_iff_forall_not_mem]
        intro j hj
        have h0 := (mem_ready.1 hj).1
        obtain ⟨_, o, ho, _⟩ := mem_ready.1 hj
        have hjs : j < listed.size := by have := (Array.getElem?_eq_some_iff.1 ho).1; omega
        have hmem : false ∈ listed.toList := by
          have : listed[j] = false := by simpa [hjs] using h0
          rw [← this]
          simp
        have := List.count_pos_iff.2 hmem
        omega
      exact ⟨hr, fin listed vals W hs hr hCW hRW⟩
    | succ fuel ih =>
      intro listed vals W hs hcount hdown hCW hRW hIW
      refine ⟨fun hr => fin listed vals W hs hr hCW hRW, fun i hi => ?_⟩
      obtain ⟨h0, o, ho, hall⟩ := mem_ready.1 hi
      have hlt : i < ops.size := (Array.getElem?_eq_some_iff.1 ho).1
      have hli : listed.getD i false = false := by simpa [show i < listed.size by omega] using h0
      have hli? : listed[i]? = some false := by
        rw [Array.getElem?_eq_getElem (show i < listed.size by omega)]
        simpa [show i < listed.size by omega] using hli
      obtain ⟨hsel, hb2, hb3⟩ := relB2_spec hB ho
      have hdi : dstAt ops i = o.dst := by unfold dstAt; rw [ho]; rfl
      have notkilled : ∀ e ∈ o.after, bd e = true → ∀ k, listed.getD k false = true → kills k e.on = false := by
        intro e he hb k hk
        cases hkk : kills k e.on
        · rfl
        · exfalso
          have hkl : k < ops.size := by
            rcases Nat.lt_or_ge k ops.size with g | g
            · exact g
            · have : listed.getD k false = false := by simp [Array.getElem?_eq_none (show listed.size ≤ k by omega)]
              rw [this] at hk; cases hk
          have h1 := List.all_eq_true.1 hkB k (List.mem_range.2 hkl)
          have heo : e.on < ops.size := by have := hb2 e he (hbd e hb); omega
          have h2 := List.all_eq_true.1 h1 e.on (List.mem_range.2 heo)
          rw [hkk] at h2
          simp only [Bool.not_true, Bool.false_or] at h2
          have h3 := List.all_eq_true.1 h2 i (List.mem_range.2 hlt)
          rw [ho] at h3
          simp only [Bool.or_eq_true, beq_iff_eq] at h3
          rcases h3 with (h3 | h3) | h3
          · subst h3; rw [hli] at hk; cases hk
          · rw [waitsT_listed hdown _ k i hk h3] at hli; cases hli
          · have h4 := (Array.all_eq_true_iff_forall_mem.1 h3) e he
            rw [hb] at h4
            simp at h4
      have hst := step i o ho vals W hCW (fun e he hb => hRW e.on (hall e he (hbd e hb)) (notkilled e he hb)) (fun hw => hIW fun k hk => by
        cases hkk : kills0 k
        · rfl
        · exfalso
          have hkl : k < ops.size := by
            rcases Nat.lt_or_ge k ops.size with g | g
            · exact g
            · have : listed.getD k false = false := by simp [Array.getElem?_eq_none (show listed.size ≤ k by omega)]
              rw [this] at hk; cases hk
          rcases hw k hkl hkk with rfl | hwt
          · rw [hli] at hk; cases hk
          · rw [waitsT_listed hdown _ k i hk hwt] at hli; cases hli)
      have hst2 : opYield P ops o (relAct ops a0 (fun j => listed.getD j false) vals ops.size) W (fun v W' => T i W W' ∧ R i (fun k => if k = i then v else vals k) W') := by
        refine opYield_congr hsel ?_ hst
        intro t ht
        by_cases hex : ∃ k, dstAt ops k = some t
        · obtain ⟨k, hk⟩ := hex
          rcases (hb3 k t hk).2 ht with ⟨hki, e, he, heq, hbe⟩ | hkw
          rotate_left
          · obtain ⟨ok, hok, e, he, heq, hbe⟩ := waitsB_elim hkw
            have hik : i < k := by have := (relB2_spec hB hok).2.1 e he hbe; omega
            have hlk : listed.getD k false = false := by
              cases hlk : listed.getD k false
              · rfl
              · have := hdown k ok hok hlk e he hbe
                rw [heq, hli] at this
                cases this
            have hu : ∀ j, dstAt ops j = some t → j = k := by
              intro j hj
              have hjl : j < ops.size := by
                rcases Nat.lt_or_ge j ops.size with g | g
                · exact g
                · unfold dstAt at hj; rw [Array.getElem?_eq_none g] at hj; cases hj
              rcases Nat.lt_trichotomy j k with g | g | g
              · exfalso
                have := ((relB2_spec hB hok).2.2 j t hj).1 (by omega)
                apply this
                unfold dstAt at hk; rw [hok] at hk; exact hk
              · exact g
              · exfalso
                have hjop : ops[j]? = some ops[j] := Array.getElem?_eq_getElem hjl
                have := ((relB2_spec hB hjop).2.2 k t hk).1 (by omega)
                apply this
                unfold dstAt at hj; rw [hjop] at hj; exact hj
            rw [relAct_free i (fun j hj _ h => by have := hu j h; omega), relAct_free ops.size (fun j _ hl h => by
              have := hu j h
              rw [this, hlk] at hl
              cases hl)]
          have hkl : listed.getD k false = true := by rw [← heq]; exact hall e he hbe
          have hu : ∀ j, dstAt ops j = some t → j = k := by
            intro j hj
            rcases Nat.lt_trichotomy j k with g | g | g
            · exfalso
              have hkop : ops[k]? = some ops[k] := Array.getElem?_eq_getElem (by omega)
              have := ((relB2_spec hB hkop).2.2 j t hj).1 (by omega)
              apply this
              unfold dstAt at hk; rw [hkop] at hk; exact hk
            · exact g
            · exfalso
              have hjl : j < ops.size := by
                rcases Nat.lt_or_ge j ops.size with g | g
                · exact g
                · unfold dstAt at hj; rw [Array.getElem?_eq_none g] at hj; cases hj
              have hjop : ops[j]? = some ops[j] := Array.getElem?_eq_getElem hjl
              have := ((relB2_spec hB hjop).2.2 k t hk).1 (by omega)
              apply this
              unfold dstAt at hj; rw [hjop] at hj; exact hj
          rw [relAct_at hk hu i hki rfl, relAct_at hk hu ops.size (by omega) hkl]
        · have hno : ∀ j, dstAt ops j ≠ some t := fun j hj => hex ⟨j, hj⟩
          rw [relAct_free i (fun j _ _ => hno j), relAct_free ops.size (fun j _ _ => hno j)]
      refine wpOp_of_yield ho hst2 fun v W' ⟨hT, hRi⟩ => ?_
      rw [← hdi, put_relAct hli (fun j d hne hj => by
        intro hid
        rw [hdi] at hid
        exact (hb3 j d hj).1 hne hid) ops.size hlt]
      have hget : ∀ j, (listed.setIfInBounds i true).getD j false = if j = i then true else listed.getD j false := by
        intro j
        by_cases e : j = i
        · subst e
          rw [if_pos rfl]
          simp [show j < listed.size by omega]
        · rw [if_neg e]
          have hne : i ≠ j := fun h => e h.symm
          simp only [Array.getD_eq_getD_getElem?, Array.getElem?_setIfInBounds_ne hne]
      have hcg := relAct_congr (ops := ops) (a0 := a0) (L := fun j => if j = i then true else listed.getD j false) (L' := fun j => (listed.setIfInBounds i true).getD j false) (vals := fun j => if j = i then v else vals j) (vals' := fun j => if j = i then v else vals j) ops.size (fun j _ => ⟨(hget j).symm, fun _ => rfl⟩)
      rw [hcg]
      refine ih _ _ W' (by simpa using hs) ?_ ?_ (hC i W W' hCW hT) ?_ ?_
      · have := count_set listed i hli?
        omega
      · intro j oj hj hlj e he hb
        rw [hget]
        by_cases ee : e.on = i
        · rw [if_pos ee]
        · rw [if_neg ee]
          rw [hget] at hlj
          by_cases ej : j = i
          · subst ej
            rw [ho] at hj
            cases hj
            exact hall e he hb
          · rw [if_neg ej] at hlj
            exact hdown j oj hj hlj e he hb
      · intro j hlj hnk
        by_cases ej : j = i
        · subst ej
          exact hRi
        · rw [hget, if_neg ej] at hlj
          have hki := hnk i (by rw [hget, if_pos rfl])
          have hwf : waitsT ops ops.size j i = false := by
            cases hwt : waitsT ops ops.size j i
            · rfl
            · rw [waitsT_listed hdown _ j i hlj hwt] at hli; cases hli
          refine hRc j vals i v W' (fun h => ej h.symm) hwf (hR i j _ W W' (fun h => ej h.symm) hki hwf hCW ?_ hT)
          refine hRW j hlj fun k hk => hnk k ?_
          rw [hget]
          split
          · rfl
          · exact hk
      · intro hnk
        have hki0 := hnk i (by rw [hget, if_pos rfl])
        refine hIst i W W' hki0 hCW (hIW fun k hk => hnk k ?_) hT
        rw [hget]
        split
        · rfl
        · exact hk
  refine wp_region_any hm ?_
  have h := main ops.size (Array.replicate ops.size false) (fun _ => undef) { w0 with drawn := w0.drawn + 1 } (by simp) (by simp) (fun j o _ hl => by rw [none_listed] at hl; cases hl) hC0 (fun j hl => by rw [none_listed] at hl; cases hl) (fun _ => hI0)
  have e : relAct ops a0 (fun j => (Array.replicate ops.size false).getD j false) (fun _ => undef) ops.size = a0 := by
    have : ∀ n, relAct ops a0 (fun j => (Array.replicate ops.size false).getD j false) (fun _ => undef) n = a0 := by
      intro n
      induction n with
      | zero => rfl
      | succ n ih =>
        unfold relAct
        rw [ih, if_neg (by rw [none_listed]; exact Bool.false_ne_true)]
    exact this _
  rw [e] at h
  exact h


theorem opYield_mono {o : Oper} {a : Act} {W : World} {R R' : Value → World → Prop} (h : ∀ v W', R v W' → R' v W') (k : opYield P ops o a W R) : opYield P ops o a W R' := by
  rw [opYield_def] at k ⊢
  split
  · rename_i hw
    rw [if_pos hw] at k
    generalize (execOp a.eval o).run P W = r at *
    cases r with
    | ok n w' =>
      cases n <;> simp only [yieldUpon] at k ⊢
      case value u => exact h _ _ k
      case skip => exact h _ _ k
      case enter f args => exact k.mono fun e w'' ⟨v, he, hr⟩ => ⟨v, he, h _ _ hr⟩
    | halt x w' => simp only [yieldUpon] at k
  · rename_i hw
    rw [if_neg hw] at k
    exact h _ _ k
/-- a fact that may name the values of operations that it waits for -/
structure DF where
  ws : List Nat
  f : (Nat → Value) → Fact
def DF.at (d : DF) (vals : Nat → Value) : Fact := d.f (fun k => if k ∈ d.ws then vals k else undef)
/-- of no other's value -/
def DF.c (f : Fact) : DF := ⟨[], fun _ => f⟩
/-- of the values of those -/
def DF.d (ws : List Nat) (f : (Nat → Value) → Fact) : DF := ⟨ws, f⟩
@[simp] theorem DF.c_at (f : Fact) (vals : Nat → Value) : (DF.c f).at vals = f := rfl
theorem DF.d_at (ws : List Nat) (f : (Nat → Value) → Fact) (vals : Nat → Value) : (DF.d ws f).at vals = f (fun k => if k ∈ ws then vals k else undef) := rfl
def dfAt (fs : List DF) (j : Nat) : DF := fs.getD j (DF.c Fact.any)
def wsB (ops : Array Oper) (fs : List DF) : Bool := (List.range fs.length).all fun j => (dfAt fs j).ws.all fun k => waitsT ops ops.size j k
theorem df_at_congr {d : DF} {vals vals' : Nat → Value} (h : ∀ k ∈ d.ws, vals k = vals' k) : d.at vals = d.at vals' := by
  unfold DF.at
  congr 1
  funext k
  split
  · exact h k ‹_›
  · rfl
def kindX (B N : Nat) : Nat → World → World → Prop
  | 0, W, W' => Ext W W'
  | 1, W, W' => Kept (fun b => B ≤ b ∧ b < N) W W'
  | 2, W, W' => Below N W W'
  | _, W, W' => Below B W W'
def hurtsB : Nat → Nat → Bool
  | 0, _ => false
  | 1, f => decide (2 ≤ f)
  | 2, f => f == 1 || decide (3 ≤ f)
  | _, f => decide (1 ≤ f)
def killF (ops : Array Oper) (kd fk : Nat → Nat) (i j : Nat) : Bool := hurtsB (kd i) (fk j) && i != j && !waitsT ops ops.size j i
def keepX (ops : Array Oper) (kd fk : Nat → Nat) (j : Nat) : Bool := (List.range ops.size).all fun i => !killF ops kd fk i j
/-- WHATEVER THE ORDER: operations of four kinds (0: new memory; 1: they write what was there from B on; 2: what is new; 3: whatever lies from B on), facts of four kinds (0: of no world; 1: they bear kind 1; 2: they bear kind 2; 3: new memory alone); I0: what holds when the region begins, till an operation of kinds 1, 3 -/
theorem wp_region_x {id : Nat} {Q : Exit → Act → World → Prop} {a0 : Act} {w0 : World} (hm : P.follows .mixedOrders = true) (hB : relB2 ops = true) (B : Nat) (hBs : B ≤ w0.heap.size) (fs : List DF) (hw : wsB ops fs = true)
    (kd fk : Nat → Nat) (hk : killsX bindD ops (killF ops kd fk) = true) (hf : ∀ j vals, kindF w0.heap.size (fk j) ((dfAt fs j).at vals))
    (I0 : World → Prop) (hI0 : I0 w0.drew) (hI1 : ∀ W W', Ext W W' → I0 W → I0 W') (hI2 : ∀ W W', Below w0.heap.size W W' → I0 W → I0 W')
    (step : ∀ i o, ops[i]? = some o → ∀ vals W, Below B w0 W → (∀ e ∈ o.after, bindD e = true → ((dfAt fs e.on).at vals).p (vals e.on) W) → ((∀ k, k < ops.size → (kd k == 1 || decide (3 ≤ kd k)) = true → k = i ∨ waitsT ops ops.size k i = true) → I0 W) →
      opYield P ops o (relAct ops a0 (fun _ => true) vals i) W (fun v W' => kindX B w0.heap.size (kd i) W W' ∧ ((dfAt fs i).at vals).p v W'))
    (hend : ∀ vals W, Below B w0 W → (∀ j, j < ops.size → keepX ops kd fk j = true → ((dfAt fs j).at vals).p (vals j) W) → Q .normal (relAct ops a0 (fun _ => true) vals ops.size) W) :
    (Code.region id ops true).wp P Q a0 w0 := by
  have hws : ∀ j k, k ∈ (dfAt fs j).ws → waitsT ops ops.size j k = true := by
    intro j k hk
    rcases Nat.lt_or_ge j fs.length with g | g
    · have := List.all_eq_true.1 hw j (List.mem_range.2 g)
      exact List.all_eq_true.1 this k hk
    · have e : dfAt fs j = DF.c Fact.any := by unfold dfAt; rw [List.getD_eq_getElem?_getD, List.getElem?_eq_none g]; rfl
      rw [e] at hk
      cases hk
  have hself : ∀ f j, waitsT ops f j j = false := by
    have hlt : ∀ f j i, waitsT ops f j i = true → i < j := by
      intro f
      induction f with
      | zero => intro j i h; cases h
      | succ f ih =>
        intro j i h
        unfold waitsT at h
        cases ho : ops[j]? with
        | none => rw [ho] at h; cases h
        | some o =>
          rw [ho] at h
          simp only [] at h
          rw [Array.any_eq_true] at h
          obtain ⟨x, hx, h9⟩ := h
          simp only [Bool.and_eq_true, Bool.or_eq_true, beq_iff_eq] at h9
          have h1 := (relB2_spec hB ho).2.1 _ (Array.getElem_mem hx) h9.1
          rcases h9.2 with h9 | h9
          · omega
          · have := ih _ _ h9; omega
    intro f j
    cases h : waitsT ops f j j
    · rfl
    · exact absurd (hlt f j j h) (Nat.lt_irrefl _)
  have hcongr : ∀ j vals i v, waitsT ops ops.size j i = false → (dfAt fs j).at (fun k => if k = i then v else vals k) = (dfAt fs j).at vals := by
    intro j vals i v h
    refine df_at_congr fun k hk => ?_
    have : k ≠ i := fun e => by
      subst e
      rw [hws j k hk] at h
      cases h
    rw [if_neg this]
  refine wp_region_t bindD (fun _ h => bindD_binds h) hm hB (killF ops kd fk) hk (fun i W W' => kindX B w0.heap.size (kd i) W W') (fun W => Below B w0 W) (fun j vals W => ((dfAt fs j).at vals).p (vals j) W) ?_ I0 (fun i => kd i == 1 || decide (3 ≤ kd i)) hI0 ?_ ?_ ?_ ?_ ?_ ?_
  · intro j vals i v W hij hwt h
    rw [hcongr j vals i v hwt]
    show ((dfAt fs j).at vals).p (if j = i then v else vals j) W
    rw [if_neg (Ne.symm hij)]
    exact h
  · intro i W W' hk0 hC h1 h2
    generalize kd i = c at *
    match c, h2 with
    | 0, h2 => exact hI1 _ _ h2 h1
    | 1, _ => cases hk0
    | 2, h2 => exact hI2 _ _ h2 h1
    | c + 3, _ => simp at hk0
  · exact ⟨rfl, rfl, rfl, Nat.le_refl _, fun _ _ => rfl⟩
  · intro i W W' h1 h2
    refine h1.trans ?_
    have hs := h1.size
    generalize kd i = c at *
    match c, h2 with
    | 0, h2 => exact Below.mono h2 (by omega)
    | 1, h2 => exact Kept.below h2 (by omega) (fun k hk h => by omega)
    | 2, h2 => exact Below.mono h2 hBs
    | c + 3, h2 => exact h2
  · intro i j vals W W' hij hki hwt hC h1 h2
    have hs := hC.size
    have hfj := hf j vals
    unfold killF at hki
    rw [hwt] at hki
    have hne : (i != j) = true := by simpa using hij
    rw [hne] at hki
    simp only [Bool.not_false, Bool.and_true] at hki
    generalize kd i = c at *
    generalize fk j = d at *
    generalize (dfAt fs j).at vals = f at *
    match c, h2 with
    | 0, h2 => exact f.st _ _ _ h2 h1
    | 1, h2 =>
      match d, hfj with
      | 0, hfj => exact hfj _ _ _ h1
      | 1, hfj => exact hfj _ _ _ (Kept.mono h2 (fun k _ h => h.2)) h1
      | d + 2, _ => simp [hurtsB] at hki
    | 2, h2 =>
      match d, hfj with
      | 0, hfj => exact hfj _ _ _ h1
      | 1, _ => simp [hurtsB] at hki
      | 2, hfj => exact hfj _ _ _ h2 h1
      | d + 3, _ => simp [hurtsB] at hki
    | c + 3, h2 =>
      match d, hfj with
      | 0, hfj => exact hfj _ _ _ h1
      | d + 1, _ => simp [hurtsB] at hki
  · intro i o ho vals W hE h hI
    refine opYield_mono ?_ (step i o ho vals W hE h hI)
    rintro v W' ⟨h1, h2⟩
    refine ⟨h1, ?_⟩
    rw [hcongr i vals i v (hself _ _)]
    show ((dfAt fs i).at vals).p (if i = i then v else vals i) W'
    rw [if_pos rfl]
    exact h2
  · intro vals W hE h
    refine hend vals W hE fun j hj hkj => h j hj fun i hi => ?_
    have := List.all_eq_true.1 hkj i (List.mem_range.2 hi)
    simpa only [Bool.not_eq_true'] using this
end
end Go.Proofs.YthogembgndkmpaaGreatDoor

/- Contracts of the reference of names and data: Wire, Put. -/
namespace Go.Proofs.YthogembgndkmpaaGreatDoor
open Go.RowKit
namespace Nm
/-- append of a text to a row of the call's own, in a region that draws -/
theorem yield_text {ops : Array Oper} {o : Oper} {a : Act} {W : World} {R : Value → World → Prop} (hgd : o.guard = none) (sl x : Operand)
    (ho : o.op = .call { callee := .builtin .append, args := #[sl, x], argTypes := #[28, 9] }) {B : Nat} {v : Value} {n : Nat} {xs s : Lab} (hs : a.eval sl = v) (hown : W.ownsRow B 5 1 v n (xs.map byteV)) (hB : B ≤ W.heap.size)
    (hx : a.eval x = .string (strB s)) (hn : n + s.length ≤ 1000000000)
    (h : ∀ v' W', W'.ownsRow B 5 1 v' (n + s.length) ((xs ++ s).map byteV) → Below B W W' → R v' W') : opYield Tryz.prog ops o a W R := by
  obtain ⟨i0, hi, hz0, hz1, hz2⟩ := info_parts info_u8
  have hw : Region.wanted o (yielded ops a.tmps) = true := by simp [Region.wanted, hgd]
  rw [opYield_def, if_pos hw]
  obtain ⟨v', w', hr, h2, h3, _⟩ := Lib.run_append_own_string (P := Tryz.prog) W B 28 9 o.type 5 i0 Tryz.underlying28 Tryz.underlying9 hi hz0 hz1 hz2 v n _ hown (strB s) (by rw [strB_size]; unfold maxLen; omega) (by rw [strB_size]; omega) hB
  unfold execOp
  simp only [ho, resolve, invoke, builtin, Sem.run_bind, Sem.run_pure, Result.andThen_ok, List.map_toArray, List.map_cons, List.map_nil, hs, hx, hr]
  rw [strB_size] at h2
  have e : xs.map byteV ++ Lib.strCells (strB s) = (xs ++ s).map byteV := by
    rw [List.map_append]
    unfold Lib.strCells
    simp [strB, byteV]
  rw [e] at h2
  exact h v' w' h2 ((Below.refl _ _).grown h3 hB (fun k hk => (hown.lt k hk).1))
theorem wrap8' (a : Int) : IntKind.u8.wrap a = a % 256 := by simp [IntKind.wrap, IntKind.signed, IntKind.bits]
theorem ownC (w : World) (B : Nat) (e : TypeId) (xs : List Value) (hB : B ≤ w.heap.size) (hl : xs.length ≤ 1000) : (w.alloc (.cells xs.toArray e)).ownsRow B e 1 (.slice (some ⟨w.heap.size, 0, none⟩) xs.length xs.length) xs.length xs :=
  ⟨by simp, .inr ⟨w.heap.size, xs.length, xs.toArray, rfl, hB, heap_alloc_new w _, Nat.le_refl _, by unfold maxLen; omega, by simp, by simp⟩⟩
set_option maxRecDepth 100000 in
set_option maxHeartbeats 20000000 in
theorem RWire (A : Option Addr) (n : List Lab) (cap : Nat) (w : World) (hc : Cs w A (n.map strV)) (hf : Small n) :
    Calls Tryz.prog 31 #[.slice A n.length cap] w fun e w' => ∃ v, e = .returned v ∧ w'.ownsRow w.heap.size 5 1 v (wire n).length ((wire n).map byteV) ∧ Below w.heap.size w w' := by
  obtain ⟨i0, hi, hz0, hz1, hz2⟩ := info_parts info_u8
  have HF := Lib.hid hf
  have hnl := hf.1
  clear hf
  go_enter Tryz.func31, Tryz.ntmps31
  go_wp2_with fail
  go_loopw [3, 4] (WireR n w) (fun _ i _ => n.length - (intOf i).toNat)
  case atStart => exact ⟨0, Nat.zero_le _, rfl, World.ownsRow_nil _ _ _ _, Below.refl _ _⟩
  case round =>
    obtain ⟨k, hk, rfl, hown, hbel⟩ := hrel
    have hw6 : (wires (n.take k)).length ≤ 1001000 := wires_few (HF.out.take k)
    by_cases hlt : k < n.length
    · obtain ⟨bk, off, rfl, hbl, hc0⟩ := Cs.str hc hlt
      have hc1 := (hbel.cell (p := ⟨bk, off + k, none⟩) hbl).trans hc0
      have hl6 : n[k].length ≤ 1000 := HF.out.2 n[k] (List.getElem_mem hlt)
      have HN : Hid (wires (n.take (k + 1)) = wires (n.take k) ++ ([UInt8.ofNat n[k].length] ++ n[k])) := Lib.hid (wires_take hlt)
      have hsz := strB_size n[k]
      have hbv := byte_len n[k]
      generalize n[k] = l at *
      generalize hwk : wires (n.take k) = xs at *
      have HB := Lib.hid hbv
      clear hwk hbv
      go_wp2_with fail
      have hB0 := hbel.size
      refine wp_region_x (by kernel_rfl) (by kernel_rfl) w.heap.size hB0 [.c (.is u3), .c (.is (.slice (some ⟨bk, off, none⟩) n.length cap)), .c (.is (.int .i64 k)), .c (.is (.pointer (some ⟨bk, off + k, none⟩))), .c (.is (.string (strB l))), .c (.is (.int .i64 l.length)), .c (.is (.int .u8 ((l.length : Int) % 256))),
        .c (.own w.heap.size 5 1 1 [.int .u8 ((l.length : Int) % 256)]), .c (.own w.heap.size 5 1 (xs.length + 1) ((xs ++ [UInt8.ofNat l.length]).map byteV)), .c (.is (.slice (some ⟨bk, off, none⟩) n.length cap)), .c (.is (.int .i64 k)), .c (.is (.pointer (some ⟨bk, off + k, none⟩))), .c (.is (.string (strB l))),
        .c (.own w.heap.size 5 1 (xs.length + 1 + l.length) ((xs ++ [UInt8.ofNat l.length] ++ l).map byteV)), .d [13] (fun vs => .is (vs 13))] (by kernel_rfl) (fun i => if i = 8 ∨ i = 13 then 3 else 0) (fun j => if j = 7 ∨ j = 8 ∨ j = 13 then 3 else 0) (by kernel_rfl) ?_
        (fun W => W.ownsRow w.heap.size 5 1 u3 xs.length (xs.map byteV)) hown (fun W W' hE h => own_below h hE) (fun W W' hE h => Kept.row h (Kept.of_below hE) (fun b hb e => by have := (hown.lt b hb).2; omega)) ?_ ?_
      · intro j vals
        rcases j with _ | _ | _ | _ | _ | _ | _ | _ | _ | _ | _ | _ | _ | _ | _ | j
        all_goals first
          | exact plain_is _
          | exact trivial
          | (rw [if_neg (by omega)]; exact plain_any)
      · intro i o hio vals W hC haf hI0
        have hc2 := (hC.cell (p := ⟨bk, off + k, none⟩) hbl).trans hc1
        have hBW := Nat.le_trans hB0 hC.size
        rcases i with _ | _ | _ | _ | _ | _ | _ | _ | _ | _ | _ | _ | _ | _ | _ | i
        all_goals first
          | (exfalso; simp at hio; done)
          | skip
        all_goals
          simp at hio
          subst hio
          simp [bindD, rdB, Region.binds, dfAt, DF.d_at] at haf
        all_goals first
          | (simp [opYield_def, yieldUpon, relAct, dstAt, Act.put, Region.wanted, go_sem, haf, hc2, hsz, hlt, hnl, Ext.refl, dfAt, DF.d_at, kindX]; done)
          | skip
        · simp [opYield_def, yieldUpon, relAct, dstAt, Act.put, Region.wanted, go_sem, haf, Ext.refl, dfAt, DF.d_at, kindX, wrap8']
        · simp [opYield_def, yieldUpon, relAct, dstAt, Act.put, Region.wanted, go_sem, haf, dfAt, DF.d_at, kindX]
          exact ⟨(Below.refl _ _).alloc (Nat.le_refl _) _, ownC W w.heap.size 5 [.int .u8 ((l.length : Int) % 256)] hBW (by simp)⟩
        · obtain ⟨h0, h7⟩ := haf
          have hI := hI0 (fun k hk hk2 => by
            by_cases h8 : k = 8
            · exact .inl h8
            · by_cases h13 : k = 13
              · subst h13; exact .inr (by kernel_rfl)
              · exfalso; simp [h8, h13] at hk2)
          obtain ⟨A7, c7, e7, _, hc7⟩ := Cs.of_own h7
          refine yield_bytes rfl (.tmp 11) (.tmp 18) Tryz.underlying28 rfl (v := u3) (by simp [relAct, dstAt, Act.put, Act.eval, h0]) hI hBW (us := [.int .u8 ((l.length : Int) % 256)]) (A := A7) (c := c7) (by simp [relAct, dstAt, Act.put, Act.eval, e7]) hc7 (by simp [Value.oneCell']) (by simp; omega) ?_
          intro v' W' g1 g2
          refine ⟨g2, ?_⟩
          show W'.ownsRow w.heap.size 5 1 v' (xs.length + 1) ((xs ++ [UInt8.ofNat l.length]).map byteV)
          rw [List.map_append, List.map_cons, HB.out]
          exact g1
        · obtain ⟨h8, h12⟩ := haf
          refine yield_text rfl (.tmp 19) (.tmp 23) rfl (v := vals 8) (n := xs.length + 1) (xs := xs ++ [UInt8.ofNat l.length]) (s := l) (by simp [relAct, dstAt, Act.put, Act.eval]) (by simpa [List.map_append] using h8) hBW (by simp [relAct, dstAt, Act.put, Act.eval, h12]) (by omega) ?_
          intro v' W' g1 g2
          exact ⟨g2, g1⟩
      · intro vals W hE hF
        have h13 := hF 13 (by show 13 < 15; omega) (by kernel_rfl)
        have h14 := hF 14 (by show 14 < 15; omega) (by kernel_rfl)
        simp [dfAt, DF.d_at] at h13 h14
        have hbw := hbel.trans hE
        simp [relAct, dstAt, Act.put]
        rw [h14]
        clear hF h14
        generalize vals 13 = v13 at *
        go_wp2_with fail
        refine ⟨⟨k + 1, by omega, by go_num, ?_, hbw⟩, by simp [intOf]; omega⟩
        rw [HN.out, ← List.append_assoc, List.length_append, List.length_append]
        simpa [List.map_append] using h13
    · have hkl : k = n.length := by omega
      rw [hkl, List.take_length] at hown hw6
      clear hkl
      have HW : Hid ((wire n).map byteV = (wires n).map byteV ++ [.int .u8 0] ∧ (wire n).length = (wires n).length + 1) := Lib.hid (by unfold wire; rw [List.map_append, List.length_append]; exact ⟨rfl, rfl⟩)
      go_wp2_with (first
        | (at_builtin; refine wpList_push2 hown hbel.size [.int .u8 0] rfl (by simp [Value.oneCell']) hi hz0 hz1 hz2 rfl (by decide) rfl _ _ 28 Tryz.underlying28 rfl rfl rfl (by unfold maxLen; omega) (by omega) ?_; intro v4 w4 hown4 hbw4; have hbw5 := hbel.trans hbw4))
      go_ret
      exact ⟨_, rfl, by rw [HW.out.1, HW.out.2]; exact hown4, hbw5⟩
end Nm
end Go.Proofs.YthogembgndkmpaaGreatDoor

/- SHA-256 in plain Lean: the text filled up, block by block. -/
namespace Go.Proofs.YthogembgndkmpaaGreatDoor
open Go
namespace W
def s256 : S8 := ⟨0x6a09e667, 0xbb67ae85, 0x3c6ef372, 0xa54ff53a, 0x510e527f, 0x9b05688c, 0x1f83d9ab, 0x5be0cd19⟩
/-- a number's eight bytes, the highest first (of its rest by 2 ^ 64) -/
def be8 (n : Nat) : List UInt8 := (List.range 8).map fun i => UInt8.ofNat (n / 256 ^ (7 - i))
def be4 (x : UInt32) : List UInt8 := [(x >>> 24).toUInt8, (x >>> 16).toUInt8, (x >>> 8).toUInt8, x.toUInt8]
def noughts (n : Nat) : Nat := (119 - n % 64) % 64
def pad (b : List UInt8) : List UInt8 := b ++ [0x80] ++ List.replicate (noughts b.length) 0 ++ be8 (b.length * 8 % 2 ^ 64)
theorem be8_len (n : Nat) : (be8 n).length = 8 := by simp [be8]
theorem pad_len (b : List UInt8) : (pad b).length = b.length + 9 + noughts b.length := by
  simp [pad, be8_len]; omega
theorem pad_mod (b : List UInt8) : (pad b).length % 64 = 0 := by
  rw [pad_len]
  unfold noughts
  omega
def shaF (ks : List UInt32) : Nat → List UInt8 → S8 → S8
  | 0, _, s => s
  | n + 1, l, s => shaF ks n (l.drop 64) (mix ks s (l.take 64))
theorem shaF_add (ks : List UInt32) : ∀ (n m : Nat) (l : List UInt8) (s : S8), shaF ks (n + m) l s = shaF ks m (l.drop (64 * n)) (shaF ks n l s)
  | 0, m, l, s => by simp [shaF]
  | n + 1, m, l, s => by
    rw [show n + 1 + m = (n + m) + 1 from by omega]
    show shaF ks (n + m) (l.drop 64) (mix ks s (l.take 64)) = shaF ks m (l.drop (64 * (n + 1))) (shaF ks n (l.drop 64) (mix ks s (l.take 64)))
    rw [shaF_add ks n m, List.drop_drop, show 64 + 64 * n = 64 * (n + 1) from by omega]
theorem shaF_succ (ks : List UInt32) (n : Nat) (l : List UInt8) (s : S8) : shaF ks (n + 1) l s = mix ks (shaF ks n l s) ((l.drop (64 * n)).take 64) := by
  rw [shaF_add ks n 1]
  rfl
theorem shaF_take (ks : List UInt32) : ∀ (n : Nat) (l m : List UInt8) (s : S8), 64 * n ≤ l.length → shaF ks n (l ++ m) s = shaF ks n l s
  | 0, l, m, s, _ => rfl
  | n + 1, l, m, s, h => by
    show shaF ks n ((l ++ m).drop 64) (mix ks s ((l ++ m).take 64)) = shaF ks n (l.drop 64) (mix ks s (l.take 64))
    rw [List.take_append_of_le_length (by omega), List.drop_append_of_le_length (by omega), shaF_take ks n _ m _ (by rw [List.length_drop]; omega)]
def sha8 (ks : List UInt32) (b : List UInt8) : S8 := shaF ks ((pad b).length / 64) (pad b) s256
def out (s : S8) : List UInt8 := s.list.flatMap be4
def sha (ks : List UInt32) (b : List UInt8) : List UInt8 := out (sha8 ks b)
/-- what is left behind the full blocks, filled up -/
def tail (b : List UInt8) : List UInt8 := (pad b).drop (64 * (b.length / 64))
def tailEnd (r : Nat) : Nat := if r < 56 then 64 else 128
theorem tail_eq (b : List UInt8) : tail b = b.drop (64 * (b.length / 64)) ++ [0x80] ++ List.replicate (tailEnd (b.length % 64) - 9 - b.length % 64) 0 ++ be8 (b.length * 8 % 2 ^ 64) := by
  unfold tail pad
  rw [List.append_assoc, List.append_assoc, List.drop_append_of_le_length (by omega), List.append_assoc, List.append_assoc]
  congr 3
  have : noughts b.length = tailEnd (b.length % 64) - 9 - b.length % 64 := by
    unfold noughts tailEnd
    have := Nat.mod_lt b.length (show 64 > 0 by omega)
    split <;> omega
  rw [this]
theorem tail_len (b : List UInt8) : (tail b).length = tailEnd (b.length % 64) := by
  rw [tail_eq]
  have := Nat.mod_lt b.length (show 64 > 0 by omega)
  have h : (b.drop (64 * (b.length / 64))).length = b.length % 64 := by rw [List.length_drop]; omega
  simp only [List.length_append, List.length_replicate, be8_len, List.length_cons, List.length_nil, h]
  unfold tailEnd
  split <;> omega
theorem sha8_eq (ks : List UInt32) (b : List UInt8) : sha8 ks b = shaF ks (tailEnd (b.length % 64) / 64) (tail b) (shaF ks (b.length / 64) b s256) := by
  have hl := tail_len b
  have hp := pad_len b
  have hm := pad_mod b
  have ht : (tail b).length = (pad b).length - 64 * (b.length / 64) := by unfold tail; rw [List.length_drop]
  unfold sha8
  have hq : (pad b).length / 64 = b.length / 64 + tailEnd (b.length % 64) / 64 := by
    have : tailEnd (b.length % 64) % 64 = 0 := by unfold tailEnd; split <;> rfl
    omega
  rw [hq, shaF_add]
  unfold tail
  congr 1
  unfold pad
  rw [List.append_assoc, List.append_assoc, shaF_take _ _ _ _ _ (by omega)]
end W
end Go.Proofs.YthogembgndkmpaaGreatDoor

/- hash.Sum's last buffer, in plain Lean and in memory. -/
namespace Go.Proofs.YthogembgndkmpaaGreatDoor
open Go.RowKit
namespace W
/-- bytes in a block of their own -/
def ArrB (w : World) (g : Nat) (T : TypeId) (l : List UInt8) : Prop := w.heap[g]? = some (.cells (l.map byteV).toArray T (0, 0))
theorem ArrB.lt {w : World} {g : Nat} {T : TypeId} {l : List UInt8} (h : ArrB w g T l) : g < w.heap.size := lt_block h
theorem ArrB.cell {w : World} {g : Nat} {T : TypeId} {l : List UInt8} (h : ArrB w g T l) (i : Nat) (hi : i < l.length) : w.cell? ⟨g, i, none⟩ = some (.int .u8 ((l.getD i 0).toNat : Int)) := by
  rw [cell_of_row _ _ _ _ _ _ h]
  simp [hi, byteV, List.getD]
theorem ArrB.frozen {w : World} {g : Nat} {T : TypeId} {l : List UInt8} (h : ArrB w g T l) (i : Nat) : w.frozen? ⟨g, i, none⟩ = false := by
  unfold ArrB at h
  simp [World.frozen?, h]
theorem ArrB.set {w : World} {g : Nat} {T : TypeId} {l : List UInt8} (h : ArrB w g T l) (i : Nat) (x : UInt8) : ArrB (w.setCell ⟨g, i, none⟩ (byteV x)) g T (l.set i x) := by
  unfold ArrB at h ⊢
  simp [World.setCell, Array.getElem?_modify, h, List.map_set]
theorem ArrB.keep {w w' : World} {g : Nat} {T : TypeId} {l : List UInt8} (h : ArrB w g T l) (hb : w'.heap[g]? = w.heap[g]?) : ArrB w' g T l := hb.trans h
theorem ArrB.cs {w : World} {g : Nat} {T : TypeId} {l : List UInt8} (h : ArrB w g T l) (o : Nat) : Cs w (some ⟨g, o, none⟩) ((l.drop o).map byteV) := by
  intro i u hu
  refine ⟨g, o, rfl, h.lt, ?_⟩
  rw [cell_of_row _ _ _ _ _ _ h]
  rw [List.getElem?_map, List.getElem?_drop] at hu
  simpa using hu
/-- the last buffer: i bytes of the length are laid -/
def lastAt (rb : List UInt8) (E n i : Nat) : List UInt8 := rb ++ [0x80] ++ List.replicate (E - 9 - rb.length + (8 - i)) 0 ++ (be8 n).drop (8 - i) ++ List.replicate (128 - E) 0
theorem lastAt_len (rb : List UInt8) (E n i : Nat) (h1 : rb.length + 9 ≤ E) (h2 : E ≤ 128) (hi : i ≤ 8) : (lastAt rb E n i).length = 128 := by
  unfold lastAt
  simp only [List.length_append, List.length_replicate, List.length_drop, be8_len, List.length_cons, List.length_nil]
  omega
theorem last_zero (rb : List UInt8) (E n r : Nat) (hr : rb.length = r) (h1 : r + 9 ≤ E) (h2 : E ≤ 128) : (rb ++ List.replicate (128 - r) 0).set r 0x80 = lastAt rb E n 0 := by
  subst hr
  unfold lastAt
  rw [List.set_append_right _ _ (Nat.le_refl _), Nat.sub_self, show 128 - rb.length = (127 - rb.length) + 1 from by omega, List.replicate_succ, List.set_cons_zero]
  rw [show 8 - 0 = (be8 n).length from by rw [be8_len], List.drop_length, List.append_nil, List.append_assoc, List.append_assoc, be8_len]
  congr 1
  show (0x80 : UInt8) :: List.replicate (127 - rb.length) 0 = (0x80 : UInt8) :: (List.replicate (E - 9 - rb.length + 8) 0 ++ List.replicate (128 - E) 0)
  rw [List.replicate_append_replicate]
  congr 2
  omega
theorem lastAt_set (rb : List UInt8) (E n i : Nat) (h1 : rb.length + 9 ≤ E) (h2 : E ≤ 128) (hi : i < 8) : (lastAt rb E n i).set (E - 1 - i) (UInt8.ofNat (n / 256 ^ i)) = lastAt rb E n (i + 1) := by
  unfold lastAt
  have hz : List.replicate (E - 9 - rb.length + (8 - i)) (0 : UInt8) = List.replicate (E - 9 - rb.length + (8 - (i + 1))) 0 ++ [0] := by
    rw [show E - 9 - rb.length + (8 - i) = (E - 9 - rb.length + (8 - (i + 1))) + 1 from by omega, List.replicate_succ']
  have hd : (be8 n).drop (8 - (i + 1)) = UInt8.ofNat (n / 256 ^ i) :: (be8 n).drop (8 - i) := by
    have hl : 8 - (i + 1) < (be8 n).length := by rw [be8_len]; omega
    rw [List.drop_eq_getElem_cons hl, show 8 - (i + 1) + 1 = 8 - i from by omega]
    congr 1
    simp only [be8, List.getElem_map, List.getElem_range]
    rw [show 7 - (8 - (i + 1)) = i from by omega]
  rw [hz, hd]
  have hl : (rb ++ [0x80] ++ List.replicate (E - 9 - rb.length + (8 - (i + 1))) (0 : UInt8)).length = E - 1 - i := by simp; omega
  have e1 : rb ++ [0x80] ++ (List.replicate (E - 9 - rb.length + (8 - (i + 1))) 0 ++ [0]) ++ (be8 n).drop (8 - i) ++ List.replicate (128 - E) 0 = (rb ++ [0x80] ++ List.replicate (E - 9 - rb.length + (8 - (i + 1))) (0 : UInt8)) ++ (0 :: ((be8 n).drop (8 - i) ++ List.replicate (128 - E) 0)) := by simp
  rw [e1, List.set_append_right _ _ (by omega), hl, Nat.sub_self, List.set_cons_zero]
  simp
theorem last_all (rb : List UInt8) (E n : Nat) (h1 : rb.length + 9 ≤ E) (h2 : E ≤ 128) : (lastAt rb E n 8).take E = rb ++ [0x80] ++ List.replicate (E - 9 - rb.length) 0 ++ be8 n := by
  unfold lastAt
  have hl : (rb ++ [0x80] ++ List.replicate (E - 9 - rb.length + (8 - 8)) 0 ++ (be8 n).drop (8 - 8)).length = E := by
    simp only [List.length_append, List.length_replicate, List.length_drop, be8_len, List.length_cons, List.length_nil]
    omega
  rw [List.take_append_of_le_length (by omega), List.take_of_length_le (by omega)]
  simp
/-- bytes that were told so far -/
def outB (l : List UInt8) (i : Nat) : List UInt8 := l.take i ++ List.replicate (32 - i) 0
theorem outB_set (l : List UInt8) (i : Nat) (hl : l.length = 32) (hi : i < 32) : (outB l i).set i (l.getD i 0) = outB l (i + 1) := by
  unfold outB
  have h1 : (l.take i).length = i := by simp; omega
  rw [List.set_append_right _ _ (by omega), h1, Nat.sub_self, show 32 - i = (32 - (i + 1)) + 1 from by omega, List.replicate_succ, List.set_cons_zero, List.take_succ_eq_append_getElem (by omega), List.append_assoc]
  congr 1
  simp [List.getD, hl, hi]
theorem outB_len (l : List UInt8) (i : Nat) (hl : l.length = 32) (hi : i ≤ 32) : (outB l i).length = 32 := by simp [outB, hl]; omega
theorem outB_all (l : List UInt8) (hl : l.length = 32) : outB l 32 = l := by
  unfold outB
  rw [List.take_of_length_le (by omega)]
  simp
theorem out_len (S : S8) : (out S).length = 32 := rfl
theorem out_get (S : S8) (j : Nat) (hj : j < 8) : (out S).getD (4 * j) 0 = (at_ S.list j >>> 24).toUInt8 ∧ (out S).getD (4 * j + 1) 0 = (at_ S.list j >>> 16).toUInt8 ∧ (out S).getD (4 * j + 2) 0 = (at_ S.list j >>> 8).toUInt8 ∧ (out S).getD (4 * j + 3) 0 = (at_ S.list j).toUInt8 := by
  have h : j = 0 ∨ j = 1 ∨ j = 2 ∨ j = 3 ∨ j = 4 ∨ j = 5 ∨ j = 6 ∨ j = 7 := by omega
  rcases h with rfl | rfl | rfl | rfl | rfl | rfl | rfl | rfl <;> exact ⟨rfl, rfl, rfl, rfl⟩
theorem byte24 (x : UInt32) : Value.int .u8 ((x.toNat : Int) / 16777216 % 256) = byteV (x >>> 24).toUInt8 := by
  have h := w_shr x 24 (by omega)
  rw [show ((2 : Int) ^ 24) = 16777216 from rfl] at h
  rw [h]
  unfold byteV
  rw [UInt32.toNat_toUInt8]
  rfl
theorem byte16 (x : UInt32) : Value.int .u8 ((x.toNat : Int) / 65536 % 256) = byteV (x >>> 16).toUInt8 := by
  have h := w_shr x 16 (by omega)
  rw [show ((2 : Int) ^ 16) = 65536 from rfl] at h
  rw [h]
  unfold byteV
  rw [UInt32.toNat_toUInt8]
  rfl
theorem byte8 (x : UInt32) : Value.int .u8 ((x.toNat : Int) / 256 % 256) = byteV (x >>> 8).toUInt8 := by
  have h := w_shr x 8 (by omega)
  rw [show ((2 : Int) ^ 8) = 256 from rfl] at h
  rw [h]
  unfold byteV
  rw [UInt32.toNat_toUInt8]
  rfl
theorem byte0 (x : UInt32) : Value.int .u8 ((x.toNat : Int) % 256) = byteV x.toUInt8 := by
  unfold byteV
  rw [UInt32.toNat_toUInt8]
  rfl
end W
end Go.Proofs.YthogembgndkmpaaGreatDoor

/- hash.Sum: just the sum of plain Lean. -/
namespace Go.Proofs.YthogembgndkmpaaGreatDoor
open Go.RowKit
namespace W
def z32 : Array Value := (List.replicate 32 (Value.int .u8 0)).toArray
theorem copied (W : World) (gl : Nat) (A : Option Addr) (r c : Nat) (rb : List UInt8) (hr : rb.length = r) (hr2 : r < 64) (hcs : Cs W A (rb.map byteV)) (hn : A = none → c = 0) (hg : W.heap[gl]? = some (.cells (List.replicate 128 (Value.int .u8 0)).toArray 168 (0, 0))) :
    ∃ W3, (∀ ty, (Builtin.copy_ #[28, 28] ty #[.slice (some ⟨gl, 0, none⟩) 128 128, .slice A r c]).run Tryz.prog W = .ok (goInt r) W3) ∧ W3.heap[gl]? = some (.cells (rb.map byteV ++ List.replicate (128 - r) (Value.int .u8 0)).toArray 168 (0, 0)) ∧ Kept (fun k => k = gl) W W3 := by
  cases A with
  | none =>
    have h0 : r = 0 := by
      cases rb with
      | nil => simpa using hr.symm
      | cons x xs => obtain ⟨_, _, e, _⟩ := hcs 0 (byteV x) rfl; cases e
    have hc := hn rfl
    subst h0 hc
    have hb : rb = [] := List.length_eq_zero_iff.1 hr
    subst hb
    exact ⟨W, fun ty => run_copy_nil (P := Tryz.prog) W 28 28 ty 5 ⟨gl, 0, none⟩ 128 128 Tryz.underlying28 (by kernel_rfl), by simpa using hg, Kept.refl _ _⟩
  | some a =>
    have h := fun ty => run_copy_row (P := Tryz.prog) W 28 28 ty 5 gl 0 128 128 a r c _ _ (rb.map byteV) Tryz.underlying28 (by kernel_rfl) hg (by rw [List.length_map, hr]; show r = min r 128; omega) (fun j v hv => by
      obtain ⟨b, off, e, _, hc⟩ := hcs j v hv
      cases e
      rw [add_plain]
      exact hc) (by simp [hr]; omega) (by simp [byteV, Value.oneCell'])
    have e : ((List.replicate 128 (Value.int .u8 0)).toArray.toList.take 0 ++ rb.map byteV ++ (List.replicate 128 (Value.int .u8 0)).toArray.toList.drop (0 + (rb.map byteV).length)).toArray = (rb.map byteV ++ List.replicate (128 - r) (Value.int .u8 0)).toArray := by
      rw [List.take_zero, List.nil_append, Nat.zero_add, List.length_map, hr]
      show (rb.map byteV ++ List.drop r (List.replicate 128 (Value.int .u8 0))).toArray = _
      rw [List.drop_replicate]
    rw [e] at h
    exact ⟨W.setRow gl (rb.map byteV ++ List.replicate (128 - r) (Value.int .u8 0)).toArray, fun ty => (h ty).trans (by rw [List.length_map, hr]), setRow_heap W gl _ _ _ _ hg, ⟨rfl, rfl, rfl, by simp, fun k hk hne => setRow_other W gl k _ hne⟩⟩
def SumR (ks : List UInt32) (b : List UInt8) (w : World) (v : Value) (wr : World) : Prop := ∃ (q : Nat) (A : Option Addr) (c : Nat), 64 * q ≤ b.length ∧ v = .slice A (b.length - 64 * q) c ∧ b.length - 64 * q ≤ c ∧ c ≤ maxLen ∧ (A = none → c = 0) ∧ Cs w A ((b.drop (64 * q)).map byteV) ∧
  ArrU wr (w.heap.size + 1) 166 (shaF ks q b s256).list ∧ wr.heap[w.heap.size]? = some (.cells z32 78 (0, 0)) ∧ Below w.heap.size w wr
theorem byte_of (n i : Nat) : (Value.int .u8 ((n : Int) / 2 ^ (8 * i) % 256)) = byteV (UInt8.ofNat (n / 256 ^ i)) := by
  unfold byteV
  have h : (UInt8.ofNat (n / 256 ^ i)).toNat = n / 256 ^ i % 256 := by simp
  rw [h]
  have e0 : (2 : Nat) ^ (8 * i) = 256 ^ i := by rw [Nat.pow_mul]
  have e : ((2 : Int) ^ (8 * i)) = ((256 ^ i : Nat) : Int) := by
    rw [← e0, Int.natCast_pow]
    rfl
  rw [e, ← Int.natCast_ediv]
  congr 1
theorem slice128 (gl m : Nat) (hm : 64 * m + 64 ≤ 128) (W : World) : (Instr.sliceAt 168 (.pointer (some ⟨gl, 0, none⟩)) (some (.int .i64 (64 * (m : Int)))) (some (.int .i64 (64 * (m : Int) + 64))) none).run Tryz.prog W = .ok (.slice (some ⟨gl, 64 * m, none⟩) 64 (128 - 64 * m)) W := by
  have ha : Tryz.prog.arrayLen 168 = 128 := by kernel_rfl
  have h := run_sliceAt_array_lh (P := Tryz.prog) W 168 ⟨gl, 0, none⟩ (by kernel_rfl) .i64 .i64 (64 * (m : Int)) (64 * (m : Int) + 64) (by omega) (by omega) (by rw [ha]; omega)
  rw [h]
  have hs : (sizeOf (Tryz.prog.elem 168)).run Tryz.prog W = .ok 1 W := by
    obtain rfl | rfl : m = 0 ∨ m = 1 := by omega
    all_goals simp [sizeOf, typeInfo]
    all_goals kernel_rfl
  rw [hs, ha]
  have e1 : (64 * (m : Int)).toNat = 64 * m := by omega
  have e2 : (64 * (m : Int) + 64).toNat = 64 * m + 64 := by omega
  rw [e1, e2]
  show Result.ok (slicedAt ⟨gl, 0, none⟩ (64 * m) (64 * m + 64) 128 1) W = _
  unfold slicedAt
  rw [if_neg (by omega), add_plain, Nat.mul_one, Nat.zero_add, show 64 * m + 64 - 64 * m = 64 from by omega]
def BlkR (ks : List UInt32) (tl : List UInt8) (S0 : S8) (la : List UInt8) (E gs gl g0 : Nat) (w : World) (v : Value) (wr : World) : Prop := ∃ m : Nat, 64 * m ≤ E ∧ v = .int .i64 (64 * m : Nat) ∧ ArrU wr gs 166 (shaF ks m tl S0).list ∧ ArrB wr gl 168 la ∧ wr.heap[g0]? = some (.cells z32 78 (0, 0)) ∧ Below w.heap.size w wr
def LenR (rb : List UInt8) (E n gl : Nat) (w : World) (v : Value) (wr : World) : Prop := ∃ i : Nat, i ≤ 8 ∧ v = .int .i64 i ∧ ArrB wr gl 168 (lastAt rb E n i) ∧ Kept (fun k => k = gl) w wr
def OutR (l : List UInt8) (go g0 : Nat) (w : World) (v : Value) (wr : World) : Prop := ∃ j : Nat, j ≤ 8 ∧ v = .int .i64 j ∧ ArrB wr go 78 (outB l (4 * j)) ∧ wr.heap[g0]? = some (.cells z32 78 (0, 0)) ∧ Below w.heap.size w wr
theorem run_idxS (W : World) (t : S8) (K : Nat) (hK : K < 8) : (Instr.index 166 (.agg #[.int .u32 (t.a.toNat : Int), .int .u32 (t.b.toNat : Int), .int .u32 (t.c.toNat : Int), .int .u32 (t.d.toNat : Int), .int .u32 (t.e.toNat : Int), .int .u32 (t.f.toNat : Int), .int .u32 (t.g.toNat : Int), .int .u32 (t.h.toNat : Int)]) (.int .i64 (K : Int))).run Tryz.prog W = .ok (.int .u32 ((at_ t.list K).toNat : Int)) W := by
  have h1 : (0 : Int) ≤ (K : Int) ∧ (K : Int) < 8 := by omega
  have h2 : t.list[K]? = some (at_ t.list K) := by
    simp [at_, List.getD, show K < t.list.length from hK]
  have h3 : (#[.int .u32 (t.a.toNat : Int), .int .u32 (t.b.toNat : Int), .int .u32 (t.c.toNat : Int), .int .u32 (t.d.toNat : Int), .int .u32 (t.e.toNat : Int), .int .u32 (t.f.toNat : Int), .int .u32 (t.g.toNat : Int), .int .u32 (t.h.toNat : Int)] : Array Value) = (t.list.map uv).toArray := rfl
  rw [h3]
  simp [Instr.index, asIntOf, go_sem, h1, h2, hK, uv]
set_option maxRecDepth 100000 in
set_option maxHeartbeats 20000000 in
theorem Sum (A : Option Addr) (cap : Nat) (ks : List UInt32) (b : List UInt8) (w : World) (hk : ArrU w 1 100 ks) (hkl : ks.length = 64) (hb : Cs w A (b.map byteV)) (hbl : b.length ≤ 1000000) (hc1 : b.length ≤ cap) (hc2 : cap ≤ maxLen) (hn : A = none → cap = 0) :
    Calls Tryz.prog 99 #[.slice A b.length cap] w fun e w' => e = .returned (.agg ((sha ks b).map byteV).toArray) ∧ Below w.heap.size w w' := by
  have HB := Lib.hid hb
  have hk1 := hk.lt
  have HM : Hid (∀ (q : Nat) (A : Option Addr) (gb ob c : Nat) (W : World), Below w.heap.size w W → ArrU W (w.heap.size + 1) 166 (shaF ks q b s256).list → Cs W (some ⟨gb, ob, none⟩) (((b.drop (64 * q)).take 64).map byteV) → 64 * (q + 1) ≤ b.length → Calls Tryz.prog 127 #[.pointer (some ⟨w.heap.size + 1, 0, none⟩), .slice (some ⟨gb, ob, none⟩) 64 c] W fun e w' => e = .returned (.tuple #[]) ∧ ArrU w' (w.heap.size + 1) 166 (shaF ks (q + 1) b s256).list ∧ Kept (fun k => k = w.heap.size + 1) W w') := Lib.hid fun q A gb ob c W hW hs hcs hq => by
    rw [shaF_succ]
    exact Mix (w.heap.size + 1) gb ob c _ ks _ W hs (hk.keep (hW.block 1 hk1)) hkl hcs (by simp; omega)
  clear hb
  go_enter Tryz.func99, Tryz.ntmps99
  go_wp2_with fail
  generalize hW1 : World.alloc _ _ = W1
  have ha1 : ArrU W1 (w.heap.size + 1) 166 (shaF ks 0 b s256).list := by
    rw [← hW1]
    exact heap_alloc2_new w _ _
  have hz1 : W1.heap[w.heap.size]? = some (.cells z32 78 (0, 0)) := by
    rw [← hW1]
    exact heap_alloc2_old w _ _
  have hb1 : Below w.heap.size w W1 := by
    rw [← hW1]
    exact ((Below.refl _ _).alloc (Nat.le_refl _) _).alloc (by simp) _
  clear hW1
  have HS := Lib.hid (And.intro ha1 (And.intro hz1 hb1))
  clear ha1 hz1 hb1
  go_loopw [0] (SumR ks b w) (fun v _ => match v with | .slice _ n _ => n | _ => 0)
  case atStart => exact ⟨0, A, cap, Nat.zero_le _, rfl, hc1, hc2, hn, by simpa using HB.out, HS.out.1, HS.out.2.1, HS.out.2.2⟩
  case round =>
    clear HS
    obtain ⟨q, A', c', hq, rfl, hl1, hl2, hn', hcs, harr, hz, hbel⟩ := hrel
    have HR := Lib.hid (And.intro hcs (And.intro harr (And.intro hz hbel)))
    clear hcs harr hz hbel
    by_cases hge : 64 ≤ b.length - 64 * q
    · have hne : b.drop (64 * q) ≠ [] := fun e => by have := congrArg List.length e; simp at this; omega
      obtain ⟨gb, ob, rfl, hgb, _⟩ := HR.out.1.byte (l := b.drop (64 * q)) (i := 0) (by simp; omega)
      have hm := HM.out q none gb ob c' wr HR.out.2.2.2 HR.out.2.1 (by rw [List.map_take]; exact ((HR.out.1.below HR.out.2.2.2)).take' 64) (by omega)
      have HMM := Lib.hid hm
      have hc64 : 64 ≤ c' := by omega
      have hgi : (64 : Int) ≤ ((b.length - 64 * q : Nat) : Int) := by omega
      clear hm hne
      have hlen : ((b.length - 64 * q : Nat) : Int) = (b.length : Int) - 64 * (q : Int) := by omega
      have hd := HR.out.1.drop' 64 c' (by simp; omega)
      have hde : ((b.drop (64 * q)).map byteV).drop 64 = (b.drop (64 * (q + 1))).map byteV := by
        rw [← List.map_drop, List.drop_drop]
        congr 1
      rw [hde] at hd
      have HD := Lib.hid hd
      have e9 : b.length - 64 * q - 64 = b.length - 64 * (q + 1) := by omega
      have E9 := Lib.hid e9
      clear hd hde e9
      have hlt2 : b.length - 64 * (q + 1) < b.length - 64 * q := by omega
      by_cases hc : c' = 64
      · subst hc
        have hd2 := HD.out
        rw [if_pos rfl] at hd2
        have HD2 := Lib.hid hd2
        clear hd2
        go_wp2_with fail
        refine HMM.out.mono ?_
        rintro e wM ⟨rfl, harr2, hk2⟩
        have hkz := (hk2.block w.heap.size (Nat.lt_trans (Nat.lt_succ_self _) (ArrU.lt HR.out.2.1)) (by omega)).trans HR.out.2.2.1
        have hbM := HR.out.2.2.2.trans (hk2.below HR.out.2.2.2.size (fun k hk e => by omega))
        have HX := Lib.hid (And.intro harr2 (And.intro hkz hbM))
        clear harr2 hkz hbM hk2
        go_wp2_with fail
        have e0 : b.length - 64 * (q + 1) = 0 := by omega
        refine ⟨⟨q + 1, _, 0, by omega, by rw [e0], by omega, Nat.zero_le _, (fun h => by cases h), HD2.out, HX.out.1, HX.out.2.1, HX.out.2.2⟩, ?_⟩
        show 0 < b.length - 64 * q
        omega
      · have hc' : ¬ c' = 64 := hc
        have hd2 := HD.out
        rw [if_neg hc', Option.map_some, add_plain] at hd2
        have HD2 := Lib.hid hd2
        clear hd2
        go_wp2_with fail
        refine HMM.out.mono ?_
        rintro e wM ⟨rfl, harr2, hk2⟩
        have hkz := (hk2.block w.heap.size (Nat.lt_trans (Nat.lt_succ_self _) (ArrU.lt HR.out.2.1)) (by omega)).trans HR.out.2.2.1
        have hbM := HR.out.2.2.2.trans (hk2.below HR.out.2.2.2.size (fun k hk e => by omega))
        have HX := Lib.hid (And.intro harr2 (And.intro hkz hbM))
        clear harr2 hkz hbM hk2
        go_wp2_with fail
        refine ⟨⟨q + 1, _, c' - 64, by omega, by rw [E9.out], by omega, by omega, (fun h => by cases h), HD2.out, HX.out.1, HX.out.2.1, HX.out.2.2⟩, ?_⟩
        show b.length - 64 * q - 64 < b.length - 64 * q
        omega
    · have hq64 : q = b.length / 64 := by omega
      subst hq64
      have hgi : ¬ (64 : Int) ≤ ((b.length - 64 * (b.length / 64) : Nat) : Int) := by omega
      have hr : b.length - 64 * (b.length / 64) = b.length % 64 := by omega
      have hrl : b.length % 64 < 64 := Nat.mod_lt _ (by omega)
      rw [hr] at hl1 hgi hge ⊢
      have hlr : (b.drop (64 * (b.length / 64))).length = b.length % 64 := by simp; omega
      have HT := Lib.hid (tail_eq b)
      have HE := Lib.hid (sha8_eq ks b)
      have HLR := Lib.hid hlr
      clear hr hlr hq
      generalize b.drop (64 * (b.length / 64)) = rb at *
      generalize b.length % 64 = r at *
      clear HM
      have hgl : (wr.alloc (.cells Tryz.zeroCells168 168)).heap[wr.heap.size]? = some (.cells (List.replicate 128 (Value.int .u8 0)).toArray 168 (0, 0)) := heap_alloc_new wr _
      have hbz : Below wr.heap.size wr (wr.alloc (.cells Tryz.zeroCells168 168)) := (Below.refl _ _).alloc (Nat.le_refl _) _
      obtain ⟨W3, hrun, hrow, hk3⟩ := copied _ wr.heap.size A' r c' rb HLR.out hrl (((HR.out.1.below HR.out.2.2.2)).below hbz) hn' hgl
      have hz3 := (hk3.block w.heap.size (by have := lt_block HR.out.2.2.1; have := hbz.size; omega) (by have := lt_block HR.out.2.2.1; omega)).trans ((hbz.block _ (lt_block HR.out.2.2.1)).trans HR.out.2.2.1)
      have ha3 := ArrU.keep HR.out.2.1 ((hk3.block (w.heap.size + 1) (by have := HR.out.2.1.lt; have := hbz.size; omega) (by have := HR.out.2.1.lt; omega)).trans (hbz.block _ HR.out.2.1.lt))
      have hb3 : Below w.heap.size w W3 := HR.out.2.2.2.trans ((hbz.mono HR.out.2.2.2.size).trans (hk3.below (Nat.le_trans HR.out.2.2.2.size hbz.size) (fun k hk e => by have := HR.out.2.2.2.size; omega)))
      have hrow2 : ArrB W3 wr.heap.size 168 (rb ++ List.replicate (128 - r) 0) := by
        unfold ArrB
        rw [hrow]
        simp [byteV]
      have hglt : w.heap.size + 1 < wr.heap.size := HR.out.2.1.lt
      have H3 := Lib.hid (And.intro hz3 (And.intro ha3 (And.intro hb3 hrow2)))
      have f3 := hrow2.frozen r
      have c3 := hrow2.cell r (by simp [HLR.out]; omega)
      have hr0 : (0 : Int) ≤ (r : Int) ∧ (r : Int) < 128 := by omega
      have hNb : b.length * 8 % 2 ^ 64 = b.length * 8 := Nat.mod_eq_of_lt (by omega)
      have HNB := Lib.hid hNb
      clear hz3 ha3 hb3 hrow hk3 hgl hbz hrow2 hNb
      by_cases h56 : r < 56
      · have h56' : ¬ (56 : Int) ≤ (r : Int) := by omega
        have h56d : decide ((56 : Int) ≤ (r : Int)) = false := decide_eq_false h56'
        go_wp2_with fail
        have hz4 : ArrB (W3.setCell ⟨wr.heap.size, r, none⟩ (.int .u8 128)) wr.heap.size 168 (lastAt rb 64 (b.length * 8) 0) := by
          rw [← last_zero rb 64 (b.length * 8) r HLR.out (by omega) (by omega)]
          exact H3.out.2.2.2.set r 0x80
        have hk4 : Kept (fun k => k = wr.heap.size) W3 (W3.setCell ⟨wr.heap.size, r, none⟩ (.int .u8 128)) := (Kept.refl (fun k => k = wr.heap.size) W3).setCell (fun _ => rfl) _
        have HK4 := Lib.hid (And.intro hz4 hk4)
        clear hz4 hk4 f3 c3
        generalize W3.setCell ⟨wr.heap.size, r, none⟩ (.int .u8 128) = W4 at *
        generalize wr.heap.size = gl at *
        go_loopw [7, 32] (fun _ i wr => LenR rb 64 (b.length * 8) gl W3 i wr) (fun _ i _ => 8 - (intOf i).toNat)
        case atStart => exact ⟨0, Nat.zero_le _, rfl, HK4.out.1, HK4.out.2⟩
        case round =>
          clear HK4
          obtain ⟨i, hi, rfl, harr, hkp⟩ := hrel
          by_cases hi8 : i < 8
          · have hll := lastAt_len rb 64 (b.length * 8) i (by rw [HLR.out]; omega) (by omega) hi
            have fi := harr.frozen (63 - i)
            have ci := harr.cell (63 - i) (by omega)
            have hset := lastAt_set rb 64 (b.length * 8) i (by rw [HLR.out]; omega) (by omega) hi8
            have HSET := Lib.hid hset
            have HARR := Lib.hid harr
            have m1 : IntKind.i64.wrap (63 - (i : Int)) = 63 - (i : Int) := IntWalk.i64_in _ (by omega)
            have n1 : (63 - (i : Int)).toNat = 63 - i := by omega
            have l1 : (0 : Int) ≤ 63 - (i : Int) ∧ 63 - (i : Int) < 128 := by omega
            have m2 : IntKind.i64.wrap (8 * (i : Int)) = 8 * (i : Int) := IntWalk.i64_in _ (by omega)
            have l2 : (0 : Int) ≤ 8 * (i : Int) ∧ 8 * (i : Int) < 64 := by omega
            have k1 : (i : Int) ≤ 63 := by omega
            clear hset harr
            go_wp2_with fail
            have hby := byte_of (b.length * 8) i
            rw [show ((b.length * 8 : Nat) : Int) = (b.length : Int) * 8 from by omega] at hby
            rw [hby]
            refine ⟨⟨i + 1, by omega, by go_num, ?_, hkp.setCell (p := ⟨gl, 63 - i, none⟩) (fun _ => rfl) _⟩, by simp [intOf]; omega⟩
            rw [← HSET.out, show 64 - 1 - i = 63 - i from by omega]
            exact HARR.out.set (63 - i) _
          · have hi8' : i = 8 := by omega
            subst hi8'
            have hte : tailEnd r = 64 := by unfold tailEnd; rw [if_pos h56]
            have htl : tail b = (lastAt rb 64 (b.length * 8) 8).take 64 := by
              rw [last_all rb 64 _ (by rw [HLR.out]; omega) (by omega), HT.out, HNB.out, hte, HLR.out]
            have HTL := Lib.hid htl
            have HTE := Lib.hid hte
            have hll := lastAt_len rb 64 (b.length * 8) 8 (by rw [HLR.out]; omega) (by omega) (Nat.le_refl _)
            have hbl4 : BlkR ks (tail b) (shaF ks (b.length / 64) b s256) (lastAt rb 64 (b.length * 8) 8) 64 (w.heap.size + 1) gl w.heap.size w (.int .i64 0) wr := by
              refine ⟨0, by omega, rfl, ArrU.keep H3.out.2.1 (hkp.block _ H3.out.2.1.lt (by omega)), harr, (hkp.block _ (lt_block H3.out.1) (by omega)).trans H3.out.1, H3.out.2.2.1.trans (hkp.below H3.out.2.2.1.size (fun k hk e => by omega))⟩
            have HBL := Lib.hid hbl4
            generalize lastAt rb 64 (b.length * 8) 8 = la at *
            clear hbl4 harr hkp htl hte
            go_wp2_with fail
            go_loopw [8] (BlkR ks (tail b) (shaF ks (b.length / 64) b s256) la 64 (w.heap.size + 1) gl w.heap.size w) (fun i _ => 64 - (intOf i).toNat)
            case atStart => exact HBL.out
            case round =>
              clear HBL
              obtain ⟨m, hm, rfl, hst, hla, hz, hbel⟩ := hrel
              have HX := Lib.hid (And.intro hst (And.intro hla (And.intro hz hbel)))
              clear hst hla hz hbel
              by_cases hmE : 64 * m < 64
              · have hmi : ((64 * m : Nat) : Int) < 64 := by omega
                have wm : IntKind.i64.wrap (((64 * m : Nat) : Int) + 64) = ((64 * m + 64 : Nat) : Int) := by rw [IntWalk.i64_in _ (by omega)]; omega
                have hm128 : 64 * m + 64 ≤ 128 := by omega
                have hsl := slice128 gl m hm128 wr
                have hcs := ArrB.cs HX.out.2.1 (64 * m)
                have htk : (la.drop (64 * m)).take 64 = ((tail b).drop (64 * m)).take 64 := by
                  rw [HTL.out, List.drop_take, List.take_take]
                  congr 1
                  omega
                have hmx := Mix (w.heap.size + 1) gl (64 * m) (128 - 64 * m) (shaF ks m (tail b) (shaF ks (b.length / 64) b s256)) ks (((tail b).drop (64 * m)).take 64) wr HX.out.1 (hk.keep (HX.out.2.2.2.block 1 hk1)) hkl (by
                  rw [← htk, List.map_take]
                  exact hcs.take' 64) (by rw [← htk]; simp [hll]; omega)
                rw [← shaF_succ] at hmx
                have HMX := Lib.hid hmx
                clear hcs htk hmx
                go_wp2_with fail
                refine HMX.out.mono ?_
                rintro e wM ⟨rfl, hst2, hk2⟩
                have hla2 := ArrB.keep HX.out.2.1 (hk2.block gl (ArrB.lt HX.out.2.1) (by omega))
                have hz2 := (hk2.block w.heap.size (lt_block HX.out.2.2.1) (by omega)).trans HX.out.2.2.1
                have hbM := HX.out.2.2.2.trans (hk2.below HX.out.2.2.2.size (fun k hk e => by omega))
                have HY := Lib.hid (And.intro hst2 (And.intro hla2 (And.intro hz2 hbM)))
                clear hst2 hla2 hz2 hbM hk2 HX HMX hsl
                go_wp2_with fail
                go_roundw
                case rel =>
                  have hN : BlkR ks (tail b) (shaF ks (b.length / 64) b s256) la 64 (w.heap.size + 1) gl w.heap.size w (.int .i64 (64 * (m : Int) + 64)) wM :=
                    ⟨m + 1, by omega, by congr 1, HY.out.1, HY.out.2.1, HY.out.2.2.1, HY.out.2.2.2⟩
                  first
                    | exact hN
                    | ((repeat apply Exists.intro); exact ⟨hN, rfl⟩)
                case measure => simp [intOf]; omega
              · have hmE' : 64 * m = 64 := by omega
                have hfin : shaF ks m (tail b) (shaF ks (b.length / 64) b s256) = sha8 ks b := by
                  rw [HE.out, HTE.out]
                  congr 1
                  omega
                have hst := HX.out.1
                rw [hfin] at hst
                have hsh : sha ks b = out (sha8 ks b) := rfl
                have HSH := Lib.hid hsh
                clear hfin hsh
                generalize sha8 ks b = S at *
                obtain ⟨Sa, Sb, Sc, Sd, Se, Sf, Sg, Sh⟩ := S
                have hmi : ¬ ((64 * m : Nat) : Int) < 64 := by omega
                have hgW : ∀ o, (wr.alloc o).heap[w.heap.size + 1]? = some (.cells #[.int .u32 (Sa.toNat : Int), .int .u32 (Sb.toNat : Int), .int .u32 (Sc.toNat : Int), .int .u32 (Sd.toNat : Int), .int .u32 (Se.toNat : Int), .int .u32 (Sf.toNat : Int), .int .u32 (Sg.toNat : Int), .int .u32 (Sh.toNat : Int)] 166 (0, 0)) := fun o => (heap_alloc_old wr o hst.lt).trans hst
                have hz9 : ∀ o, (wr.alloc o).heap[w.heap.size]? = some (.cells z32 78 (0, 0)) := fun o => (heap_alloc_old wr o (lt_block HX.out.2.2.1)).trans HX.out.2.2.1
                have hb9 : ∀ o, Below w.heap.size w (wr.alloc o) := fun o => HX.out.2.2.2.alloc HX.out.2.2.2.size o
                have ho9 : ArrB (wr.alloc (.cells z32 78)) wr.heap.size 78 (outB (out ⟨Sa, Sb, Sc, Sd, Se, Sf, Sg, Sh⟩) 0) := heap_alloc_new wr _
                have hlt9 : w.heap.size < wr.heap.size := Nat.lt_trans (Nat.lt_succ_self _) hst.lt
                have H9 := Lib.hid (And.intro hz9 (And.intro hb9 ho9))
                clear hst hz9 hb9 ho9 HX
                go_wp2_with (refine wpList_load_row rfl 166 _ rfl (w.heap.size + 1) rfl 166 #[.int .u32 (Sa.toNat : Int), .int .u32 (Sb.toNat : Int), .int .u32 (Sc.toNat : Int), .int .u32 (Sd.toNat : Int), .int .u32 (Se.toNat : Int), .int .u32 (Sf.toNat : Int), .int .u32 (Sg.toNat : Int), .int .u32 (Sh.toNat : Int)] (0, 0) _ (hgW _) Tryz.underlying166 rfl (by kernel_rfl) ?_)
                generalize hWa : World.alloc _ _ = Wa
                have hoa : ArrB Wa wr.heap.size 78 (outB (out ⟨Sa, Sb, Sc, Sd, Se, Sf, Sg, Sh⟩) 0) := by rw [← hWa]; exact H9.out.2.2
                have hza : Wa.heap[w.heap.size]? = some (.cells z32 78 (0, 0)) := by rw [← hWa]; exact H9.out.1 _
                have hba : Below w.heap.size w Wa := by rw [← hWa]; exact H9.out.2.1 _
                have HA9 := Lib.hid (And.intro hoa (And.intro hza hba))
                clear hWa hoa hza hba H9 hgW
                generalize wr.heap.size = go at *
                go_loopw [10, 11, 58] (fun _ _ i wr => OutR (out ⟨Sa, Sb, Sc, Sd, Se, Sf, Sg, Sh⟩) go w.heap.size w i wr) (fun _ _ i _ => 8 - (intOf i).toNat)
                case atStart => exact ⟨0, Nat.zero_le _, rfl, HA9.out.1, HA9.out.2.1, HA9.out.2.2⟩
                case round =>
                  clear HA9
                  obtain ⟨j, hj, rfl, hout, hz, hbel⟩ := hrel
                  by_cases hj8 : j < 8
                  · have hidx := run_idxS wr ⟨Sa, Sb, Sc, Sd, Se, Sf, Sg, Sh⟩ j hj8
                    simp only at hidx
                    obtain ⟨g0, g1, g2, g3⟩ := out_get ⟨Sa, Sb, Sc, Sd, Se, Sf, Sg, Sh⟩ j hj8
                    have t0 := outB_set (out ⟨Sa, Sb, Sc, Sd, Se, Sf, Sg, Sh⟩) (4 * j) (out_len _) (by omega)
                    have t1 := outB_set (out ⟨Sa, Sb, Sc, Sd, Se, Sf, Sg, Sh⟩) (4 * j + 1) (out_len _) (by omega)
                    have t2 := outB_set (out ⟨Sa, Sb, Sc, Sd, Se, Sf, Sg, Sh⟩) (4 * j + 2) (out_len _) (by omega)
                    have t3 := outB_set (out ⟨Sa, Sb, Sc, Sd, Se, Sf, Sg, Sh⟩) (4 * j + 3) (out_len _) (by omega)
                    rw [g0] at t0
                    rw [g1] at t1
                    rw [g2] at t2
                    rw [g3] at t3
                    generalize at_ (S8.list ⟨Sa, Sb, Sc, Sd, Se, Sf, Sg, Sh⟩) j = xj at *
                    have e0 := byte24 xj
                    have e1 := byte16 xj
                    have e2 := byte8 xj
                    have e3 := byte0 xj
                    have HT4 := Lib.hid (And.intro t0 (And.intro t1 (And.intro t2 t3)))
                    have HE4 := Lib.hid (And.intro e0 (And.intro e1 (And.intro e2 e3)))
                    have hol := outB_len (out ⟨Sa, Sb, Sc, Sd, Se, Sf, Sg, Sh⟩) (4 * j) (out_len _) (by omega)
                    have c0 := hout.cell (4 * j) (by omega)
                    have c1 := hout.cell (4 * j + 1) (by omega)
                    have c2 := hout.cell (4 * j + 2) (by omega)
                    have c3 := hout.cell (4 * j + 3) (by omega)
                    have f0 := hout.frozen (4 * j)
                    have f1 := hout.frozen (4 * j + 1)
                    have f2 := hout.frozen (4 * j + 2)
                    have f3 := hout.frozen (4 * j + 3)
                    have n0 : (4 * (j : Int)).toNat = 4 * j := by omega
                    have n1 : (4 * (j : Int) + 1).toNat = 4 * j + 1 := by omega
                    have n2 : (4 * (j : Int) + 2).toNat = 4 * j + 2 := by omega
                    have n3 : (4 * (j : Int) + 3).toNat = 4 * j + 3 := by omega
                    have l0 : (0 : Int) ≤ 4 * (j : Int) ∧ 4 * (j : Int) < 32 := by omega
                    have l1 : (0 : Int) ≤ 4 * (j : Int) + 1 ∧ 4 * (j : Int) + 1 < 32 := by omega
                    have l2 : (0 : Int) ≤ 4 * (j : Int) + 2 ∧ 4 * (j : Int) + 2 < 32 := by omega
                    have l3 : (0 : Int) ≤ 4 * (j : Int) + 3 ∧ 4 * (j : Int) + 3 < 32 := by omega
                    have HO := Lib.hid (And.intro hout (And.intro hz hbel))
                    clear e0 e1 e2 e3 t0 t1 t2 t3 g0 g1 g2 g3 hout hz hbel hol
                    go_wp2_with fail
                    rw [HE4.out.1, HE4.out.2.1, HE4.out.2.2.1, HE4.out.2.2.2]
                    have a0 := (((HO.out.1.set (4 * j) (xj >>> 24).toUInt8).set (4 * j + 1) (xj >>> 16).toUInt8).set (4 * j + 2) (xj >>> 8).toUInt8).set (4 * j + 3) xj.toUInt8
                    rw [HT4.out.1, HT4.out.2.1, HT4.out.2.2.1, HT4.out.2.2.2] at a0
                    have hk0 := ((((Kept.refl (fun k => k = go) wr).setCell (p := ⟨go, 4 * j, none⟩) (fun _ => rfl) (byteV (xj >>> 24).toUInt8)).setCell (p := ⟨go, 4 * j + 1, none⟩) (fun _ => rfl) (byteV (xj >>> 16).toUInt8)).setCell (p := ⟨go, 4 * j + 2, none⟩) (fun _ => rfl) (byteV (xj >>> 8).toUInt8)).setCell (p := ⟨go, 4 * j + 3, none⟩) (fun _ => rfl) (byteV xj.toUInt8)
                    refine ⟨⟨j + 1, by omega, by go_num, by rw [show 4 * (j + 1) = 4 * j + 3 + 1 from by omega]; exact a0, (hk0.block _ (lt_block HO.out.2.1) (by omega)).trans HO.out.2.1, HO.out.2.2.trans (hk0.below HO.out.2.2.size (fun k hk e => by omega))⟩, by simp [intOf]; omega⟩
                  · have hj8' : j = 8 := by omega
                    subst hj8'
                    rw [show 4 * 8 = 32 from rfl, outB_all _ (out_len _)] at hout
                    have hi32 : (Tryz.prog.info? 78).map (·.size) = some (((out ⟨Sa, Sb, Sc, Sd, Se, Sf, Sg, Sh⟩).map byteV).toArray.size) := by
                      have : (Tryz.prog.info? 78).map (·.size) = some 32 := by kernel_rfl
                      rw [this]
                      rfl
                    have hall : (((out ⟨Sa, Sb, Sc, Sd, Se, Sf, Sg, Sh⟩).map byteV).toArray).all (·.oneCell') = true := by simp [byteV, Value.oneCell']
                    have hgo : wr.heap[go]? = some (.cells ((out ⟨Sa, Sb, Sc, Sd, Se, Sf, Sg, Sh⟩).map byteV).toArray 78 (0, 0)) := hout
                    generalize hcs : ((out ⟨Sa, Sb, Sc, Sd, Se, Sf, Sg, Sh⟩).map byteV).toArray = cs at *
                    have HCS := Lib.hid hcs
                    have hcz : z32.size = cs.size := by rw [← hcs]; rfl
                    clear hcs hout
                    go_wp2_with (first
                      | (refine wpList_load_row rfl 78 _ rfl go rfl 78 cs (0, 0) _ hgo Tryz.underlying78 rfl hi32 ?_)
                      | (refine wpList_store_row rfl 78 (.tmp 2) (.tmp 89) rfl w.heap.size cs rfl rfl 78 _ hz hi32 hcz hall ?_))
                    have hrb := setRow_heap wr w.heap.size _ cs _ _ hz
                    refine bodyPost_ret (v := .agg cs) (results_cell_row rfl _ _ w.heap.size 78 cs (0, 0) _ rfl hrb Tryz.underlying78 rfl hi32) rfl ⟨?_, ?_⟩
                    · rw [← HCS.out, HSH.out]
                    · exact hbel.trans ⟨rfl, rfl, rfl, by simp, fun k hk => setRow_other wr w.heap.size k cs (by omega)⟩
      · have h56' : (56 : Int) ≤ (r : Int) := by omega
        have h56d : decide ((56 : Int) ≤ (r : Int)) = true := decide_eq_true h56'
        go_wp2_with fail
        have hz4 : ArrB (W3.setCell ⟨wr.heap.size, r, none⟩ (.int .u8 128)) wr.heap.size 168 (lastAt rb 128 (b.length * 8) 0) := by
          rw [← last_zero rb 128 (b.length * 8) r HLR.out (by omega) (by omega)]
          exact H3.out.2.2.2.set r 0x80
        have hk4 : Kept (fun k => k = wr.heap.size) W3 (W3.setCell ⟨wr.heap.size, r, none⟩ (.int .u8 128)) := (Kept.refl (fun k => k = wr.heap.size) W3).setCell (fun _ => rfl) _
        have HK4 := Lib.hid (And.intro hz4 hk4)
        clear hz4 hk4 f3 c3
        generalize W3.setCell ⟨wr.heap.size, r, none⟩ (.int .u8 128) = W4 at *
        generalize wr.heap.size = gl at *
        go_loopw [7, 32] (fun _ i wr => LenR rb 128 (b.length * 8) gl W3 i wr) (fun _ i _ => 8 - (intOf i).toNat)
        case atStart => exact ⟨0, Nat.zero_le _, rfl, HK4.out.1, HK4.out.2⟩
        case round =>
          clear HK4
          obtain ⟨i, hi, rfl, harr, hkp⟩ := hrel
          by_cases hi8 : i < 8
          · have hll := lastAt_len rb 128 (b.length * 8) i (by rw [HLR.out]; omega) (by omega) hi
            have fi := harr.frozen (127 - i)
            have ci := harr.cell (127 - i) (by omega)
            have hset := lastAt_set rb 128 (b.length * 8) i (by rw [HLR.out]; omega) (by omega) hi8
            have HSET := Lib.hid hset
            have HARR := Lib.hid harr
            have m1 : IntKind.i64.wrap (127 - (i : Int)) = 127 - (i : Int) := IntWalk.i64_in _ (by omega)
            have n1 : (127 - (i : Int)).toNat = 127 - i := by omega
            have l1 : (0 : Int) ≤ 127 - (i : Int) ∧ 127 - (i : Int) < 128 := by omega
            have m2 : IntKind.i64.wrap (8 * (i : Int)) = 8 * (i : Int) := IntWalk.i64_in _ (by omega)
            have l2 : (0 : Int) ≤ 8 * (i : Int) ∧ 8 * (i : Int) < 64 := by omega
            have k1 : (i : Int) ≤ 127 := by omega
            clear hset harr
            go_wp2_with fail
            have hby := byte_of (b.length * 8) i
            rw [show ((b.length * 8 : Nat) : Int) = (b.length : Int) * 8 from by omega] at hby
            rw [hby]
            refine ⟨⟨i + 1, by omega, by go_num, ?_, hkp.setCell (p := ⟨gl, 127 - i, none⟩) (fun _ => rfl) _⟩, by simp [intOf]; omega⟩
            rw [← HSET.out, show 128 - 1 - i = 127 - i from by omega]
            exact HARR.out.set (127 - i) _
          · have hi8' : i = 8 := by omega
            subst hi8'
            have hte : tailEnd r = 128 := by unfold tailEnd; rw [if_neg h56]
            have htl : tail b = (lastAt rb 128 (b.length * 8) 8).take 128 := by
              rw [last_all rb 128 _ (by rw [HLR.out]; omega) (by omega), HT.out, HNB.out, hte, HLR.out]
            have HTL := Lib.hid htl
            have HTE := Lib.hid hte
            have hll := lastAt_len rb 128 (b.length * 8) 8 (by rw [HLR.out]; omega) (by omega) (Nat.le_refl _)
            have hbl4 : BlkR ks (tail b) (shaF ks (b.length / 64) b s256) (lastAt rb 128 (b.length * 8) 8) 128 (w.heap.size + 1) gl w.heap.size w (.int .i64 0) wr := by
              refine ⟨0, by omega, rfl, ArrU.keep H3.out.2.1 (hkp.block _ H3.out.2.1.lt (by omega)), harr, (hkp.block _ (lt_block H3.out.1) (by omega)).trans H3.out.1, H3.out.2.2.1.trans (hkp.below H3.out.2.2.1.size (fun k hk e => by omega))⟩
            have HBL := Lib.hid hbl4
            generalize lastAt rb 128 (b.length * 8) 8 = la at *
            clear hbl4 harr hkp htl hte
            go_wp2_with fail
            go_loopw [8] (BlkR ks (tail b) (shaF ks (b.length / 64) b s256) la 128 (w.heap.size + 1) gl w.heap.size w) (fun i _ => 128 - (intOf i).toNat)
            case atStart => exact HBL.out
            case round =>
              clear HBL
              obtain ⟨m, hm, rfl, hst, hla, hz, hbel⟩ := hrel
              have HX := Lib.hid (And.intro hst (And.intro hla (And.intro hz hbel)))
              clear hst hla hz hbel
              by_cases hmE : 64 * m < 128
              · have hmi : ((64 * m : Nat) : Int) < 128 := by omega
                have wm : IntKind.i64.wrap (((64 * m : Nat) : Int) + 64) = ((64 * m + 64 : Nat) : Int) := by rw [IntWalk.i64_in _ (by omega)]; omega
                have hm128 : 64 * m + 64 ≤ 128 := by omega
                have hsl := slice128 gl m hm128 wr
                have hcs := ArrB.cs HX.out.2.1 (64 * m)
                have htk : (la.drop (64 * m)).take 64 = ((tail b).drop (64 * m)).take 64 := by
                  rw [HTL.out, List.drop_take, List.take_take]
                  congr 1
                  omega
                have hmx := Mix (w.heap.size + 1) gl (64 * m) (128 - 64 * m) (shaF ks m (tail b) (shaF ks (b.length / 64) b s256)) ks (((tail b).drop (64 * m)).take 64) wr HX.out.1 (hk.keep (HX.out.2.2.2.block 1 hk1)) hkl (by
                  rw [← htk, List.map_take]
                  exact hcs.take' 64) (by rw [← htk]; simp [hll]; omega)
                rw [← shaF_succ] at hmx
                have HMX := Lib.hid hmx
                clear hcs htk hmx
                go_wp2_with fail
                refine HMX.out.mono ?_
                rintro e wM ⟨rfl, hst2, hk2⟩
                have hla2 := ArrB.keep HX.out.2.1 (hk2.block gl (ArrB.lt HX.out.2.1) (by omega))
                have hz2 := (hk2.block w.heap.size (lt_block HX.out.2.2.1) (by omega)).trans HX.out.2.2.1
                have hbM := HX.out.2.2.2.trans (hk2.below HX.out.2.2.2.size (fun k hk e => by omega))
                have HY := Lib.hid (And.intro hst2 (And.intro hla2 (And.intro hz2 hbM)))
                clear hst2 hla2 hz2 hbM hk2 HX HMX hsl
                go_wp2_with fail
                go_roundw
                case rel =>
                  have hN : BlkR ks (tail b) (shaF ks (b.length / 64) b s256) la 128 (w.heap.size + 1) gl w.heap.size w (.int .i64 (64 * (m : Int) + 64)) wM :=
                    ⟨m + 1, by omega, by congr 1, HY.out.1, HY.out.2.1, HY.out.2.2.1, HY.out.2.2.2⟩
                  first
                    | exact hN
                    | ((repeat apply Exists.intro); exact ⟨hN, rfl⟩)
                case measure => simp [intOf]; omega
              · have hmE' : 64 * m = 128 := by omega
                have hfin : shaF ks m (tail b) (shaF ks (b.length / 64) b s256) = sha8 ks b := by
                  rw [HE.out, HTE.out]
                  congr 1
                  omega
                have hst := HX.out.1
                rw [hfin] at hst
                have hsh : sha ks b = out (sha8 ks b) := rfl
                have HSH := Lib.hid hsh
                clear hfin hsh
                generalize sha8 ks b = S at *
                obtain ⟨Sa, Sb, Sc, Sd, Se, Sf, Sg, Sh⟩ := S
                have hmi : ¬ ((64 * m : Nat) : Int) < 128 := by omega
                have hgW : ∀ o, (wr.alloc o).heap[w.heap.size + 1]? = some (.cells #[.int .u32 (Sa.toNat : Int), .int .u32 (Sb.toNat : Int), .int .u32 (Sc.toNat : Int), .int .u32 (Sd.toNat : Int), .int .u32 (Se.toNat : Int), .int .u32 (Sf.toNat : Int), .int .u32 (Sg.toNat : Int), .int .u32 (Sh.toNat : Int)] 166 (0, 0)) := fun o => (heap_alloc_old wr o hst.lt).trans hst
                have hz9 : ∀ o, (wr.alloc o).heap[w.heap.size]? = some (.cells z32 78 (0, 0)) := fun o => (heap_alloc_old wr o (lt_block HX.out.2.2.1)).trans HX.out.2.2.1
                have hb9 : ∀ o, Below w.heap.size w (wr.alloc o) := fun o => HX.out.2.2.2.alloc HX.out.2.2.2.size o
                have ho9 : ArrB (wr.alloc (.cells z32 78)) wr.heap.size 78 (outB (out ⟨Sa, Sb, Sc, Sd, Se, Sf, Sg, Sh⟩) 0) := heap_alloc_new wr _
                have hlt9 : w.heap.size < wr.heap.size := Nat.lt_trans (Nat.lt_succ_self _) hst.lt
                have H9 := Lib.hid (And.intro hz9 (And.intro hb9 ho9))
                clear hst hz9 hb9 ho9 HX
                go_wp2_with (refine wpList_load_row rfl 166 _ rfl (w.heap.size + 1) rfl 166 #[.int .u32 (Sa.toNat : Int), .int .u32 (Sb.toNat : Int), .int .u32 (Sc.toNat : Int), .int .u32 (Sd.toNat : Int), .int .u32 (Se.toNat : Int), .int .u32 (Sf.toNat : Int), .int .u32 (Sg.toNat : Int), .int .u32 (Sh.toNat : Int)] (0, 0) _ (hgW _) Tryz.underlying166 rfl (by kernel_rfl) ?_)
                generalize hWa : World.alloc _ _ = Wa
                have hoa : ArrB Wa wr.heap.size 78 (outB (out ⟨Sa, Sb, Sc, Sd, Se, Sf, Sg, Sh⟩) 0) := by rw [← hWa]; exact H9.out.2.2
                have hza : Wa.heap[w.heap.size]? = some (.cells z32 78 (0, 0)) := by rw [← hWa]; exact H9.out.1 _
                have hba : Below w.heap.size w Wa := by rw [← hWa]; exact H9.out.2.1 _
                have HA9 := Lib.hid (And.intro hoa (And.intro hza hba))
                clear hWa hoa hza hba H9 hgW
                generalize wr.heap.size = go at *
                go_loopw [10, 11, 58] (fun _ _ i wr => OutR (out ⟨Sa, Sb, Sc, Sd, Se, Sf, Sg, Sh⟩) go w.heap.size w i wr) (fun _ _ i _ => 8 - (intOf i).toNat)
                case atStart => exact ⟨0, Nat.zero_le _, rfl, HA9.out.1, HA9.out.2.1, HA9.out.2.2⟩
                case round =>
                  clear HA9
                  obtain ⟨j, hj, rfl, hout, hz, hbel⟩ := hrel
                  by_cases hj8 : j < 8
                  · have hidx := run_idxS wr ⟨Sa, Sb, Sc, Sd, Se, Sf, Sg, Sh⟩ j hj8
                    simp only at hidx
                    obtain ⟨g0, g1, g2, g3⟩ := out_get ⟨Sa, Sb, Sc, Sd, Se, Sf, Sg, Sh⟩ j hj8
                    have t0 := outB_set (out ⟨Sa, Sb, Sc, Sd, Se, Sf, Sg, Sh⟩) (4 * j) (out_len _) (by omega)
                    have t1 := outB_set (out ⟨Sa, Sb, Sc, Sd, Se, Sf, Sg, Sh⟩) (4 * j + 1) (out_len _) (by omega)
                    have t2 := outB_set (out ⟨Sa, Sb, Sc, Sd, Se, Sf, Sg, Sh⟩) (4 * j + 2) (out_len _) (by omega)
                    have t3 := outB_set (out ⟨Sa, Sb, Sc, Sd, Se, Sf, Sg, Sh⟩) (4 * j + 3) (out_len _) (by omega)
                    rw [g0] at t0
                    rw [g1] at t1
                    rw [g2] at t2
                    rw [g3] at t3
                    generalize at_ (S8.list ⟨Sa, Sb, Sc, Sd, Se, Sf, Sg, Sh⟩) j = xj at *
                    have e0 := byte24 xj
                    have e1 := byte16 xj
                    have e2 := byte8 xj
                    have e3 := byte0 xj
                    have HT4 := Lib.hid (And.intro t0 (And.intro t1 (And.intro t2 t3)))
                    have HE4 := Lib.hid (And.intro e0 (And.intro e1 (And.intro e2 e3)))
                    have hol := outB_len (out ⟨Sa, Sb, Sc, Sd, Se, Sf, Sg, Sh⟩) (4 * j) (out_len _) (by omega)
                    have c0 := hout.cell (4 * j) (by omega)
                    have c1 := hout.cell (4 * j + 1) (by omega)
                    have c2 := hout.cell (4 * j + 2) (by omega)
                    have c3 := hout.cell (4 * j + 3) (by omega)
                    have f0 := hout.frozen (4 * j)
                    have f1 := hout.frozen (4 * j + 1)
                    have f2 := hout.frozen (4 * j + 2)
                    have f3 := hout.frozen (4 * j + 3)
                    have n0 : (4 * (j : Int)).toNat = 4 * j := by omega
                    have n1 : (4 * (j : Int) + 1).toNat = 4 * j + 1 := by omega
                    have n2 : (4 * (j : Int) + 2).toNat = 4 * j + 2 := by omega
                    have n3 : (4 * (j : Int) + 3).toNat = 4 * j + 3 := by omega
                    have l0 : (0 : Int) ≤ 4 * (j : Int) ∧ 4 * (j : Int) < 32 := by omega
                    have l1 : (0 : Int) ≤ 4 * (j : Int) + 1 ∧ 4 * (j : Int) + 1 < 32 := by omega
                    have l2 : (0 : Int) ≤ 4 * (j : Int) + 2 ∧ 4 * (j : Int) + 2 < 32 := by omega
                    have l3 : (0 : Int) ≤ 4 * (j : Int) + 3 ∧ 4 * (j : Int) + 3 < 32 := by omega
                    have HO := Lib.hid (And.intro hout (And.intro hz hbel))
                    clear e0 e1 e2 e3 t0 t1 t2 t3 g0 g1 g2 g3 hout hz hbel hol
                    go_wp2_with fail
                    rw [HE4.out.1, HE4.out.2.1, HE4.out.2.2.1, HE4.out.2.2.2]
                    have a0 := (((HO.out.1.set (4 * j) (xj >>> 24).toUInt8).set (4 * j + 1) (xj >>> 16).toUInt8).set (4 * j + 2) (xj >>> 8).toUInt8).set (4 * j + 3) xj.toUInt8
                    rw [HT4.out.1, HT4.out.2.1, HT4.out.2.2.1, HT4.out.2.2.2] at a0
                    have hk0 := ((((Kept.refl (fun k => k = go) wr).setCell (p := ⟨go, 4 * j, none⟩) (fun _ => rfl) (byteV (xj >>> 24).toUInt8)).setCell (p := ⟨go, 4 * j + 1, none⟩) (fun _ => rfl) (byteV (xj >>> 16).toUInt8)).setCell (p := ⟨go, 4 * j + 2, none⟩) (fun _ => rfl) (byteV (xj >>> 8).toUInt8)).setCell (p := ⟨go, 4 * j + 3, none⟩) (fun _ => rfl) (byteV xj.toUInt8)
                    refine ⟨⟨j + 1, by omega, by go_num, by rw [show 4 * (j + 1) = 4 * j + 3 + 1 from by omega]; exact a0, (hk0.block _ (lt_block HO.out.2.1) (by omega)).trans HO.out.2.1, HO.out.2.2.trans (hk0.below HO.out.2.2.size (fun k hk e => by omega))⟩, by simp [intOf]; omega⟩
                  · have hj8' : j = 8 := by omega
                    subst hj8'
                    rw [show 4 * 8 = 32 from rfl, outB_all _ (out_len _)] at hout
                    have hi32 : (Tryz.prog.info? 78).map (·.size) = some (((out ⟨Sa, Sb, Sc, Sd, Se, Sf, Sg, Sh⟩).map byteV).toArray.size) := by
                      have : (Tryz.prog.info? 78).map (·.size) = some 32 := by kernel_rfl
                      rw [this]
                      rfl
                    have hall : (((out ⟨Sa, Sb, Sc, Sd, Se, Sf, Sg, Sh⟩).map byteV).toArray).all (·.oneCell') = true := by simp [byteV, Value.oneCell']
                    have hgo : wr.heap[go]? = some (.cells ((out ⟨Sa, Sb, Sc, Sd, Se, Sf, Sg, Sh⟩).map byteV).toArray 78 (0, 0)) := hout
                    generalize hcs : ((out ⟨Sa, Sb, Sc, Sd, Se, Sf, Sg, Sh⟩).map byteV).toArray = cs at *
                    have HCS := Lib.hid hcs
                    have hcz : z32.size = cs.size := by rw [← hcs]; rfl
                    clear hcs hout
                    go_wp2_with (first
                      | (refine wpList_load_row rfl 78 _ rfl go rfl 78 cs (0, 0) _ hgo Tryz.underlying78 rfl hi32 ?_)
                      | (refine wpList_store_row rfl 78 (.tmp 2) (.tmp 89) rfl w.heap.size cs rfl rfl 78 _ hz hi32 hcz hall ?_))
                    have hrb := setRow_heap wr w.heap.size _ cs _ _ hz
                    refine bodyPost_ret (v := .agg cs) (results_cell_row rfl _ _ w.heap.size 78 cs (0, 0) _ rfl hrb Tryz.underlying78 rfl hi32) rfl ⟨?_, ?_⟩
                    · rw [← HCS.out, HSH.out]
                    · exact hbel.trans ⟨rfl, rfl, rfl, by simp, fun k hk => setRow_other wr w.heap.size k cs (by omega)⟩
end W
end Go.Proofs.YthogembgndkmpaaGreatDoor
