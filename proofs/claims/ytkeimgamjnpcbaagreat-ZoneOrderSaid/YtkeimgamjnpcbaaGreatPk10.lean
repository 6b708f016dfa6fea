/-
  Texts merged by a program (Rel4, RefW, RefP, Seat3, Seat4, ZDel).
-/
import Derived.Test.YtkeimgamjnpcbaaGreatPk2
import Derived.Test.YtkeimgamjnpcbaaGreatPk3
import Derived.Test.YtkeimgamjnpcbaaGreatPk7
import Derived.Test.YtkeimgamjnpcbaaGreatPk9
set_option linter.unusedSimpArgs false
set_option linter.unusedVariables false
/- A region that draws its order: what is said of an operation may name the values of those that it waits for, and only what may still run can undo it. -/
namespace Go.Proofs.YtkeimgamjnpcbaaGreat
open Go.RowKit
set_option linter.unusedVariables false
/-- operation j waits for i, at once or by others -/
def waitsT (ops : Array Oper) : Nat → Nat → Nat → Bool
  | 0, _, _ => false
  | f + 1, j, i => match ops[j]? with
    | none => false
    | some o => o.after.any fun e => Region.binds .any e && (e.on == i || waitsT ops f e.on i)
theorem waitsT_listed {ops : Array Oper} {listed : Array Bool} (hdown : ∀ j o, ops[j]? = some o → listed.getD j false = true → ∀ e ∈ o.after, Region.binds .any e = true → listed.getD e.on false = true) :
    ∀ (f j i : Nat), listed.getD j false = true → waitsT ops f j i = true → listed.getD i false = true
  | 0, _, _, _, h => by cases h
  | f + 1, j, i, hj, h => by
    unfold waitsT at h
    cases ho : ops[j]? with
    | none => rw [ho] at h; cases h
    | some o =>
      rw [ho] at h
      simp only [] at h
      rw [Array.any_eq_true] at h
      obtain ⟨x, hx, h9⟩ := h
      simp only [Bool.and_eq_true, Bool.or_eq_true, beq_iff_eq] at h9
      have he := hdown j o ho hj _ (Array.getElem_mem hx) h9.1
      rcases h9.2 with h9 | h9
      · rw [← h9]; exact he
      · exact waitsT_listed hdown f _ i he h9
/-- an edge along which a value is handed on, or calls stand in order -/
def bindC (e : Edge) : Bool := Region.binds .any e && (rdB e || match e.ground with | .chain => true | _ => false)
theorem bindC_binds {e : Edge} (h : bindC e = true) : Region.binds .any e = true := by unfold bindC at h; rw [Bool.and_eq_true] at h; exact h.1
/-- who waits for what is undone has run, or undoes it -/
def killsX (bd : Edge → Bool) (ops : Array Oper) (kills : Nat → Nat → Bool) : Bool := (List.range ops.size).all fun i => (List.range ops.size).all fun j => !kills i j || (List.range ops.size).all fun k => match ops[k]? with
  | none => true
  | some o => k == i || waitsT ops ops.size i k || o.after.all fun e => !(bd e) || e.on != j
section
variable {P : Program} {ops : Array Oper}
/-- WHATEVER THE ORDER -/
theorem wp_region_t {id : Nat} {Q : Exit → Act → World → Prop} {a0 : Act} {w0 : World} (bd : Edge → Bool) (hbd : ∀ e, bd e = true → Region.binds .any e = true) (hm : P.follows .mixedOrders = true) (hB : relB2 ops = true)
    (kills : Nat → Nat → Bool) (hkB : killsX bd ops kills = true) (T : Nat → World → World → Prop) (C : World → Prop) (R : Nat → (Nat → Value) → World → Prop) (hRc : ∀ j vals i v W, i ≠ j → waitsT ops ops.size j i = false → R j vals W → R j (fun k => if k = i then v else vals k) W)
    (I0 : World → Prop) (kills0 : Nat → Bool) (hI0 : I0 { w0 with drawn := w0.drawn + 1 }) (hIst : ∀ i W W', kills0 i = false → C W → I0 W → T i W W' → I0 W')
    (hC0 : C { w0 with drawn := w0.drawn + 1 }) (hC : ∀ i W W', C W → T i W W' → C W')
    (hR : ∀ i j v W W', i ≠ j → kills i j = false → waitsT ops ops.size j i = false → C W → R j v W → T i W W' → R j v W')
    (step : ∀ i o, ops[i]? = some o → ∀ vals W, C W → (∀ e ∈ o.after, bd e = true → R e.on vals W) → ((∀ k, k < ops.size → kills0 k = true → k = i ∨ waitsT ops ops.size k i = true) → I0 W) →
      opYield P ops o (relAct ops a0 (fun _ => true) vals i) W (fun v W' => T i W W' ∧ R i (fun k => if k = i then v else vals k) W'))
    (hend : ∀ vals W, C W → (∀ j, j < ops.size → (∀ i, i < ops.size → kills i j = false) → R j vals W) → Q .normal (relAct ops a0 (fun _ => true) vals ops.size) W) :
    (Code.region id ops true).wp P Q a0 w0 := by
  have main : ∀ (fuel : Nat) (listed : Array Bool) (vals : Nat → Value) (W : World), listed.size = ops.size → listed.toList.count false ≤ fuel →
      (∀ j o, ops[j]? = some o → listed.getD j false = true → ∀ e ∈ o.after, Region.binds .any e = true → listed.getD e.on false = true) → C W →
      (∀ j, listed.getD j false = true → (∀ i, listed.getD i false = true → kills i j = false) → R j vals W) → ((∀ k, listed.getD k false = true → kills0 k = false) → I0 W) →
      wpAny P .any ops Q fuel listed (relAct ops a0 (fun j => listed.getD j false) vals ops.size) W := by
    intro fuel
    have fin : ∀ (listed : Array Bool) (vals : Nat → Value) (W : World), listed.size = ops.size → Region.ready .any ops listed = [] → C W →
        (∀ j, listed.getD j false = true → (∀ i, listed.getD i false = true → kills i j = false) → R j vals W) → Q .normal (relAct ops a0 (fun j => listed.getD j false) vals ops.size) W := by
      intro listed vals W hs hr hCW hRW
      have all : ∀ n, ∀ j, j < n → j < ops.size → listed.getD j false = true := by
        intro n
        induction n with
        | zero => intro j h; omega
        | succ n ih =>
          intro j hj hlt
          cases hl : listed.getD j false
          · exfalso
            have hop : ops[j]? = some ops[j] := Array.getElem?_eq_getElem hlt
            obtain ⟨_, hb2, _⟩ := relB2_spec hB hop
            have : j ∈ Region.ready .any ops listed := by
              rw [mem_ready]
              refine ⟨?_, ops[j], hop, fun e he hb => ih e.on (by have := hb2 e he hb; omega) (by have := hb2 e he hb; omega)⟩
              have hjs : j < listed.size := by omega
              simp [hjs] at hl ⊢
              exact hl
            rw [hr] at this
            cases this
          · rfl
      have e := relAct_congr (ops := ops) (a0 := a0) (L := fun j => listed.getD j false) (L' := fun _ => true) (vals := vals) (vals' := vals) ops.size (fun j hj => ⟨all (j + 1) j (by omega) hj, fun _ => rfl⟩)
      rw [e]
      refine hend vals W hCW fun j hj hk => hRW j (all (j + 1) j (by omega) hj) fun i hi => ?_
      refine hk i ?_
      rcases Nat.lt_or_ge i ops.size with g | g
      · exact g
      · have : listed.getD i false = false := by simp [Array.getElem?_eq_none (show listed.size ≤ i by omega)]
        rw [this] at hi; cases hi
    induction fuel with
    | zero =>
      intro listed vals W hs hcount hdown hCW hRW hIW
      have hr : Region.ready .any ops listed = [] := by
        rw [List.eq_nil_iff_forall_not_mem]
        intro j hj
        have h0 := (mem_ready.1 hj).1
        obtain ⟨_, o, ho, _⟩ := mem_ready.1 hj
        have hjs : j < listed.size := by have := (Array.getElem?_eq_some_iff.1 ho).1; omega
        have hmem : false ∈ listed.toList := by
          have : listed[j] = false := by simpa [hjs] using h0
          rw [← this]
          simp
        have := List.count_pos_iff.2 hmem
        omega
      exact ⟨hr, fin listed vals W hs hr hCW hRW⟩
    | succ fuel ih =>
      intro listed vals W hs hcount hdown hCW hRW hIW
      refine ⟨fun hr => fin listed vals W hs hr hCW hRW, fun i hi => ?_⟩
      obtain ⟨h0, o, ho, hall⟩ := mem_ready.1 hi
      have hlt : i < ops.size := (Array.getElem?_eq_some_iff.1 ho).1
      have hli : listed.getD i false = false := by simpa [show i < listed.size by omega] using h0
      have hli? : listed[i]? = some false := by
        rw [Array.getElem?_eq_getElem (show i < listed.size by omega)]
        simpa [show i < listed.size by omega] using hli
      obtain ⟨hsel, hb2, hb3⟩ := relB2_spec hB ho
      have hdi : dstAt ops i = o.dst := by unfold dstAt; rw [ho]; rfl
      have notkilled : ∀ e ∈ o.after, bd e = true → ∀ k, listed.getD k false = true → kills k e.on = false := by
        intro e he hb k hk
        cases hkk : kills k e.on
        · rfl
        · exfalso
          have hkl : k < ops.size := by
            rcases Nat.lt_or_ge k ops.size with g | g
            · exact g
            · have : listed.getD k false = false := by simp [Array.getElem?_eq_none (show listed.size ≤ k by omega)]
              rw [this] at hk; cases hk
          have h1 := List.all_eq_true.1 hkB k (List.mem_range.2 hkl)
          have heo : e.on < ops.size := by have := hb2 e he (hbd e hb); omega
          have h2 := List.all_eq_true.1 h1 e.on (List.mem_range.2 heo)
          rw [hkk] at h2
          simp only [Bool.not_true, Bool.false_or] at h2
          have h3 := List.all_eq_true.1 h2 i (List.mem_range.2 hlt)
          rw [ho] at h3
          simp only [Bool.or_eq_true, beq_iff_eq] at h3
          rcases h3 with (h3 | h3) | h3
          · subst h3; rw [hli] at hk; cases hk
          · rw [waitsT_listed hdown _ k i hk h3] at hli; cases hli
          · have h4 := (Array.all_eq_true_iff_forall_mem.1 h3) e he
            rw [hb] at h4
            simp at h4
      have hst := step i o ho vals W hCW (fun e he hb => hRW e.on (hall e he (hbd e hb)) (notkilled e he hb)) (fun hw => hIW fun k hk => by
        cases hkk : kills0 k
        · rfl
        · exfalso
          have hkl : k < ops.size := by
            rcases Nat.lt_or_ge k ops.size with g | g
            · exact g
            · have : listed.getD k false = false := by simp [Array.getElem?_eq_none (show listed.size ≤ k by omega)]
              rw [this] at hk; cases hk
          rcases hw k hkl hkk with rfl | hwt
          · rw [hli] at hk; cases hk
          · rw [waitsT_listed hdown _ k i hk hwt] at hli; cases hli)
      have hst2 : opYield P ops o (relAct ops a0 (fun j => listed.getD j false) vals ops.size) W (fun v W' => T i W W' ∧ R i (fun k => if k = i then v else vals k) W') := by
        refine opYield_congr hsel ?_ hst
        intro t ht
        by_cases hex : ∃ k, dstAt ops k = some t
        · obtain ⟨k, hk⟩ := hex
          rcases (hb3 k t hk).2 ht with ⟨hki, e, he, heq, hbe⟩ | hkw
          rotate_left
          · obtain ⟨ok, hok, e, he, heq, hbe⟩ := waitsB_elim hkw
            have hik : i < k := by have := (relB2_spec hB hok).2.1 e he hbe; omega
            have hlk : listed.getD k false = false := by
              cases hlk : listed.getD k false
              · rfl
              · have := hdown k ok hok hlk e he hbe
                rw [heq, hli] at this
                cases this
            have hu : ∀ j, dstAt ops j = some t → j = k := by
              intro j hj
              have hjl : j < ops.size := by
                rcases Nat.lt_or_ge j ops.size with g | g
                · exact g
                · unfold dstAt at hj; rw [Array.getElem?_eq_none g] at hj; cases hj
              rcases Nat.lt_trichotomy j k with g | g | g
              · exfalso
                have := ((relB2_spec hB hok).2.2 j t hj).1 (by omega)
                apply this
                unfold dstAt at hk; rw [hok] at hk; exact hk
              · exact g
              · exfalso
                have hjop : ops[j]? = some ops[j] := Array.getElem?_eq_getElem hjl
                have := ((relB2_spec hB hjop).2.2 k t hk).1 (by omega)
                apply this
                unfold dstAt at hj; rw [hjop] at hj; exact hj
            rw [relAct_free i (fun j hj _ h => by have := hu j h; omega), relAct_free ops.size (fun j _ hl h => by
              have := hu j h
              rw [this, hlk] at hl
              cases hl)]
          have hkl : listed.getD k false = true := by rw [← heq]; exact hall e he hbe
          have hu : ∀ j, dstAt ops j = some t → j = k := by
            intro j hj
            rcases Nat.lt_trichotomy j k with g | g | g
            · exfalso
              have hkop : ops[k]? = some ops[k] := Array.getElem?_eq_getElem (by omega)
              have := ((relB2_spec hB hkop).2.2 j t hj).1 (by omega)
              apply this
              unfold dstAt at hk; rw [hkop] at hk; exact hk
            · exact g
            · exfalso
              have hjl : j < ops.size := by
                rcases Nat.lt_or_ge j ops.size with g | g
                · exact g
                · unfold dstAt at hj; rw [Array.getElem?_eq_none g] at hj; cases hj
              have hjop : ops[j]? = some ops[j] := Array.getElem?_eq_getElem hjl
              have := ((relB2_spec hB hjop).2.2 k t hk).1 (by omega)
              apply this
              unfold dstAt at hj; rw [hjop] at hj; exact hj
          rw [relAct_at hk hu i hki rfl, relAct_at hk hu ops.size (by omega) hkl]
        · have hno : ∀ j, dstAt ops j ≠ some t := fun j hj => hex ⟨j, hj⟩
          rw [relAct_free i (fun j _ _ => hno j), relAct_free ops.size (fun j _ _ => hno j)]
      refine wpOp_of_yield ho hst2 fun v W' ⟨hT, hRi⟩ => ?_
      rw [← hdi, put_relAct hli (fun j d hne hj => by
        intro hid
        rw [hdi] at hid
        exact (hb3 j d hj).1 hne hid) ops.size hlt]
      have hget : ∀ j, (listed.setIfInBounds i true).getD j false = if j = i then true else listed.getD j false := by
        intro j
        by_cases e : j = i
        · subst e
          rw [if_pos rfl]
          simp [show j < listed.size by omega]
        · rw [if_neg e]
          have hne : i ≠ j := fun h => e h.symm
          simp only [Array.getD_eq_getD_getElem?, Array.getElem?_setIfInBounds_ne hne]
      have hcg := relAct_congr (ops := ops) (a0 := a0) (L := fun j => if j = i then true else listed.getD j false) (L' := fun j => (listed.setIfInBounds i true).getD j false) (vals := fun j => if j = i then v else vals j) (vals' := fun j => if j = i then v else vals j) ops.size (fun j _ => ⟨(hget j).symm, fun _ => rfl⟩)
      rw [hcg]
      refine ih _ _ W' (by simpa using hs) ?_ ?_ (hC i W W' hCW hT) ?_ ?_
      · have := count_set listed i hli?
        omega
      · intro j oj hj hlj e he hb
        rw [hget]
        by_cases ee : e.on = i
        · rw [if_pos ee]
        · rw [if_neg ee]
          rw [hget] at hlj
          by_cases ej : j = i
          · subst ej
            rw [ho] at hj
            cases hj
            exact hall e he hb
          · rw [if_neg ej] at hlj
            exact hdown j oj hj hlj e he hb
      · intro j hlj hnk
        by_cases ej : j = i
        · subst ej
          exact hRi
        · rw [hget, if_neg ej] at hlj
          have hki := hnk i (by rw [hget, if_pos rfl])
          have hwf : waitsT ops ops.size j i = false := by
            cases hwt : waitsT ops ops.size j i
            · rfl
            · rw [waitsT_listed hdown _ j i hlj hwt] at hli; cases hli
          refine hRc j vals i v W' (fun h => ej h.symm) hwf (hR i j _ W W' (fun h => ej h.symm) hki hwf hCW ?_ hT)
          refine hRW j hlj fun k hk => hnk k ?_
          rw [hget]
          split
          · rfl
          · exact hk
      · intro hnk
        have hki0 := hnk i (by rw [hget, if_pos rfl])
        refine hIst i W W' hki0 hCW (hIW fun k hk => hnk k ?_) hT
        rw [hget]
        split
        · rfl
        · exact hk
  refine wp_region_any hm ?_
  have h := main ops.size (Array.replicate ops.size false) (fun _ => undef) { w0 with drawn := w0.drawn + 1 } (by simp) (by simp) (fun j o _ hl => by rw [none_listed] at hl; cases hl) hC0 (fun j hl => by rw [none_listed] at hl; cases hl) (fun _ => hI0)
  have e : relAct ops a0 (fun j => (Array.replicate ops.size false).getD j false) (fun _ => undef) ops.size = a0 := by
    have : ∀ n, relAct ops a0 (fun j => (Array.replicate ops.size false).getD j false) (fun _ => undef) n = a0 := by
      intro n
      induction n with
      | zero => rfl
      | succ n ih =>
        unfold relAct
        rw [ih, if_neg (by rw [none_listed]; exact Bool.false_ne_true)]
    exact this _
  rw [e] at h
  exact h


theorem opYield_mono {o : Oper} {a : Act} {W : World} {R R' : Value → World → Prop} (h : ∀ v W', R v W' → R' v W') (k : opYield P ops o a W R) : opYield P ops o a W R' := by
  rw [opYield_def] at k ⊢
  split
  · rename_i hw
    rw [if_pos hw] at k
    generalize (execOp a.eval o).run P W = r at *
    cases r with
    | ok n w' =>
      cases n <;> simp only [yieldUpon] at k ⊢
      case value u => exact h _ _ k
      case skip => exact h _ _ k
      case enter f args => exact k.mono fun e w'' ⟨v, he, hr⟩ => ⟨v, he, h _ _ hr⟩
    | halt x w' => simp only [yieldUpon] at k
  · rename_i hw
    rw [if_neg hw] at k
    exact h _ _ k
/-- a fact that may name the values of operations that it waits for -/
structure DF where
  ws : List Nat
  f : (Nat → Value) → Fact
def DF.at (d : DF) (vals : Nat → Value) : Fact := d.f (fun k => if k ∈ d.ws then vals k else undef)
/-- of no other's value -/
def DF.c (f : Fact) : DF := ⟨[], fun _ => f⟩
/-- of the values of those -/
def DF.d (ws : List Nat) (f : (Nat → Value) → Fact) : DF := ⟨ws, f⟩
@[simp] theorem DF.c_at (f : Fact) (vals : Nat → Value) : (DF.c f).at vals = f := rfl
theorem DF.d_at (ws : List Nat) (f : (Nat → Value) → Fact) (vals : Nat → Value) : (DF.d ws f).at vals = f (fun k => if k ∈ ws then vals k else undef) := rfl
def dfAt (fs : List DF) (j : Nat) : DF := fs.getD j (DF.c Fact.any)
def wsB (ops : Array Oper) (fs : List DF) : Bool := (List.range fs.length).all fun j => (dfAt fs j).ws.all fun k => waitsT ops ops.size j k
theorem df_at_congr {d : DF} {vals vals' : Nat → Value} (h : ∀ k ∈ d.ws, vals k = vals' k) : d.at vals = d.at vals' := by
  unfold DF.at
  congr 1
  funext k
  split
  · exact h k ‹_›
  · rfl
def kindX (B N : Nat) : Nat → World → World → Prop
  | 0, W, W' => Ext W W'
  | 1, W, W' => Kept (fun b => B ≤ b ∧ b < N) W W'
  | 2, W, W' => Below N W W'
  | _, W, W' => Below B W W'
def hurtsB : Nat → Nat → Bool
  | 0, _ => false
  | 1, f => decide (2 ≤ f)
  | 2, f => f == 1 || decide (3 ≤ f)
  | _, f => decide (1 ≤ f)
def killF (ops : Array Oper) (kd fk : Nat → Nat) (i j : Nat) : Bool := hurtsB (kd i) (fk j) && i != j && !waitsT ops ops.size j i
def keepX (ops : Array Oper) (kd fk : Nat → Nat) (j : Nat) : Bool := (List.range ops.size).all fun i => !killF ops kd fk i j
/-- WHATEVER THE ORDER: operations of four kinds (0: new memory; 1: they write what was there from B on; 2: what is new; 3: whatever lies from B on), facts of four kinds (0: of no world; 1: they bear kind 1; 2: they bear kind 2; 3: new memory alone); I0: what holds when the region begins, till an operation of kinds 1, 3 -/
theorem wp_region_x {id : Nat} {Q : Exit → Act → World → Prop} {a0 : Act} {w0 : World} (hm : P.follows .mixedOrders = true) (hB : relB2 ops = true) (B : Nat) (hBs : B ≤ w0.heap.size) (fs : List DF) (hw : wsB ops fs = true)
    (kd fk : Nat → Nat) (hk : killsX bindD ops (killF ops kd fk) = true) (hf : ∀ j vals, kindF w0.heap.size (fk j) ((dfAt fs j).at vals))
    (I0 : World → Prop) (hI0 : I0 w0.drew) (hI1 : ∀ W W', Ext W W' → I0 W → I0 W') (hI2 : ∀ W W', Below w0.heap.size W W' → I0 W → I0 W')
    (step : ∀ i o, ops[i]? = some o → ∀ vals W, Below B w0 W → (∀ e ∈ o.after, bindD e = true → ((dfAt fs e.on).at vals).p (vals e.on) W) → ((∀ k, k < ops.size → (kd k == 1 || decide (3 ≤ kd k)) = true → k = i ∨ waitsT ops ops.size k i = true) → I0 W) →
      opYield P ops o (relAct ops a0 (fun _ => true) vals i) W (fun v W' => kindX B w0.heap.size (kd i) W W' ∧ ((dfAt fs i).at vals).p v W'))
    (hend : ∀ vals W, Below B w0 W → (∀ j, j < ops.size → keepX ops kd fk j = true → ((dfAt fs j).at vals).p (vals j) W) → Q .normal (relAct ops a0 (fun _ => true) vals ops.size) W) :
    (Code.region id ops true).wp P Q a0 w0 := by
  have hws : ∀ j k, k ∈ (dfAt fs j).ws → waitsT ops ops.size j k = true := by
    intro j k hk
    rcases Nat.lt_or_ge j fs.length with g | g
    · have := List.all_eq_true.1 hw j (List.mem_range.2 g)
      exact List.all_eq_true.1 this k hk
    · have e : dfAt fs j = DF.c Fact.any := by unfold dfAt; rw [List.getD_eq_getElem?_getD, List.getElem?_eq_none g]; rfl
      rw [e] at hk
      cases hk
  have hself : ∀ f j, waitsT ops f j j = false := by
    have hlt : ∀ f j i, waitsT ops f j i = true → i < j := by
      intro f
      induction f with
      | zero => intro j i h; cases h
      | succ f ih =>
        intro j i h
        unfold waitsT at h
        cases ho : ops[j]? with
        | none => rw [ho] at h; cases h
        | some o =>
          rw [ho] at h
          simp only [] at h
          rw [Array.any_eq_true] at h
          obtain ⟨x, hx, h9⟩ := h
          simp only [Bool.and_eq_true, Bool.or_eq_true, beq_iff_eq] at h9
          have h1 := (relB2_spec hB ho).2.1 _ (Array.getElem_mem hx) h9.1
          rcases h9.2 with h9 | h9
          · omega
          · have := ih _ _ h9; omega
    intro f j
    cases h : waitsT ops f j j
    · rfl
    · exact absurd (hlt f j j h) (Nat.lt_irrefl _)
  have hcongr : ∀ j vals i v, waitsT ops ops.size j i = false → (dfAt fs j).at (fun k => if k = i then v else vals k) = (dfAt fs j).at vals := by
    intro j vals i v h
    refine df_at_congr fun k hk => ?_
    have : k ≠ i := fun e => by
      subst e
      rw [hws j k hk] at h
      cases h
    rw [if_neg this]
  refine wp_region_t bindD (fun _ h => bindD_binds h) hm hB (killF ops kd fk) hk (fun i W W' => kindX B w0.heap.size (kd i) W W') (fun W => Below B w0 W) (fun j vals W => ((dfAt fs j).at vals).p (vals j) W) ?_ I0 (fun i => kd i == 1 || decide (3 ≤ kd i)) hI0 ?_ ?_ ?_ ?_ ?_ ?_
  · intro j vals i v W hij hwt h
    rw [hcongr j vals i v hwt]
    show ((dfAt fs j).at vals).p (if j = i then v else vals j) W
    rw [if_neg (Ne.symm hij)]
    exact h
  · intro i W W' hk0 hC h1 h2
    generalize kd i = c at *
    match c, h2 with
    | 0, h2 => exact hI1 _ _ h2 h1
    | 1, _ => cases hk0
    | 2, h2 => exact hI2 _ _ h2 h1
    | c + 3, _ => simp at hk0
  · exact ⟨rfl, rfl, rfl, Nat.le_refl _, fun _ _ => rfl⟩
  · intro i W W' h1 h2
    refine h1.trans ?_
    have hs := h1.size
    generalize kd i = c at *
    match c, h2 with
    | 0, h2 => exact Below.mono h2 (by omega)
    | 1, h2 => exact Kept.below h2 (by omega) (fun k hk h => by omega)
    | 2, h2 => exact Below.mono h2 hBs
    | c + 3, h2 => exact h2
  · intro i j vals W W' hij hki hwt hC h1 h2
    have hs := hC.size
    have hfj := hf j vals
    unfold killF at hki
    rw [hwt] at hki
    have hne : (i != j) = true := by simpa using hij
    rw [hne] at hki
    simp only [Bool.not_false, Bool.and_true] at hki
    generalize kd i = c at *
    generalize fk j = d at *
    generalize (dfAt fs j).at vals = f at *
    match c, h2 with
    | 0, h2 => exact f.st _ _ _ h2 h1
    | 1, h2 =>
      match d, hfj with
      | 0, hfj => exact hfj _ _ _ h1
      | 1, hfj => exact hfj _ _ _ (Kept.mono h2 (fun k _ h => h.2)) h1
      | d + 2, _ => simp [hurtsB] at hki
    | 2, h2 =>
      match d, hfj with
      | 0, hfj => exact hfj _ _ _ h1
      | 1, _ => simp [hurtsB] at hki
      | 2, hfj => exact hfj _ _ _ h2 h1
      | d + 3, _ => simp [hurtsB] at hki
    | c + 3, h2 =>
      match d, hfj with
      | 0, hfj => exact hfj _ _ _ h1
      | d + 1, _ => simp [hurtsB] at hki
  · intro i o ho vals W hE h hI
    refine opYield_mono ?_ (step i o ho vals W hE h hI)
    rintro v W' ⟨h1, h2⟩
    refine ⟨h1, ?_⟩
    rw [hcongr i vals i v (hself _ _)]
    show ((dfAt fs i).at vals).p (if i = i then v else vals i) W'
    rw [if_pos rfl]
    exact h2
  · intro vals W hE h
    refine hend vals W hE fun j hj hkj => h j hj fun i hi => ?_
    have := List.all_eq_true.1 hkj i (List.mem_range.2 hi)
    simpa only [Bool.not_eq_true'] using this
end
end Go.Proofs.YtkeimgamjnpcbaaGreat

/- Contracts of the reference of names and data: Wire, Put. -/
namespace Go.Proofs.YtkeimgamjnpcbaaGreat
open Go.RowKit
set_option linter.unusedVariables false
set_option linter.unusedSimpArgs false
namespace Nm
/-- append of a text to a row of the call's own, in a region that draws -/
theorem yield_text {ops : Array Oper} {o : Oper} {a : Act} {W : World} {R : Value → World → Prop} (hgd : o.guard = none) (sl x : Operand)
    (ho : o.op = .call { callee := .builtin .append, args := #[sl, x], argTypes := #[31, 9] }) {B : Nat} {v : Value} {n : Nat} {xs s : Lab} (hs : a.eval sl = v) (hown : W.ownsRow B 5 1 v n (xs.map byteV)) (hB : B ≤ W.heap.size)
    (hx : a.eval x = .string (strB s)) (hn : n + s.length ≤ 1000000000)
    (h : ∀ v' W', W'.ownsRow B 5 1 v' (n + s.length) ((xs ++ s).map byteV) → Below B W W' → R v' W') : opYield Tryz.prog ops o a W R := by
  obtain ⟨i0, hi, hz0, hz1, hz2⟩ := info_parts info_u8
  have hw : Region.wanted o (yielded ops a.tmps) = true := by simp [Region.wanted, hgd]
  rw [opYield_def, if_pos hw]
  obtain ⟨v', w', hr, h2, h3, _⟩ := Lib.run_append_own_string (P := Tryz.prog) W B 31 9 o.type 5 i0 Tryz.underlying31 Tryz.underlying9 hi hz0 hz1 hz2 v n _ hown (strB s) (by rw [strB_size]; unfold maxLen; omega) (by rw [strB_size]; omega) hB
  unfold execOp
  simp only [ho, resolve, invoke, builtin, Sem.run_bind, Sem.run_pure, Result.andThen_ok, List.map_toArray, List.map_cons, List.map_nil, hs, hx, hr]
  rw [strB_size] at h2
  have e : xs.map byteV ++ Lib.strCells (strB s) = (xs ++ s).map byteV := by
    rw [List.map_append]
    unfold Lib.strCells
    simp [strB, byteV]
  rw [e] at h2
  exact h v' w' h2 ((Below.refl _ _).grown h3 hB (fun k hk => (hown.lt k hk).1))
theorem wrap8' (a : Int) : IntKind.u8.wrap a = a % 256 := by simp [IntKind.wrap, IntKind.signed, IntKind.bits]
theorem ownC (w : World) (B : Nat) (e : TypeId) (xs : List Value) (hB : B ≤ w.heap.size) (hl : xs.length ≤ 1000) : (w.alloc (.cells xs.toArray e)).ownsRow B e 1 (.slice (some ⟨w.heap.size, 0, none⟩) xs.length xs.length) xs.length xs :=
  ⟨by simp, .inr ⟨w.heap.size, xs.length, xs.toArray, rfl, hB, heap_alloc_new w _, Nat.le_refl _, by unfold maxLen; omega, by simp, by simp⟩⟩
set_option maxRecDepth 100000 in
set_option maxHeartbeats 20000000 in
theorem RWire (A : Option Addr) (n : List Lab) (cap : Nat) (w : World) (hc : Cs w A (n.map strV)) (hf : Small n) :
    Calls Tryz.prog 115 #[.slice A n.length cap] w fun e w' => ∃ v, e = .returned v ∧ w'.ownsRow w.heap.size 5 1 v (wire n).length ((wire n).map byteV) ∧ Below w.heap.size w w' := by
  obtain ⟨i0, hi, hz0, hz1, hz2⟩ := info_parts info_u8
  have HF := Lib.hid hf
  have hnl := hf.1
  clear hf
  go_enter Tryz.func115, Tryz.ntmps115
  go_wp2_with fail
  go_loopw [3, 4] (WireR n w) (fun _ i _ => n.length - (intOf i).toNat)
  case atStart => exact ⟨0, Nat.zero_le _, rfl, World.ownsRow_nil _ _ _ _, Below.refl _ _⟩
  case round =>
    obtain ⟨k, hk, rfl, hown, hbel⟩ := hrel
    have hw6 : (wires (n.take k)).length ≤ 1001000 := wires_few (HF.out.take k)
    by_cases hlt : k < n.length
    · obtain ⟨bk, off, rfl, hbl, hc0⟩ := Cs.str hc hlt
      have hc1 := (hbel.cell (p := ⟨bk, off + k, none⟩) hbl).trans hc0
      have hl6 : n[k].length ≤ 1000 := HF.out.2 n[k] (List.getElem_mem hlt)
      have HN : Hid (wires (n.take (k + 1)) = wires (n.take k) ++ ([UInt8.ofNat n[k].length] ++ n[k])) := Lib.hid (wires_take hlt)
      have hsz := strB_size n[k]
      have hbv := byte_len n[k]
      generalize n[k] = l at *
      generalize hwk : wires (n.take k) = xs at *
      have HB := Lib.hid hbv
      clear hwk hbv
      go_wp2_with fail
      have hB0 := hbel.size
      refine wp_region_x (by kernel_rfl) (by kernel_rfl) w.heap.size hB0 [.c (.is u3), .c (.is (.slice (some ⟨bk, off, none⟩) n.length cap)), .c (.is (.int .i64 k)), .c (.is (.pointer (some ⟨bk, off + k, none⟩))), .c (.is (.string (strB l))), .c (.is (.int .i64 l.length)), .c (.is (.int .u8 ((l.length : Int) % 256))),
        .c (.own w.heap.size 5 1 1 [.int .u8 ((l.length : Int) % 256)]), .c (.own w.heap.size 5 1 (xs.length + 1) ((xs ++ [UInt8.ofNat l.length]).map byteV)), .c (.is (.slice (some ⟨bk, off, none⟩) n.length cap)), .c (.is (.int .i64 k)), .c (.is (.pointer (some ⟨bk, off + k, none⟩))), .c (.is (.string (strB l))),
        .c (.own w.heap.size 5 1 (xs.length + 1 + l.length) ((xs ++ [UInt8.ofNat l.length] ++ l).map byteV)), .d [13] (fun vs => .is (vs 13))] (by kernel_rfl) (fun i => if i = 8 ∨ i = 13 then 3 else 0) (fun j => if j = 7 ∨ j = 8 ∨ j = 13 then 3 else 0) (by kernel_rfl) ?_
        (fun W => W.ownsRow w.heap.size 5 1 u3 xs.length (xs.map byteV)) hown (fun W W' hE h => own_below h hE) (fun W W' hE h => Kept.row h (Kept.of_below hE) (fun b hb e => by have := (hown.lt b hb).2; omega)) ?_ ?_
      · intro j vals
        rcases j with _ | _ | _ | _ | _ | _ | _ | _ | _ | _ | _ | _ | _ | _ | _ | j
        all_goals first
          | exact plain_is _
          | exact trivial
          | (rw [if_neg (by omega)]; exact plain_any)
      · intro i o hio vals W hC haf hI0
        have hc2 := (hC.cell (p := ⟨bk, off + k, none⟩) hbl).trans hc1
        have hBW := Nat.le_trans hB0 hC.size
        rcases i with _ | _ | _ | _ | _ | _ | _ | _ | _ | _ | _ | _ | _ | _ | _ | i
        all_goals first
          | (exfalso; simp at hio; done)
          | skip
        all_goals
          simp at hio
          subst hio
          simp [bindD, rdB, Region.binds, dfAt, DF.d_at] at haf
        all_goals first
          | (simp [opYield_def, yieldUpon, relAct, dstAt, Act.put, Region.wanted, go_sem, haf, hc2, hsz, hlt, hnl, Ext.refl, dfAt, DF.d_at, kindX]; done)
          | skip
        · simp [opYield_def, yieldUpon, relAct, dstAt, Act.put, Region.wanted, go_sem, haf, Ext.refl, dfAt, DF.d_at, kindX, wrap8']
        · simp [opYield_def, yieldUpon, relAct, dstAt, Act.put, Region.wanted, go_sem, haf, dfAt, DF.d_at, kindX]
          exact ⟨(Below.refl _ _).alloc (Nat.le_refl _) _, ownC W w.heap.size 5 [.int .u8 ((l.length : Int) % 256)] hBW (by simp)⟩
        · obtain ⟨h0, h7⟩ := haf
          have hI := hI0 (fun k hk hk2 => by
            by_cases h8 : k = 8
            · exact .inl h8
            · by_cases h13 : k = 13
              · subst h13; exact .inr (by kernel_rfl)
              · exfalso; simp [h8, h13] at hk2)
          obtain ⟨A7, c7, e7, _, hc7⟩ := Cs.of_own h7
          refine yield_bytes rfl (.tmp 11) (.tmp 18) Tryz.underlying31 rfl (v := u3) (by simp [relAct, dstAt, Act.put, Act.eval, h0]) hI hBW (us := [.int .u8 ((l.length : Int) % 256)]) (A := A7) (c := c7) (by simp [relAct, dstAt, Act.put, Act.eval, e7]) hc7 (by simp [Value.oneCell']) (by simp; omega) ?_
          intro v' W' g1 g2
          refine ⟨g2, ?_⟩
          show W'.ownsRow w.heap.size 5 1 v' (xs.length + 1) ((xs ++ [UInt8.ofNat l.length]).map byteV)
          rw [List.map_append, List.map_cons, HB.out]
          exact g1
        · obtain ⟨h8, h12⟩ := haf
          refine yield_text rfl (.tmp 19) (.tmp 23) rfl (v := vals 8) (n := xs.length + 1) (xs := xs ++ [UInt8.ofNat l.length]) (s := l) (by simp [relAct, dstAt, Act.put, Act.eval]) (by simpa [List.map_append] using h8) hBW (by simp [relAct, dstAt, Act.put, Act.eval, h12]) (by omega) ?_
          intro v' W' g1 g2
          exact ⟨g2, g1⟩
      · intro vals W hE hF
        have h13 := hF 13 (by show 13 < 15; omega) (by kernel_rfl)
        have h14 := hF 14 (by show 14 < 15; omega) (by kernel_rfl)
        simp [dfAt, DF.d_at] at h13 h14
        have hbw := hbel.trans hE
        simp [relAct, dstAt, Act.put]
        rw [h14]
        clear hF h14
        generalize vals 13 = v13 at *
        go_wp2_with fail
        refine ⟨⟨k + 1, by omega, by go_num, ?_, hbw⟩, by simp [intOf]; omega⟩
        rw [HN.out, ← List.append_assoc, List.length_append, List.length_append]
        simpa [List.map_append] using h13
    · have hkl : k = n.length := by omega
      rw [hkl, List.take_length] at hown hw6
      clear hkl
      have HW : Hid ((wire n).map byteV = (wires n).map byteV ++ [.int .u8 0] ∧ (wire n).length = (wires n).length + 1) := Lib.hid (by unfold wire; rw [List.map_append, List.length_append]; exact ⟨rfl, rfl⟩)
      go_wp2_with (first
        | (at_builtin; refine wpList_push2 hown hbel.size [.int .u8 0] rfl (by simp [Value.oneCell']) hi hz0 hz1 hz2 rfl (by decide) rfl _ _ 31 Tryz.underlying31 rfl rfl rfl (by unfold maxLen; omega) (by omega) ?_; intro v4 w4 hown4 hbw4; have hbw5 := hbel.trans hbw4))
      go_ret
      exact ⟨_, rfl, by rw [HW.out.1, HW.out.2]; exact hown4, hbw5⟩
end Nm
end Go.Proofs.YtkeimgamjnpcbaaGreat

/- Contracts of the reference of data: Put, SoaBytes. -/
namespace Go.Proofs.YtkeimgamjnpcbaaGreat
open Go.RowKit
set_option linter.unusedVariables false
set_option linter.unusedSimpArgs false
namespace Nm
set_option maxRecDepth 100000 in
set_option maxHeartbeats 4000000 in
theorem RPut2 (B : Nat) (v : Value) (m : Nat) (xs : Lab) (n : Nat) (w : World) (hown : w.ownsRow B 5 1 v m (xs.map byteV)) (hB : B ≤ w.heap.size) (hm : m ≤ 100000000) (hn : n < 4294967296) :
    Calls Tryz.prog 152 #[v, .int .u32 n, .int .i64 2] w fun e w' => ∃ v', e = .returned v' ∧ w'.ownsRow B 5 1 v' (m + 2) ((xs ++ be2 n).map byteV) ∧ Moved v w v' w' := by
  obtain ⟨i0, hi, hz0, hz1, hz2⟩ := info_parts info_u8
  have tok1 : True := trivial
  have tok2 : True := trivial
  go_enter Tryz.func152, Tryz.ntmps152
  go_wp2_with fail
  refine wp_loop_rounds 3 ?_
  rw [rounds_succ]
  go_wp2_with (first | (at_builtin; have _t := tok1; refine wpList_push3 hown hB [.int .u8 ((n : Int) / 256 % 256)] rfl (by simp [Value.oneCell']) hi hz0 hz1 hz2 rfl (by decide) rfl (.tmp 14) _ 31 Tryz.underlying31 rfl rfl rfl (by unfold maxLen; omega) (by omega) ?_; intro v1 w1 hown1 hbw1; clear tok1; have hbs1 := hbw1.kept.size))
  rw [rounds_succ]
  have hB1 := Nat.le_trans hB hbs1
  go_wp2_with (first | (at_builtin; have _t := tok2; refine wpList_push3 hown1 hB1 [.int .u8 ((n : Int) % 256)] rfl (by simp [Value.oneCell']) hi hz0 hz1 hz2 rfl (by decide) rfl (.tmp 14) _ 31 Tryz.underlying31 rfl rfl rfl (by unfold maxLen; omega) (by omega) ?_; intro v2 w2 hown2 hbw2; clear tok2; have hbs2 := Nat.le_trans hbs1 hbw2.kept.size))
  rw [rounds_succ]
  go_wp2_with fail
  go_ret
  refine ⟨_, rfl, ?_, hbw1.trans hbw2⟩
  have e1 := byteV_mod (n / 256)
  have e2 := byteV_mod n
  rw [show ((n / 256 : Nat) : Int) = (n : Int) / 256 from by omega] at e1
  rw [List.map_append]
  show w2.ownsRow B 5 1 v2 (m + 1 + 1) (xs.map byteV ++ [byteV (UInt8.ofNat (n / 256)), byteV (UInt8.ofNat n)])
  rw [e1, e2, show [Value.int .u8 ((n : Int) / 256 % 256), Value.int .u8 ((n : Int) % 256)] = [Value.int .u8 ((n : Int) / 256 % 256)] ++ [Value.int .u8 ((n : Int) % 256)] from rfl, ← List.append_assoc]
  exact hown2
set_option maxRecDepth 100000 in
set_option maxHeartbeats 4000000 in
theorem RPut4 (B : Nat) (v : Value) (m : Nat) (xs : Lab) (n : Nat) (w : World) (hown : w.ownsRow B 5 1 v m (xs.map byteV)) (hB : B ≤ w.heap.size) (hm : m ≤ 100000000) (hn : n < 4294967296) :
    Calls Tryz.prog 152 #[v, .int .u32 n, .int .i64 4] w fun e w' => ∃ v', e = .returned v' ∧ w'.ownsRow B 5 1 v' (m + 4) ((xs ++ be4 n).map byteV) ∧ Moved v w v' w' := by
  obtain ⟨i0, hi, hz0, hz1, hz2⟩ := info_parts info_u8
  have tok1 : True := trivial
  have tok2 : True := trivial
  have tok3 : True := trivial
  have tok4 : True := trivial
  go_enter Tryz.func152, Tryz.ntmps152
  go_wp2_with fail
  refine wp_loop_rounds 5 ?_
  rw [rounds_succ]
  go_wp2_with (first | (at_builtin; have _t := tok1; refine wpList_push3 hown hB [.int .u8 ((n : Int) / 16777216)] rfl (by simp [Value.oneCell']) hi hz0 hz1 hz2 rfl (by decide) rfl (.tmp 14) _ 31 Tryz.underlying31 rfl rfl rfl (by unfold maxLen; omega) (by omega) ?_; intro v1 w1 hown1 hbw1; clear tok1; have hbs1 := hbw1.kept.size))
  have hB1 := Nat.le_trans hB hbs1
  rw [rounds_succ]
  go_wp2_with (first | (at_builtin; have _t := tok2; refine wpList_push3 hown1 hB1 [.int .u8 ((n : Int) / 65536 % 256)] rfl (by simp [Value.oneCell']) hi hz0 hz1 hz2 rfl (by decide) rfl (.tmp 14) _ 31 Tryz.underlying31 rfl rfl rfl (by unfold maxLen; omega) (by omega) ?_; intro v2 w2 hown2 hbw2; clear tok2; have hbs2 := Nat.le_trans hbs1 hbw2.kept.size))
  have hB2 := Nat.le_trans hB hbs2
  rw [rounds_succ]
  go_wp2_with (first | (at_builtin; have _t := tok3; refine wpList_push3 hown2 hB2 [.int .u8 ((n : Int) / 256 % 256)] rfl (by simp [Value.oneCell']) hi hz0 hz1 hz2 rfl (by decide) rfl (.tmp 14) _ 31 Tryz.underlying31 rfl rfl rfl (by unfold maxLen; omega) (by omega) ?_; intro v3 w3 hown3 hbw3; clear tok3; have hbs3 := Nat.le_trans hbs2 hbw3.kept.size))
  have hB3 := Nat.le_trans hB hbs3
  rw [rounds_succ]
  go_wp2_with (first | (at_builtin; have _t := tok4; refine wpList_push3 hown3 hB3 [.int .u8 ((n : Int) % 256)] rfl (by simp [Value.oneCell']) hi hz0 hz1 hz2 rfl (by decide) rfl (.tmp 14) _ 31 Tryz.underlying31 rfl rfl rfl (by unfold maxLen; omega) (by omega) ?_; intro v4 w4 hown4 hbw4; clear tok4; have hbs4 := Nat.le_trans hbs3 hbw4.kept.size))
  have hB4 := Nat.le_trans hB hbs4
  rw [rounds_succ]
  go_wp2_with fail
  go_ret
  refine ⟨_, rfl, ?_, ((hbw1.trans hbw2).trans hbw3).trans hbw4⟩
  have e1 := byteV_mod (n / 16777216)
  have e2 := byteV_mod (n / 65536)
  have e3 := byteV_mod (n / 256)
  have e4 := byteV_mod n
  rw [show ((n / 16777216 : Nat) : Int) % 256 = (n : Int) / 16777216 from by omega] at e1
  rw [show ((n / 65536 : Nat) : Int) = (n : Int) / 65536 from by omega] at e2
  rw [show ((n / 256 : Nat) : Int) = (n : Int) / 256 from by omega] at e3
  rw [List.map_append]
  show w4.ownsRow B 5 1 v4 (m + 1 + 1 + 1 + 1) (xs.map byteV ++ [byteV (UInt8.ofNat (n / 16777216)), byteV (UInt8.ofNat (n / 65536)), byteV (UInt8.ofNat (n / 256)), byteV (UInt8.ofNat n)])
  rw [e1, e2, e3, e4]
  simpa [List.append_assoc] using hown4
set_option maxRecDepth 100000 in
set_option maxHeartbeats 20000000 in
theorem RSoaBytes (g : SoaM) (hg : g.fits) (A B : Option Addr) (ca cb : Nat) (w : World) (hA : Cs w A (g.m.map strV)) (hB : Cs w B (g.x.map strV)) :
    Calls Tryz.prog 117 #[g.v A ca B cb] w fun e w' => ∃ v, e = .returned v ∧ w'.ownsRow w.heap.size 5 1 v g.bytes.length (g.bytes.map byteV) ∧ Below w.heap.size w w' := by
  obtain ⟨i0, hi, hz0, hz1, hz2⟩ := info_parts info_u8
  unfold SoaM.v
  have hb1 : Below w.heap.size w (w.alloc (.cells #[.slice A g.m.length ca, .slice B g.x.length cb, .int .u32 g.s1, .int .u32 g.s2, .int .u32 g.s3, .int .u32 g.s4, .int .u32 g.s5] 147)) := (Below.refl _ _).alloc (Nat.le_refl _) _
  have hblk := heap_alloc_new w (.cells #[.slice A g.m.length ca, .slice B g.x.length cb, .int .u32 g.s1, .int .u32 g.s2, .int .u32 g.s3, .int .u32 g.s4, .int .u32 g.s5] 147)
  obtain ⟨k0, k1, k2, k3, k4, k5, k6, _⟩ := cells7 hblk
  have hsz : (w.alloc (.cells #[.slice A g.m.length ca, .slice B g.x.length cb, .int .u32 g.s1, .int .u32 g.s2, .int .u32 g.s3, .int .u32 g.s4, .int .u32 g.s5] 147)).heap.size = w.heap.size + 1 := by simp
  go_enter Tryz.func117, Tryz.ntmps117
  go_wp2_with fail
  generalize w.alloc (.cells #[.slice A g.m.length ca, .slice B g.x.length cb, .int .u32 g.s1, .int .u32 g.s2, .int .u32 g.s3, .int .u32 g.s4, .int .u32 g.s5] 147) = w1 at *
  have hwm := wire_len_few hg.m
  have hwx := wire_len_few hg.x
  have HWA : Hid (∀ W, Below w1.heap.size w1 W → Calls Tryz.prog 115 #[.slice A g.m.length ca] W fun e w' => ∃ v, e = .returned v ∧ w'.ownsRow W.heap.size 5 1 v (wire g.m).length ((wire g.m).map byteV) ∧ Below W.heap.size W w') := Lib.hid fun W hW => RWire A g.m ca W ((hA.below hb1).below hW) hg.m
  have HWB : Hid (∀ W, Below w1.heap.size w1 W → Calls Tryz.prog 115 #[.slice B g.x.length cb] W fun e w' => ∃ v, e = .returned v ∧ w'.ownsRow W.heap.size 5 1 v (wire g.x).length ((wire g.x).map byteV) ∧ Below W.heap.size W w') := Lib.hid fun W hW => RWire B g.x cb W ((hB.below hb1).below hW) hg.x
  have HBY : Hid (∀ a b, wire g.m = a → wire g.x = b → g.bytes = a ++ b ++ be4 g.s1 ++ be4 g.s2 ++ be4 g.s3 ++ be4 g.s4 ++ be4 g.s5) := Lib.hid fun a b h1 h2 => by rw [← h1, ← h2]; rfl
  clear hA hB hblk
  generalize hwa : wire g.m = a at *
  generalize hwb : wire g.x = b at *
  have HB2 := Lib.hid (HBY.out a b rfl rfl)
  have HG := Lib.hid hg
  clear HBY hwa hwb hg
  refine wp_region_x (by kernel_rfl) (by kernel_rfl) w1.heap.size (Nat.le_refl _) [.c (.is (.pointer (some ⟨w.heap.size, 0, none⟩))), .c (.is (.slice A g.m.length ca)), .c (.own w1.heap.size 5 1 a.length (a.map byteV)), .c (.is (.pointer (some ⟨w.heap.size, 1, none⟩))), .c (.is (.slice B g.x.length cb)), .c (.own w1.heap.size 5 1 b.length (b.map byteV)),
    .c (.own w1.heap.size 5 1 (a.length + b.length) ((a ++ b).map byteV)), .d [6] (fun vs => .is (vs 6))] (by kernel_rfl) (fun i => if i = 6 then 2 else 0) (fun j => if j = 2 ∨ j = 5 ∨ j = 6 then 1 else 0) (by kernel_rfl) ?_ (fun _ => True) trivial (fun _ _ _ _ => trivial) (fun _ _ _ _ => trivial) ?_ ?_
  · intro j vals
    rcases j with _ | _ | _ | _ | _ | _ | _ | _ | j
    all_goals first
      | exact plain_is _
      | exact kind_own _ _ _ _ _ _ (Nat.le_refl _)
      | (rw [if_neg (by omega)]; exact plain_any)
  · intro i o hio vals W hE haf _
    have e0 := (bcl (o := 0) hE (by omega)).trans k0
    have e1 := (bcl (o := 1) hE (by omega)).trans k1
    rcases i with _ | _ | _ | _ | _ | _ | _ | _ | i
    all_goals first
      | (exfalso; simp at hio; done)
      | skip
    all_goals
      simp at hio
      subst hio
      simp [bindD, rdB, Region.binds, dfAt, DF.d_at] at haf
    all_goals first
      | (simp [opYield_def, yieldUpon, relAct, dstAt, Act.put, Region.wanted, go_sem, haf, e0, e1, Ext.refl, dfAt, DF.d_at, kindX]; done)
      | skip
    · simp [opYield_def, yieldUpon, relAct, dstAt, Act.put, Region.wanted, go_sem, haf, dfAt, DF.d_at, kindX]
      refine (HWA.out W hE).mono fun e W' h5 => ?_
      obtain ⟨v, he, ho, hb⟩ := h5
      exact ⟨v, he, hb, own_base ho hE.size⟩
    · simp [opYield_def, yieldUpon, relAct, dstAt, Act.put, Region.wanted, go_sem, haf, dfAt, DF.d_at, kindX]
      refine (HWB.out W hE).mono fun e W' h5 => ?_
      obtain ⟨v, he, ho, hb⟩ := h5
      exact ⟨v, he, hb, own_base ho hE.size⟩
    · obtain ⟨h2, h5⟩ := haf
      obtain ⟨A5, c5, e5, _, hc5⟩ := Cs.of_own h5
      refine yield_bytes rfl (.tmp 6) (.tmp 9) Tryz.underlying31 rfl (v := vals 2) (by simp [relAct, dstAt, Act.put, Act.eval]) h2 hE.size (us := b.map byteV) (A := A5) (c := c5) (by simp [relAct, dstAt, Act.put, Act.eval, e5]) hc5 (byteV_one b) (by simp; omega) ?_
      intro v' W' g1 g2
      refine ⟨g2, ?_⟩
      show W'.ownsRow w1.heap.size 5 1 v' (a.length + b.length) ((a ++ b).map byteV)
      rw [List.map_append]
      simpa using g1
  · intro vals W hE hF
    have h6 := hF 6 (by show 6 < 8; omega) (by kernel_rfl)
    have h7 := hF 7 (by show 7 < 8; omega) (by kernel_rfl)
    simp only [dfAt, DF.d_at] at h6 h7
    have h6 : W.ownsRow w1.heap.size 5 1 (vals 6) (a.length + b.length) ((a ++ b).map byteV) := h6
    have h7 : vals 7 = vals 6 := by simpa [DF.d_at] using h7
    simp [relAct, dstAt, Act.put]
    rw [h7]
    clear hF h7 HWA HWB
    generalize vals 6 = v6 at *
    generalize vals 0 = v0
    generalize vals 1 = v1
    generalize vals 2 = v2
    generalize vals 3 = v3
    generalize vals 4 = v4
    generalize vals 5 = v5
    have r2 := (bcl (o := 2) hE (by omega)).trans k2
    have r3 := (bcl (o := 3) hE (by omega)).trans k3
    have r4 := (bcl (o := 4) hE (by omega)).trans k4
    have r5 := (bcl (o := 5) hE (by omega)).trans k5
    have r6 := (bcl (o := 6) hE (by omega)).trans k6
    have hBW := hE.size
    clear k0 k1 k2 k3 k4 k5 k6
    go_wp2_with fail
    refine wp_region_x (by kernel_rfl) (by kernel_rfl) w1.heap.size hBW [.c (.is v6), .c (.is (.pointer (some ⟨w.heap.size, 2, none⟩))), .c (.is (.int .u32 g.s1)), .c (.own w1.heap.size 5 1 (a.length + b.length + 4) ((a ++ b ++ be4 g.s1).map byteV)),
      .c (.is (.pointer (some ⟨w.heap.size, 3, none⟩))), .c (.is (.int .u32 g.s2)), .c (.own w1.heap.size 5 1 (a.length + b.length + 4 + 4) ((a ++ b ++ be4 g.s1 ++ be4 g.s2).map byteV)),
      .c (.is (.pointer (some ⟨w.heap.size, 4, none⟩))), .c (.is (.int .u32 g.s3)), .c (.own w1.heap.size 5 1 (a.length + b.length + 4 + 4 + 4) ((a ++ b ++ be4 g.s1 ++ be4 g.s2 ++ be4 g.s3).map byteV)),
      .c (.is (.pointer (some ⟨w.heap.size, 5, none⟩))), .c (.is (.int .u32 g.s4)), .c (.own w1.heap.size 5 1 (a.length + b.length + 4 + 4 + 4 + 4) ((a ++ b ++ be4 g.s1 ++ be4 g.s2 ++ be4 g.s3 ++ be4 g.s4).map byteV)),
      .c (.is (.pointer (some ⟨w.heap.size, 6, none⟩))), .c (.is (.int .u32 g.s5)), .c (.own w1.heap.size 5 1 (a.length + b.length + 4 + 4 + 4 + 4 + 4) ((a ++ b ++ be4 g.s1 ++ be4 g.s2 ++ be4 g.s3 ++ be4 g.s4 ++ be4 g.s5).map byteV)),
      .d [15] (fun vs => .is (vs 15))] (by kernel_rfl) (fun i => if i = 3 ∨ i = 6 ∨ i = 9 ∨ i = 12 ∨ i = 15 then 3 else 0) (fun j => if j = 3 ∨ j = 6 ∨ j = 9 ∨ j = 12 ∨ j = 15 then 3 else 0) (by kernel_rfl) ?_
      (fun W' => W'.ownsRow w1.heap.size 5 1 v6 (a.length + b.length) ((a ++ b).map byteV)) h6 (fun W W' hE h => own_below h hE) (fun W' W'' hE h => Kept.row h (Kept.of_below hE) (fun b hb e => by have := (h6.lt b hb).2; omega)) ?_ ?_
    · intro j vals
      rcases j with _ | _ | _ | _ | _ | _ | _ | _ | _ | _ | _ | _ | _ | _ | _ | _ | _ | j
      all_goals first
        | exact plain_is _
        | exact trivial
        | (rw [if_neg (by omega)]; exact plain_any)
    · intro i o hio vals W' hC haf hI0
      have e2 := (bcl (o := 2) hC (by omega)).trans r2
      have e3 := (bcl (o := 3) hC (by omega)).trans r3
      have e4 := (bcl (o := 4) hC (by omega)).trans r4
      have e5 := (bcl (o := 5) hC (by omega)).trans r5
      have e6 := (bcl (o := 6) hC (by omega)).trans r6
      have hBW' := Nat.le_trans hBW hC.size
      rcases i with _ | _ | _ | _ | _ | _ | _ | _ | _ | _ | _ | _ | _ | _ | _ | _ | _ | i
      all_goals first
        | (exfalso; simp at hio; done)
        | skip
      all_goals
        simp at hio
        subst hio
        simp [bindD, rdB, Region.binds, dfAt, DF.d_at] at haf
      all_goals first
        | (simp [opYield_def, yieldUpon, relAct, dstAt, Act.put, Region.wanted, go_sem, haf, e2, e3, e4, e5, e6, Ext.refl, dfAt, DF.d_at, kindX]; done)
        | skip
      · have hI := hI0 (fun k hk hk2 => by
          by_cases h3 : k = 3
          · exact .inl h3
          · by_cases h6 : k = 6
            · subst h6; exact .inr (by kernel_rfl)
            · by_cases h9 : k = 9
              · subst h9; exact .inr (by kernel_rfl)
              · by_cases h12 : k = 12
                · subst h12; exact .inr (by kernel_rfl)
                · by_cases h15 : k = 15
                  · subst h15; exact .inr (by kernel_rfl)
                  · exfalso; simp [h3, h6, h9, h12, h15] at hk2)
        simp [opYield_def, yieldUpon, relAct, dstAt, Act.put, Region.wanted, go_sem, haf, dfAt, DF.d_at, kindX]
        refine (RPut4 w1.heap.size v6 (a.length + b.length) (a ++ b) g.s1 W' hI hBW' (by omega) HG.out.s1).mono fun e W'' h5 => ?_
        obtain ⟨v, he, ho, hm⟩ := h5
        exact ⟨v, he, hm.below hI hBW', by simpa [List.map_append] using ho⟩
      · obtain ⟨h3, h5⟩ := haf
        have h3 : W'.ownsRow w1.heap.size 5 1 (vals 3) (a.length + b.length + 4) ((a ++ b ++ be4 g.s1).map byteV) := by simpa [List.map_append] using h3
        simp [opYield_def, yieldUpon, relAct, dstAt, Act.put, Region.wanted, go_sem, h5, dfAt, DF.d_at, kindX]
        refine (RPut4 w1.heap.size (vals 3) _ _ g.s2 W' h3 hBW' (by omega) HG.out.s2).mono fun e W'' h5 => ?_
        obtain ⟨v, he, ho, hm⟩ := h5
        exact ⟨v, he, hm.below h3 hBW', by simpa [List.map_append] using ho⟩
      · obtain ⟨h3, h5⟩ := haf
        have h3 : W'.ownsRow w1.heap.size 5 1 (vals 6) (a.length + b.length + 4 + 4) ((a ++ b ++ be4 g.s1 ++ be4 g.s2).map byteV) := by simpa [List.map_append] using h3
        simp [opYield_def, yieldUpon, relAct, dstAt, Act.put, Region.wanted, go_sem, h5, dfAt, DF.d_at, kindX]
        refine (RPut4 w1.heap.size (vals 6) _ _ g.s3 W' h3 hBW' (by omega) HG.out.s3).mono fun e W'' h5 => ?_
        obtain ⟨v, he, ho, hm⟩ := h5
        exact ⟨v, he, hm.below h3 hBW', by simpa [List.map_append] using ho⟩
      · obtain ⟨h3, h5⟩ := haf
        have h3 : W'.ownsRow w1.heap.size 5 1 (vals 9) (a.length + b.length + 4 + 4 + 4) ((a ++ b ++ be4 g.s1 ++ be4 g.s2 ++ be4 g.s3).map byteV) := by simpa [List.map_append] using h3
        simp [opYield_def, yieldUpon, relAct, dstAt, Act.put, Region.wanted, go_sem, h5, dfAt, DF.d_at, kindX]
        refine (RPut4 w1.heap.size (vals 9) _ _ g.s4 W' h3 hBW' (by omega) HG.out.s4).mono fun e W'' h5 => ?_
        obtain ⟨v, he, ho, hm⟩ := h5
        exact ⟨v, he, hm.below h3 hBW', by simpa [List.map_append] using ho⟩
      · obtain ⟨h3, h5⟩ := haf
        have h3 : W'.ownsRow w1.heap.size 5 1 (vals 12) (a.length + b.length + 4 + 4 + 4 + 4) ((a ++ b ++ be4 g.s1 ++ be4 g.s2 ++ be4 g.s3 ++ be4 g.s4).map byteV) := by simpa [List.map_append] using h3
        simp [opYield_def, yieldUpon, relAct, dstAt, Act.put, Region.wanted, go_sem, h5, dfAt, DF.d_at, kindX]
        refine (RPut4 w1.heap.size (vals 12) _ _ g.s5 W' h3 hBW' (by omega) HG.out.s5).mono fun e W'' h5 => ?_
        obtain ⟨v, he, ho, hm⟩ := h5
        exact ⟨v, he, hm.below h3 hBW', by simpa [List.map_append] using ho⟩
    · intro vals W' hC hF
      have h15 := hF 15 (by show 15 < 17; omega) (by kernel_rfl)
      have h16 := hF 16 (by show 16 < 17; omega) (by kernel_rfl)
      simp only [dfAt, DF.d_at] at h15 h16
      have h15 : W'.ownsRow w1.heap.size 5 1 (vals 15) (a.length + b.length + 4 + 4 + 4 + 4 + 4) ((a ++ b ++ be4 g.s1 ++ be4 g.s2 ++ be4 g.s3 ++ be4 g.s4 ++ be4 g.s5).map byteV) := h15
      have h16 : vals 16 = vals 15 := by simpa [DF.d_at] using h16
      have hbF := hb1.trans ((hE.trans hC).mono (by omega))
      simp [relAct, dstAt, Act.put]
      rw [h16]
      clear hF h16
      generalize vals 15 = v15 at *
      go_wp2_with fail
      go_ret
      refine ⟨_, rfl, ?_, hbF⟩
      rw [HB2.out]
      have hl : (a ++ b ++ be4 g.s1 ++ be4 g.s2 ++ be4 g.s3 ++ be4 g.s4 ++ be4 g.s5).length = a.length + b.length + 4 + 4 + 4 + 4 + 4 := by simp only [List.length_append]; rfl
      rw [hl]
      exact own_base h15 (by omega)
end Nm
end Go.Proofs.YtkeimgamjnpcbaaGreat

/- Contracts of the laws' settings: under, Data of the types that hold names. -/
namespace Go.Proofs.YtkeimgamjnpcbaaGreat
open Go.RowKit
set_option linter.unusedVariables false
set_option linter.unusedSimpArgs false
namespace Nm
def farL : List Lab := [[102, 97, 114], [110, 101, 116]]
def underL (k : Nat) : List Lab := if k % 7 = 6 then farL else owner k
theorem owner_small (k : Nat) : Small (owner k) := by
  have h : ∀ m, m < 13 → Small (ownL m ++ [exL]) := by
    unfold Small
    decide
  exact h (k % 13) (Nat.mod_lt _ (by omega))
theorem far_small : Small farL := by unfold Small; decide
theorem under_small (k : Nat) : Small (underL k) := by
  unfold underL
  split
  · exact far_small
  · exact owner_small k
set_option maxRecDepth 100000 in
set_option maxHeartbeats 4000000 in
theorem Under (k : Nat) (hk : k < 256) (w : World) : Calls Tryz.prog 116 #[.int .u8 k] w fun e w' => ∃ v, e = .returned v ∧ w'.ownsRow w.heap.size 9 1 v (underL k).length ((underL k).map strV) ∧ Below w.heap.size w w' := by
  have hrem : ((k : Int).tmod 7) = ((k % 7 : Nat) : Int) := by rw [Int.tmod_eq_emod_of_nonneg (by omega)]; omega
  by_cases h6 : k % 7 = 6
  · have hu : underL k = farL := by unfold underL; rw [if_pos h6]
    rw [h6] at hrem
    rw [hu]
    clear hu h6
    go_enter Tryz.func116, Tryz.ntmps116
    go_wp2_with fail
    go_ret
    exact ⟨_, rfl, own_row w w.heap.size 9 (farL.map strV) (Nat.le_refl _) (by simp [farL]), (Below.refl _ _).alloc (Nat.le_refl _) _⟩
  · have hu : underL k = owner k := by unfold underL; rw [if_neg h6]
    have hd2 : (((k : Int) % 7) == 6) = false := by simp; omega
    rw [hu]
    clear hu h6 hrem
    have HO := Lib.hid (Owner k hk w)
    go_enter Tryz.func116, Tryz.ntmps116
    go_wp2_with fail
    refine HO.out.mono ?_
    rintro e w1 ⟨v, rfl, h1, h2⟩
    go_wp2_with fail
    go_ret
    exact ⟨_, rfl, h1, h2⟩
def nsL : Nat → List Lab
  | 0 => owner 8
  | 1 => owner 1
  | _ => farL
def dataN : Nat → Nat → Lab
  | 28, k => List.replicate 15 0 ++ [b8 (k % 3)]
  | 15, k => [0, b8 (k % 3)] ++ wire (underL k)
  | 2, k => wire (nsL (k % 3))
  | 5, k => wire (underL k)
  | 6, k => SoaM.bytes ⟨owner 1, owner 2, k * 16777216, 1, 2, 3, 10 + k % 4 * 20⟩
  | t, k => dataP t k
set_option maxRecDepth 100000 in
set_option maxHeartbeats 4000000 in
theorem Data5 (k : Nat) (hk : k < 256) (w : World) : Calls Tryz.prog 75 #[.int .u16 5, .int .u8 k] w fun e w' => ∃ v, e = .returned v ∧ w'.ownsRow w.heap.size 5 1 v (dataN 5 k).length ((dataN 5 k).map byteV) ∧ Below w.heap.size w w' := by
  have HU := Lib.hid (Under k hk w)
  have HS := Lib.hid (under_small k)
  show Calls _ _ _ _ fun e w' => ∃ v, e = .returned v ∧ w'.ownsRow w.heap.size 5 1 v (wire (underL k)).length ((wire (underL k)).map byteV) ∧ Below w.heap.size w w'
  generalize underL k = u at *
  go_enter Tryz.func75, Tryz.ntmps75
  go_wp2_with fail
  refine HU.out.mono ?_
  rintro e w1 ⟨v1, rfl, h1, hb1⟩
  obtain ⟨A1, c1, rfl, _, hc1⟩ := Cs.of_own h1
  have HW := Lib.hid (RWire A1 u c1 w1 hc1 HS.out)
  clear h1 hc1
  go_wp2_with fail
  refine HW.out.mono ?_
  rintro e w2 ⟨v2, rfl, h2, hb2⟩
  have hb12 := hb1.trans (hb2.mono hb1.size)
  have h2 := own_base h2 hb1.size
  go_wp2_with fail
  go_ret
  exact ⟨_, rfl, h2, hb12⟩
set_option maxRecDepth 100000 in
set_option maxHeartbeats 4000000 in
theorem Data15 (k : Nat) (hk : k < 256) (w : World) : Calls Tryz.prog 75 #[.int .u16 15, .int .u8 k] w fun e w' => ∃ v, e = .returned v ∧ w'.ownsRow w.heap.size 5 1 v (dataN 15 k).length ((dataN 15 k).map byteV) ∧ Below w.heap.size w w' := by
  obtain ⟨m, hm, hm2⟩ : ∃ m, k % 3 = m ∧ m < 3 := ⟨_, rfl, Nat.mod_lt _ (by omega)⟩
  have hrem : ((k : Int).tmod 3) = m := by rw [Int.tmod_eq_emod_of_nonneg (by omega)]; omega
  have HU : Hid (∀ W, Calls Tryz.prog 116 #[.int .u8 k] W fun e w' => ∃ v, e = .returned v ∧ w'.ownsRow W.heap.size 9 1 v (underL k).length ((underL k).map strV) ∧ Below W.heap.size W w') := Lib.hid fun W => Under k hk W
  have hus := under_small k
  have hwl := wire_len_few hus
  have HS := Lib.hid hus
  have HD : Hid (dataN 15 k = [0, b8 m] ++ wire (underL k)) := Lib.hid (by rw [← hm]; rfl)
  have HB : Hid (([0, b8 m] : Lab).map byteV = [.int .u8 0, .int .u8 m]) := Lib.hid (by
    have := byte8 (n := m) (by omega)
    simp only [List.map_cons, List.map_nil, this]
    rfl)
  clear hm hus
  generalize underL k = u at *
  go_enter Tryz.func75, Tryz.ntmps75
  go_wp2_with fail
  have h0 : (w.alloc (.cells #[.int .u8 0, .int .u8 m] 5)).ownsRow w.heap.size 5 1 (.slice (some ⟨w.heap.size, 0, none⟩) 2 2) 2 (([0, b8 m] : Lab).map byteV) := by
    rw [HB.out]
    exact own_row w w.heap.size 5 [.int .u8 0, .int .u8 m] (Nat.le_refl _) (by simp)
  have hb0 : Below w.heap.size w (w.alloc (.cells #[.int .u8 0, .int .u8 m] 5)) := (Below.refl _ _).alloc (Nat.le_refl _) _
  generalize w.alloc (.cells #[.int .u8 0, .int .u8 m] 5) = w0 at *
  refine (HU.out w0).mono ?_
  rintro e w1 ⟨v1, rfl, h1, hb1⟩
  obtain ⟨A1, c1, rfl, _, hc1⟩ := Cs.of_own h1
  have h01 := own_below h0 hb1
  have hb01 := hb0.trans (hb1.mono hb0.size)
  have HW := Lib.hid (RWire A1 u c1 w1 hc1 HS.out)
  clear h1 hc1 h0 hb1 hb0
  go_wp2_with fail
  refine HW.out.mono ?_
  rintro e w2 ⟨v2, rfl, h2, hb2⟩
  obtain ⟨A2, c2, rfl, _, hc2⟩ := Cs.of_own h2
  have h02 := own_below h01 hb2
  have hb02 := hb01.trans (hb2.mono hb01.size)
  clear h01 hb01 hb2 h2
  generalize wire u = wu at *
  go_wp2_with (first | (at_builtin; refine wpList_bytes h02 hb02.size hc2 rfl _ _ Tryz.underlying31 rfl rfl rfl (by omega) ?_; intro v3 w3 hown3 hb3; have hb03 := hb02.trans hb3))
  go_ret
  refine ⟨v3, rfl, ?_, hb03⟩
  rw [HD.out, List.length_append]
  exact hown3
set_option maxRecDepth 100000 in
set_option maxHeartbeats 4000000 in
theorem Data28 (k : Nat) (hk : k < 256) (w : World) : Calls Tryz.prog 75 #[.int .u16 28, .int .u8 k] w fun e w' => ∃ v, e = .returned v ∧ w'.ownsRow w.heap.size 5 1 v (dataN 28 k).length ((dataN 28 k).map byteV) ∧ Below w.heap.size w w' := by
  obtain ⟨m, hm, hm2⟩ : ∃ m, k % 3 = m ∧ m < 3 := ⟨_, rfl, Nat.mod_lt _ (by omega)⟩
  have hrem : ((k : Int).tmod 3) = m := by rw [Int.tmod_eq_emod_of_nonneg (by omega)]; omega
  have HD : Hid (dataN 28 k = List.replicate 15 0 ++ [b8 m]) := Lib.hid (by rw [← hm]; rfl)
  have hmk : ∀ w, (Instr.makeSlice 31 (.int .i64 15) (.int .i64 15)).run Tryz.prog w = .ok (.slice (some ⟨w.heap.size, 0, none⟩) 15 15) (w.alloc (.cells #[.int .u8 0, .int .u8 0, .int .u8 0, .int .u8 0, .int .u8 0, .int .u8 0, .int .u8 0, .int .u8 0, .int .u8 0, .int .u8 0, .int .u8 0, .int .u8 0, .int .u8 0, .int .u8 0, .int .u8 0] 5)) := fun _ => by kernel_rfl
  have HB : Hid ([b8 m].map byteV = [.int .u8 m]) := Lib.hid (by
    have := byte8 (n := m) (by omega)
    simp only [List.map_cons, List.map_nil, this])
  obtain ⟨i0, hi, hz0, hz1, hz2⟩ := info_parts info_u8
  clear hm
  have h0 : (w.alloc (.cells #[.int .u8 0, .int .u8 0, .int .u8 0, .int .u8 0, .int .u8 0, .int .u8 0, .int .u8 0, .int .u8 0, .int .u8 0, .int .u8 0, .int .u8 0, .int .u8 0, .int .u8 0, .int .u8 0, .int .u8 0] 5)).ownsRow w.heap.size 5 1 (.slice (some ⟨w.heap.size, 0, none⟩) 15 15) 15 ((List.replicate 15 0 : Lab).map byteV) := own_row w w.heap.size 5 [.int .u8 0, .int .u8 0, .int .u8 0, .int .u8 0, .int .u8 0, .int .u8 0, .int .u8 0, .int .u8 0, .int .u8 0, .int .u8 0, .int .u8 0, .int .u8 0, .int .u8 0, .int .u8 0, .int .u8 0] (Nat.le_refl _) (by simp)
  have hb0 : Below w.heap.size w (w.alloc (.cells #[.int .u8 0, .int .u8 0, .int .u8 0, .int .u8 0, .int .u8 0, .int .u8 0, .int .u8 0, .int .u8 0, .int .u8 0, .int .u8 0, .int .u8 0, .int .u8 0, .int .u8 0, .int .u8 0, .int .u8 0] 5)) := (Below.refl _ _).alloc (Nat.le_refl _) _
  go_enter Tryz.func75, Tryz.ntmps75
  go_wp2_with (first | (at_builtin; refine wpList_push2 h0 hb0.size [.int .u8 m] rfl (by simp [Value.oneCell']) hi hz0 hz1 hz2 rfl (by decide) rfl (.tmp 13) (.tmp 16) 31 Tryz.underlying31 rfl rfl (by simp [Act.eval]) (by unfold maxLen; omega) (by omega) ?_; intro v3 w3 hown3 hb3; have hb03 := hb0.trans hb3))
  go_ret
  refine ⟨v3, rfl, ?_, hb03⟩
  rw [HD.out, List.length_append, List.map_append, HB.out]
  exact hown3
set_option maxRecDepth 100000 in
set_option maxHeartbeats 4000000 in
theorem Data6 (k : Nat) (hk : k < 256) (w : World) : Calls Tryz.prog 75 #[.int .u16 6, .int .u8 k] w fun e w' => ∃ v, e = .returned v ∧ w'.ownsRow w.heap.size 5 1 v (dataN 6 k).length ((dataN 6 k).map byteV) ∧ Below w.heap.size w w' := by
  obtain ⟨m, hm, hm2⟩ : ∃ m, k % 4 = m ∧ m < 4 := ⟨_, rfl, Nat.mod_lt _ (by omega)⟩
  have hrem : ((k : Int).tmod 4) = m := by rw [Int.tmod_eq_emod_of_nonneg (by omega)]; omega
  have HD : Hid (dataN 6 k = SoaM.bytes ⟨owner 1, owner 2, k * 16777216, 1, 2, 3, 10 + m * 20⟩) := Lib.hid (by rw [← hm]; rfl)
  have hl1 : (owner 1).length = 2 := rfl
  have hl2 : (owner 2).length = 2 := rfl
  clear hm
  go_enter Tryz.func75, Tryz.ntmps75
  go_wp2_with fail
  refine (Owner 1 (by omega) w).mono ?_
  rintro e w1 ⟨v1, rfl, h1, hb1⟩
  obtain ⟨A1, c1, rfl, _, hc1⟩ := Cs.of_own h1
  go_wp2_with fail
  refine (Owner 2 (by omega) w1).mono ?_
  rintro e w2 ⟨v2, rfl, h2, hb2⟩
  obtain ⟨A2, c2, rfl, _, hc2⟩ := Cs.of_own h2
  have hc12 := hc1.below hb2
  have hb12 := hb1.trans (hb2.mono hb1.size)
  clear h1 h2 hc1
  go_wp2_with fail
  refine (RSoaBytes ⟨owner 1, owner 2, k * 16777216, 1, 2, 3, 10 + m * 20⟩ ⟨owner_small 1, owner_small 2, by show k * 16777216 < _; omega, by show 1 < _; omega, by show 2 < _; omega, by show 3 < _; omega, by show 10 + m * 20 < _; omega⟩ A1 A2 c1 c2 w2 hc12 hc2).mono ?_
  rintro e w3 ⟨v3, rfl, h3, hb3⟩
  have hb13 := hb12.trans (hb3.mono hb12.size)
  have h3 := own_base h3 hb12.size
  rw [← HD.out] at h3
  go_wp2_with fail
  go_ret
  exact ⟨_, rfl, h3, hb13⟩
set_option maxRecDepth 100000 in
set_option maxHeartbeats 4000000 in
theorem Data2 (k : Nat) (hk : k < 256) (w : World) : Calls Tryz.prog 75 #[.int .u16 2, .int .u8 k] w fun e w' => ∃ v, e = .returned v ∧ w'.ownsRow w.heap.size 5 1 v (dataN 2 k).length ((dataN 2 k).map byteV) ∧ Below w.heap.size w w' := by
  obtain ⟨m, hm, hm2⟩ : ∃ m, k % 3 = m ∧ m < 3 := ⟨_, rfl, Nat.mod_lt _ (by omega)⟩
  have hrem : ((k : Int).tmod 3) = m := by rw [Int.tmod_eq_emod_of_nonneg (by omega)]; omega
  have HD : Hid (dataN 2 k = wire (nsL m)) := Lib.hid (by rw [← hm]; rfl)
  have hl1 : (owner 1).length = 2 := rfl
  have hl2 : (owner 8).length = 3 := rfl
  clear hm
  go_enter Tryz.func75, Tryz.ntmps75
  go_wp2_with fail
  refine (Owner 8 (by omega) w).mono ?_
  rintro e w1 ⟨v1, rfl, h1, hb1⟩
  obtain ⟨A1, c1, rfl, _, hc1⟩ := Cs.of_own h1
  go_wp2_with fail
  refine (Owner 1 (by omega) w1).mono ?_
  rintro e w2 ⟨v2, rfl, h2, hb2⟩
  obtain ⟨A2, c2, rfl, _, hc2⟩ := Cs.of_own h2
  have hc12 := hc1.below hb2
  have hb12 := hb1.trans (hb2.mono hb1.size)
  clear h1 h2 hc1
  have hcf : Cs (w2.alloc (.cells #[.string ⟨#[102, 97, 114]⟩, .string ⟨#[110, 101, 116]⟩] 9)) (some ⟨w2.heap.size, 0, none⟩) (farL.map strV) := cs_new w2 9 [.string ⟨#[102, 97, 114]⟩, .string ⟨#[110, 101, 116]⟩] (0, 0)
  have hbf : Below w2.heap.size w2 (w2.alloc (.cells #[.string ⟨#[102, 97, 114]⟩, .string ⟨#[110, 101, 116]⟩] 9)) := (Below.refl _ _).alloc (Nat.le_refl _) _
  have hsf : (w2.alloc (.cells #[.string ⟨#[102, 97, 114]⟩, .string ⟨#[110, 101, 116]⟩] 9)).heap.size = w2.heap.size + 1 := by simp
  have hm3 : m = 0 ∨ m = 1 ∨ m = 2 := by omega
  rcases hm3 with rfl | rfl | rfl
  all_goals
    go_wp2_with fail
    generalize w2.alloc (.cells #[.string ⟨#[102, 97, 114]⟩, .string ⟨#[110, 101, 116]⟩] 9) = wf at *
    have hba : Below wf.heap.size wf (wf.alloc (.cells #[.slice A1 3 c1, .slice A2 2 c2, .slice (some ⟨w2.heap.size, 0, none⟩) 2 2] 23)) := (Below.refl _ _).alloc (Nat.le_refl _) _
    have hb2a := hbf.trans (hba.mono (by omega))
    have hb0a := hb12.trans (hb2a.mono hb12.size)
    have hc1a := hc12.below hb2a
    have hc2a := hc2.below hb2a
    have hcfa := hcf.below hba
    clear hc12 hc2 hcf hba hbf
    generalize wf.alloc (.cells #[.slice A1 3 c1, .slice A2 2 c2, .slice (some ⟨w2.heap.size, 0, none⟩) 2 2] 23) = wa at *
  · refine (RWire A1 (owner 8) c1 wa hc1a (owner_small 8)).mono ?_
    rintro e w3 ⟨v3, rfl, h3, hb3⟩
    have hb13 := hb0a.trans (hb3.mono hb0a.size)
    have h3 := own_base h3 hb0a.size
    rw [← show dataN 2 k = wire (owner 8) from HD.out] at h3
    go_wp2_with fail
    go_ret
    exact ⟨_, rfl, h3, hb13⟩
  · refine (RWire A2 (owner 1) c2 wa hc2a (owner_small 1)).mono ?_
    rintro e w3 ⟨v3, rfl, h3, hb3⟩
    have hb13 := hb0a.trans (hb3.mono hb0a.size)
    have h3 := own_base h3 hb0a.size
    rw [← show dataN 2 k = wire (owner 1) from HD.out] at h3
    go_wp2_with fail
    go_ret
    exact ⟨_, rfl, h3, hb13⟩
  · refine (RWire _ farL 2 wa hcfa far_small).mono ?_
    rintro e w3 ⟨v3, rfl, h3, hb3⟩
    have hb13 := hb0a.trans (hb3.mono hb0a.size)
    have h3 := own_base h3 hb0a.size
    rw [← show dataN 2 k = wire farL from HD.out] at h3
    go_wp2_with fail
    go_ret
    exact ⟨_, rfl, h3, hb13⟩
end Nm
end Go.Proofs.YtkeimgamjnpcbaaGreat

/- Contracts of the laws' settings: Record of every number. -/
namespace Go.Proofs.YtkeimgamjnpcbaaGreat
open Go.RowKit
set_option linter.unusedVariables false
set_option linter.unusedSimpArgs false
namespace Nm
theorem DataAll (m k : Nat) (hm : m < 10) (hk : k < 256) (W : World) : Calls Tryz.prog 75 #[.int .u16 (typeK m), .int .u8 k] W fun e w' => ∃ v, e = .returned v ∧ w'.ownsRow W.heap.size 5 1 v (dataN (typeK m) k).length ((dataN (typeK m) k).map byteV) ∧ Below W.heap.size W w' := by
  have h : m = 0 ∨ m = 1 ∨ m = 2 ∨ m = 3 ∨ m = 4 ∨ m = 5 ∨ m = 6 ∨ m = 7 ∨ m = 8 ∨ m = 9 := by omega
  rcases h with rfl | rfl | rfl | rfl | rfl | rfl | rfl | rfl | rfl | rfl
  · exact Data1 k hk W
  · exact Data1 k hk W
  · exact Data28 k hk W
  · exact Data15 k hk W
  · exact Data16 k hk W
  · exact Data2 k hk W
  · exact Data5 k hk W
  · exact Data43 k hk W
  · exact Data6 k hk W
  · exact Data99 k hk W
/-- a number's record -/
def recN (k : Nat) : List Lab := owner (k % 256)
def recT (k : Nat) : Nat := typeK (k / 256 % 256 % 10)
def recD (k : Nat) : Lab := dataN (recT k) (k / 65536 % 256)
theorem RecordA (k : Nat) (hk : k < 4294967296) (w : World) : Calls Tryz.prog 30 #[.int .u32 k] w fun e w' => ∃ v, e = .returned v ∧ RecV w' w.heap.size v (recN k) (recT k) (ttlK k) (recD k) ∧ Below w.heap.size w w' :=
  RecordG k hk (recD k) w (fun W _ => DataAll (k / 256 % 256 % 10) (k / 65536 % 256) (Nat.mod_lt _ (by omega)) (Nat.mod_lt _ (by omega)) W)
set_option maxRecDepth 1000000 in
theorem chk_all : ∀ m, m < 10 → ∀ k, k < 256 → chk (typeK m) (dataN (typeK m) k) = true := by
  decide +kernel
set_option maxRecDepth 1000000 in
theorem len_all : ∀ m, m < 10 → ∀ k, k < 256 → (dataN (typeK m) k).length ≤ 100 := by
  decide +kernel
theorem typeK_easy : ∀ m, m < 10 → easyT (typeK m) ∧ (Lit.int .u16 (typeK m)).wf = true := by
  unfold easyT
  decide
theorem recV_ok (k : Nat) {cn cd : Nat} (h8 : (recN k).length ≤ cn) (h9 : cn ≤ maxLen) (h10 : (recD k).length ≤ cd) (h11 : cd ≤ maxLen) : Rec (recN k) [exL] (recT k) (recD k) cn cd := by
  have hf : Small (recN k) ∧ nameE (recN k) = 0 ∧ within (recN k) [exL] = true := by
    have h : ∀ m, m < 13 → Small (ownL m ++ [exL]) ∧ nameE (ownL m ++ [exL]) = 0 ∧ within (ownL m ++ [exL]) [exL] = true := by
      unfold Small
      decide
    exact h (k % 256 % 13) (Nat.mod_lt _ (by omega))
  have hm : k / 256 % 256 % 10 < 10 := Nat.mod_lt _ (by omega)
  have hk : k / 65536 % 256 < 256 := Nat.mod_lt _ (by omega)
  exact rec_of hf.1 hf.2.1 hf.2.2 (typeK_easy _ hm).1 (typeK_easy _ hm).2 (chk_all _ hm _ hk) (Nat.le_trans (len_all _ hm _ hk) (by omega)) h8 h9 h10 h11
end Nm
end Go.Proofs.YtkeimgamjnpcbaaGreat

/- Contracts of package zone: Delete of the only datum, gone, Drop. -/
namespace Go.Proofs.YtkeimgamjnpcbaaGreat
open Go.RowKit
set_option linter.unusedVariables false
set_option linter.unusedSimpArgs false
namespace Nm
theorem run_nothing2 {P : Program} {w : World} {t ty e : TypeId} {i : TypeInfo} (ht : P.underlying t = some (.slice e)) (hi : P.info? e = some i) (a x : Addr) (cap c : Nat) : (Builtin.append_ #[t, t] ty #[.slice (some a) 0 cap, .slice (some x) 0 c]).run P w = .ok (.slice (some a) 0 cap) w := by
  simp [Builtin.append_, run_underlying ht, sizeOf, typeInfo, hi, Builtin.lenOf, Builtin.firstCells, loadCells, loadCellsFrom, storeCells]
set_option maxRecDepth 100000 in
set_option maxHeartbeats 4000000 in
theorem DeleteOne (w : World) (B g cap : Nat) (u1 u2 : Value) (hown : w.ownsRow B 119 2 (.slice (some ⟨g, 0, none⟩) 1 cap) 1 [u1, u2]) :
    Calls Tryz.prog 84 #[.slice (some ⟨g, 0, none⟩) 1 cap, .int .i64 0, .int .i64 1] w fun e w' => e = .returned (.slice (some ⟨g, 0, none⟩) 0 cap) ∧ w'.ownsRow B 119 2 (.slice (some ⟨g, 0, none⟩) 0 cap) 0 [] ∧ Kept (fun k => k = g) w w' := by
  obtain ⟨hc1, hc2⟩ := own_caps hown
  go_enter Tryz.func84, Tryz.ntmps84
  go_wp2_with fail
  have hx : ∃ x : Addr, ∀ W, (Instr.slice 108 (.slice (some ⟨g, 0, none⟩) 1 cap) (some (.int .i64 1)) none none).run Tryz.prog W = .ok (.slice (some x) 0 (cap - 1)) W := by
    by_cases h : cap = 1
    · subst h
      exact ⟨⟨g, 0, none⟩, fun W => by simp [go_sem]⟩
    · refine ⟨⟨g, 2, none⟩, fun W => ?_⟩
      simp [go_sem]
      exact h
  obtain ⟨x, HX⟩ := hx
  obtain ⟨i0, hi, hi0, hi1, hi2⟩ := info_parts info_datum
  have HN := fun (W : World) (ty : TypeId) => run_nothing2 (P := Tryz.prog) (w := W) (ty := ty) Tryz.underlying108 hi ⟨g, 0, none⟩ x cap (cap - 1)
  refine wp_region_x mixed0 (by kernel_rfl) w.heap.size (Nat.le_refl _) [.c (.is (.slice (some ⟨g, 0, none⟩) 1 cap)), .c (.is (.int .i64 0)), .c (.is (.slice (some ⟨g, 0, none⟩) 0 cap)), .c (.is (.slice (some ⟨g, 0, none⟩) 1 cap)), .c (.is (.int .i64 1)), .c (.is (.slice (some x) 0 (cap - 1))), .c (.is (.slice (some ⟨g, 0, none⟩) 0 cap)), .c (.is (.slice (some ⟨g, 0, none⟩) 0 cap))] (by kernel_rfl) (fun _ => 0) (fun _ => 0) (by kernel_rfl) ?_ (fun _ => True) trivial (fun _ _ _ _ => trivial) (fun _ _ _ _ => trivial) ?_ ?_
  · intro j vals
    rcases j with _ | _ | _ | _ | _ | _ | _ | _ | j
    all_goals first
      | exact plain_is _
      | exact plain_any
  · intro i q hio vals W hE haf _
    rcases i with _ | _ | _ | _ | _ | _ | _ | _ | i
    all_goals first
      | (exfalso; simp at hio; done)
      | (simp at hio; subst hio; simp [bindD, rdB, Region.binds, dfAt] at haf; simp [opYield_def, yieldUpon, yielded, relAct, dstAt, Act.put, Region.wanted, go_sem, haf, HX, HN, Ext.refl, dfAt, kindX]; done)
  · intro vals W hE hF
    have h7 := hF 7 (by show 7 < 8; omega) (by kernel_rfl)
    have h7 : vals 7 = .slice (some ⟨g, 0, none⟩) 0 cap := h7
    have hownW := own_below hown hE
    obtain ⟨cs, hg, hgB⟩ := row_block hownW (b := g) rfl
    have hcs : 2 ≤ cs.size := by
      have h1 := (cs_own2 hownW) 1 u2 rfl
      obtain ⟨b, off, e1, _, h2⟩ := h1
      cases e1
      rw [cell_of_row _ _ _ _ _ _ hg] at h2
      have := (Array.getElem?_eq_some_iff.1 h2).1
      omega
    have hst := run_storeCells_at (P := Tryz.prog) g 0 119 [.slice none 0 0, .slice none 0 0] 0 cs W hg (by simp; omega) (by simp [Value.oneCell'])
    have hz : (zeroValue 119).run Tryz.prog W = .ok (.agg #[.slice none 0 0, .slice none 0 0]) W := by kernel_rfl
    have hcl : (Builtin.clear_ #[108] 0 #[.slice (some ⟨g, 0, none⟩) 1 cap]).run Tryz.prog W = .ok (.tuple #[]) (W.setRow g (cs.toList.take (0 + 0) ++ [Value.slice none 0 0, Value.slice none 0 0] ++ cs.toList.drop (0 + 0 + 2)).toArray) := by
      simp [Builtin.clear_, run_underlying Tryz.underlying108, hz, Result.andThen]
      have e : (Builtin.zeroCells (Value.agg #[Value.slice none 0 0, Value.slice none 0 0]).cells 1).toList = [Value.slice none 0 0, Value.slice none 0 0] := by kernel_rfl
      have hst' : (storeCells ⟨g, 0, none⟩ [Value.slice none 0 0, Value.slice none 0 0]).run Tryz.prog W = .ok () (W.setRow g (cs.toList.take (0 + 0) ++ [Value.slice none 0 0, Value.slice none 0 0] ++ cs.toList.drop (0 + 0 + 2)).toArray) := hst
      rw [e, hst']
      simp
    have hsize : ∃ cur : Array Value, cs = cur ∧ cur.size = cap * 2 := by
      rcases hownW.2 with ⟨hn, _⟩ | ⟨g', cap', cur, hv, _, hh, _, _, hs, _⟩
      · cases hn
      · cases hv
        rw [hg] at hh
        cases hh
        exact ⟨_, rfl, hs⟩
    obtain ⟨cur, rfl, hsz⟩ := hsize
    have hblk := setRow_block W g (cs.toList.take (0 + 0) ++ [Value.slice none 0 0, Value.slice none 0 0] ++ cs.toList.drop (0 + 0 + 2)).toArray _ _ _ hg
    have hgr := setRow_grown W g (cs.toList.take (0 + 0) ++ [Value.slice none 0 0, Value.slice none 0 0] ++ cs.toList.drop (0 + 0 + 2)).toArray
    have hk : Kept (fun k => k = g) w _ := ((Kept.of_ext hE).mono (fun _ _ h => h.elim)).trans ((Kept.of_grown hgr).mono (fun k _ h => by cases h; rfl))
    simp [relAct, dstAt, Act.put]
    rw [h7]
    have hl2 : (cs.toList.take (0 + 0) ++ [Value.slice none 0 0, Value.slice none 0 0] ++ cs.toList.drop (0 + 0 + 2)).toArray.size = cap * 2 := by simp; omega
    clear hF h7 hst hz hgr hg
    generalize W.setRow g (cs.toList.take (0 + 0) ++ [Value.slice none 0 0, Value.slice none 0 0] ++ cs.toList.drop (0 + 0 + 2)).toArray = W2 at *
    generalize (cs.toList.take (0 + 0) ++ [Value.slice none 0 0, Value.slice none 0 0] ++ cs.toList.drop (0 + 0 + 2)).toArray = ar at *
    go_wp2_with fail
    go_ret
    exact ⟨rfl, ⟨rfl, .inr ⟨g, cap, ar, rfl, hgB, hblk, Nat.zero_le _, hc2, hl2, by simp⟩⟩, hk⟩
theorem del_one (k : Lit) (d : DataW Unit) (hk : WideAt.IsKeyLit k) : (DataW.map [(k, d)]).del k = .map [] := by
  rw [DataW.del_eq]
  have : ChangeMaps.notKey k (k, d) = false := by
    have : k.sameKey k = true := by cases k <;> first | (simp [Lit.sameKey]; done) | (cases hk)
    unfold ChangeMaps.notKey
    simp [this]
  simp [ChangeMaps.delKey, this]
/-- a set's map is laid anew -/
theorem One.setSets {w w' : World} {B z bn bb x bs s : Nat} {ap n : List Lab} {t ttl : Int} {v : Value} {ds : List (Blob × Blob)} {f : Lab → Int} {N : Nat} (h : One w B z bn bb x bs s ap n t ttl v ds f N) (hg : w.grownBy w' (some bs)) :
    Zn w' B z bn bb ap ds.length (.map [(.string (zkey n), .lit (.int .i64 (x : Int)))]) f N ∧ (∃ A c, w'.heap[x]? = some (.cells #[.slice A n.length c, .map (some bs)] 115 (0, 0)) ∧ w'.ownsRow B 9 1 (.slice A n.length c) n.length ((lower n).map strV)) ∧ Turn B w w' := by
  have hk : Kept (fun k => k = bs) w w' := (Kept.of_grown hg).mono (fun k _ h => by cases h; rfl)
  have hZ : Zonal (fun k => k = bs) w := Zonal.map h.st.sets
  obtain ⟨A, ca, g1, g2⟩ := h.zn.blk
  obtain ⟨A', c', g5, g6⟩ := h.st.node
  exact ⟨h.zn.kept hk hZ (Ne.symm (ne_map h.st.sets g1)) (Ne.symm h.n1) (Ne.symm h.n2), ⟨A', c', cells_zonal g5 hk hZ zT_node, row_zonal g6 hk hZ zT_str⟩, Turn.zonal hk hZ h.size (fun k e => by rw [e]; exact h.st.h1)⟩
set_option maxRecDepth 100000 in
set_option maxHeartbeats 20000000 in
theorem Gone (w : World) (B z bn bb x bs s : Nat) (ap n : List Lab) (t ttl : Int) (v : Value) (f : Lab → Int) (N : Nat) (h : One w B z bn bb x bs s ap n t ttl v [] f N) (A : Option Addr) (m : List Lab) (cn : Nat) (hA : Cs w A (m.map strV)) (hm : Small m) (hmn : zkey m = zkey n) (hn : Small n) (hwt : (Lit.int .u16 t).wf = true)
    (hap1 : 1 ≤ ap.length) (hapn : ap.length ≤ n.length) (hN : N ≤ 100000) (hf : ∀ m, -1000000 ≤ f m ∧ f m ≤ 1000000) :
    Calls Tryz.prog 85 #[.pointer (some ⟨z, 0, none⟩), .slice A m.length cn, .int .u16 t] w fun e w' => e = .returned (.tuple #[]) ∧ (∃ N', N' ≤ N + n.length + 2 ∧ Zn w' B z bn bb ap 0 (.map []) (cnt f (lower n) (-1) (n.length - ap.length + 1)) N') ∧ Turn B w w' := by
  have HK := Lib.hid (ZKey A m cn w hA hm)
  rw [hmn] at HK
  have HO := Lib.hid h
  have hkl := keyOf_str (zkey n) (zkey_len hn)
  have hkt := keyOf_u16 t hwt
  clear h hA
  go_enter Tryz.func85, Tryz.ntmps85
  go_wp2_with fail
  refine HK.out.mono ?_
  rintro e w1 ⟨rfl, hb1⟩
  have hO1 := HO.out.ext hb1
  obtain ⟨Aa, ca, hzb, hza⟩ := hO1.zn.blk
  obtain ⟨z0, z1, z2, z3, zf⟩ := cells4 hzb
  obtain ⟨An, cnn, hxb, hxn⟩ := hO1.st.node
  obtain ⟨x0, x1, xf⟩ := cells2 hxb
  obtain ⟨s0, s1, sf⟩ := cells2 hO1.st.set
  obtain ⟨Av, cv, rfl, _⟩ := own_form hO1.st.row
  have hl1 := look_ptr hO1.zn.nodes keyS Tryz.underlying97 rfl hkl (at_one (.string (zkey n)) (key_lit _) _ _ : _ = ptrD (some x))
  have hl2 := look_ptr hO1.st.sets keyT Tryz.underlying113 rfl hkt (at_one (.int .u16 t) (key_int _ _) _ _ : _ = ptrD (some s))
  replace hl1 : (Instr.lookup 97 (.map (some bn)) (strV (zkey n)) false).run Tryz.prog w1 = .ok (.pointer (some ⟨x, 0, none⟩)) w1 := hl1
  replace hl2 : (Instr.lookup 113 (.map (some bs)) (.int .u16 t) false).run Tryz.prog w1 = .ok (.pointer (some ⟨s, 0, none⟩)) w1 := hl2
  have hS1 := hO1.st.sets
  have tok1 : True := trivial
  have tok2 : True := trivial
  have HF : Hid (∀ m, -1000000 ≤ f m ∧ f m ≤ 1000000) := Lib.hid hf
  have HHl := Lib.hid hn
  have hT1 : Turn B w w1 := Turn.of_ext hb1 (Nat.le_trans HO.out.st.h2 (Nat.le_of_lt (lt_block HO.out.st.set)))
  clear hf
  go_wp2_with (first
    | (at_delete; have _t := tok1; refine wpList_delete_own _ rfl _ _ 113 24 rfl 104 keyT Tryz.underlying113 ptrR bs 9 _ rfl hS1 (.int .u16 t) (.int .u16 t) rfl hkt ?_; intro w2 hown2 ht2; clear tok1; rw [del_one _ _ (key_int _ _)] at hown2; obtain ⟨hz2, ⟨A2, c2, hx2, hxn2⟩, hT2⟩ := hO1.setSets ht2.grown; obtain ⟨x20, x21, _⟩ := cells2 hx2; have hN2 := hz2.nodes; obtain ⟨A2z, c2z, hzb2, _⟩ := hz2.blk; obtain ⟨_, z21, _⟩ := cells4 hzb2)
    | (at_len; refine wpList_len_own _ rfl _ 113 rfl 24 104 Tryz.underlying113 _ bs 9 _ rfl hown2 ?_; simp only [Maps.size, List.length_nil])
    | (at_delete; have _t := tok2; refine wpList_delete_own _ rfl _ _ 97 9 rfl 112 keyS Tryz.underlying97 ptrR bn N _ rfl hN2 (strV (zkey n)) (.string (zkey n)) rfl hkl ?_; intro w3 hown3 ht3; clear tok2; rw [del_one _ _ (key_lit _)] at hown3; have HP3 := Lib.hid (hz2.setNodes ht3.grown hown3 (Nat.le_refl N)); have hx3 := cells_zonal hx2 HP3.out.2.1 HP3.out.2.2.1 zT_node; obtain ⟨x30, x31, _⟩ := cells2 hx3))
  obtain ⟨hz3, hk3, hZ3, hT3⟩ := HP3.out
  have hxn3 := row_zonal hxn2 hk3 hZ3 zT_str
  obtain ⟨A3, c3, hzb3, _⟩ := hz3.blk
  obtain ⟨E3, hE3, hs3⟩ := hz3.below
  obtain ⟨hq1, hq2⟩ := own_caps hxn3
  have HCt := Lib.hid (Counted z bn bb (0, 0) A3 ap.length c3 _ A2 (lower n) c2 (-1) N E3 f w3 hzb3 hE3 hs3 (by omega) HF.out (.inr rfl) (cs_own hxn3).2 HHl.out.lower (by rw [lower_len]; exact hq1) hq2 (by rw [lower_len]; exact hapn) hap1)
  rw [lower_len] at HCt
  refine HCt.out.mono ?_
  rintro e w4 ⟨rfl, hk4, E4, N4, hE4, hN4, hs4⟩
  have hP4 := hz3.setBelow (N' := N + n.length + 2) hk4 (hE4.mono (by omega)) hs4 (by omega)
  have hF1 := hP4.1
  have hF2 := ((hT1.trans hT2).trans hT3).trans hP4.2.2
  clear hz2 hz3 hP4 HCt HP3 hk3 hk4 hE4 hE3 hs4 hs3
  go_wp2_with fail
  go_end0
  exact ⟨rfl, ⟨_, Nat.le_refl _, hF1⟩, hF2⟩
/-- the set's data are laid anew -/
theorem One.lay {w W : World} {B z bn bb x bs s : Nat} {ap n : List Lab} {t ttl : Int} {v v2 : Value} {ds : List (Blob × Blob)} {f : Lab → Int} {N : Nat} {ds' : List (Blob × Blob)} (h : One w B z bn bb x bs s ap n t ttl v ds f N) (hk : Kept (fun k => k = s ∨ some k = v.ownBlock) w W)
    (hs : W.heap[s]? = some (.cells #[.int .u32 ttl, v2] 110 (0, 0))) (hr : W.ownsRow B 119 2 v2 ds'.length (datC ds')) (h1 : DatOwn W B ds') :
    One (W.setCell ⟨z, 3, none⟩ (.int .i64 ((ds'.length : Nat) : Int))) B z bn bb x bs s ap n t ttl v2 ds' f N ∧ Turn B w (W.setCell ⟨z, 3, none⟩ (.int .i64 ((ds'.length : Nat) : Int))) := by
  have hZ : Zonal (fun k => k = s ∨ some k = v.ownBlock) w := by
    intro k hk2
    rcases hk2 with e | e
    · exact Zonal.cells h.st.set (.inr (.inl rfl)) k e
    · exact Zonal.row h.st.row k e
  obtain ⟨A, ca, g1, g2⟩ := h.zn.blk
  obtain ⟨A', c', g5, g6⟩ := h.st.node
  obtain ⟨E, g3, g4⟩ := h.zn.below
  have hrow : ∀ k, some k = v.ownBlock → ∃ cs, w.heap[k]? = some (.cells cs 119 (0, 0)) ∧ B ≤ k := fun k e => row_block h.st.row e.symm
  have hnz : ¬ (z = s ∨ some z = v.ownBlock) := by
    rintro (e | e)
    · exact ne_cells g1 h.st.set (by decide) e
    · obtain ⟨cs, e1, _⟩ := hrow z e
      exact ne_cells g1 e1 (by decide) rfl
  have hnm : ∀ {k : TypeId} {R : Value → Option (DataW Unit × List MemPlace)} {b n : Nat} {D : DataW Unit}, w.ownsMap Tryz.prog k R b n D → ¬ (b = s ∨ some b = v.ownBlock) := by
    rintro k R b n D hm (e | e)
    · exact ne_map hm h.st.set e
    · obtain ⟨cs, e1, _⟩ := hrow b e
      exact ne_map hm e1 rfl
  have hzn := h.zn.kept hk hZ hnz (hnm h.zn.nodes) (hnm g3)
  have hT : Turn B w W := Turn.zonal hk hZ h.size (fun k e => by
    rcases e with e | e
    · rw [e]; exact h.st.h2
    · exact (hrow k e).choose_spec.2)
  obtain ⟨q1, q2, q3, q4⟩ := hzn.setN (c' := ((ds'.length : Nat) : Int))
  have hsz := (heap_set (i := 3) (v := .int .i64 ((ds'.length : Nat) : Int)) ((hk.block z (lt_block g1) hnz).trans g1))
  have hzW := (hk.block z (lt_block g1) hnz).trans g1
  have hms := ownsMap_block h.st.sets (hk.block _ h.st.sets.lt (hnm h.st.sets))
  have hd := h1.zonal q2 q3
  refine ⟨⟨q1, ⟨⟨A', c', cells_zonal (cells_zonal g5 hk hZ zT_node) q2 q3 zT_node, row_zonal (row_zonal g6 hk hZ zT_str) q2 q3 zT_str⟩, ownsMap_block hms (q2.block _ hms.lt (ne_map hms hzW)), (q2.block s (lt_block hs) (ne_cells hs hzW (by decide))).trans hs, ?_, hd, h.st.h1, h.st.h2⟩, h.n1, h.n2⟩, hT.trans q4⟩
  refine Kept.row hr q2 fun k hkb e => ?_
  obtain ⟨cs, e1, _⟩ := row_block hr hkb
  exact ne_cells e1 hzW (by decide) e
set_option maxRecDepth 100000 in
set_option maxHeartbeats 20000000 in
theorem DropOne (w : World) (B z bn bb x bs s : Nat) (ap n : List Lab) (t ttl : Int) (v : Value) (d0 : Blob × Blob) (f : Lab → Int) (N : Nat) (h : One w B z bn bb x bs s ap n t ttl v [d0] f N) (An : Option Addr) (cn : Nat) (Ad : Option Addr) (d : Lab) (cd : Nat) (cl ttl2 : Int) (hAn : w.ownsRow 0 9 1 (.slice An n.length cn) n.length (n.map strV)) (hAd : w.ownsRow 0 5 1 (.slice Ad d.length cd) d.length (d.map byteV)) (hr : Rec n ap t d cn cd)
    (hp : FindAt [d0] (canonD t d) 0) (hhit : hitB [d0] (canonD t d) 0 = true) (hap1 : 1 ≤ ap.length) (hapn : ap.length ≤ n.length) (hN : N ≤ 100000) (hf : ∀ m, -1000000 ≤ f m ∧ f m ≤ 1000000) :
    Calls Tryz.prog 39 #[.pointer (some ⟨z, 0, none⟩), .agg #[.slice An n.length cn, .int .u16 t, .int .u16 cl, .int .u32 ttl2, .slice Ad d.length cd]] w fun e w' => e = .returned (.bool true) ∧ (∃ N', N' ≤ N + n.length + 2 ∧ Zn w' B z bn bb ap 0 (.map []) (cnt f (lower n) (-1) (n.length - ap.length + 1)) N') ∧ Turn B w w' := by
  have hb1 : Below w.heap.size w (w.alloc (.cells #[.slice An n.length cn, .int .u16 t, .int .u16 cl, .int .u32 ttl2, .slice Ad d.length cd] 51)) := (Below.refl _ _).alloc (Nat.le_refl _) _
  have hq1 := heap_alloc_new w (.cells #[.slice An n.length cn, .int .u16 t, .int .u16 cl, .int .u32 ttl2, .slice Ad d.length cd] 51)
  have hO1 := h.ext hb1
  have hAn1 := own_below hAn hb1
  have hAd1 := own_below hAd hb1
  have hT1 : Turn B w _ := Turn.of_ext hb1 (Nat.le_trans h.st.h2 (Nat.le_of_lt (lt_block h.st.set)))
  obtain ⟨hr1, hr2, hr3, hr4, hr5, hr6, hr7, hr8, hr9, hr10, hr11⟩ := hr
  have hzs : (w.alloc (.cells #[.slice An n.length cn, .int .u16 t, .int .u16 cl, .int .u32 ttl2, .slice Ad d.length cd] 51)).heap.size = w.heap.size + 1 := by simp
  clear h hAn hAd
  go_enter Tryz.func39, Tryz.ntmps39
  go_wp2_with fail
  generalize w.alloc (.cells #[.slice An n.length cn, .int .u16 t, .int .u16 cl, .int .u32 ttl2, .slice Ad d.length cd] 51) = w1 at *
  obtain ⟨Aa, ca, hzb, hza⟩ := hO1.zn.blk
  have hzl := lt_block hzb
  obtain ⟨z0, z1, z2, z3, zf⟩ := cells4 hzb
  have hsl := lt_block hO1.st.set
  obtain ⟨An2, cn2, hxb, hxn⟩ := hO1.st.node
  have hxl := lt_block hxb
  obtain ⟨x0, x1, xf⟩ := cells2 hxb
  have hv : ∃ g c, v = .slice (some ⟨g, 0, none⟩) 1 c := by
    rcases hO1.st.row.2 with ⟨_, h0⟩ | ⟨g, c, cur, h1, _⟩
    · exact absurd h0 (by simp)
    · exact ⟨g, c, h1⟩
  obtain ⟨g, cv, rfl⟩ := hv
  have HAt : Hid (Calls Tryz.prog 69 #[.pointer (some ⟨z, 0, none⟩), .slice An n.length cn, .int .u16 t] w1 fun e w' => e = .returned (.pointer (some ⟨s, 0, none⟩)) ∧ Below w1.heap.size w1 w') := Lib.hid (ZAt z bn An n cn t N 9 _ _ (some x) (some s) w1 z1 hzl hO1.zn.nodes (cs_own hAn1).2 hr1 hr5 (at_one _ (key_lit _) _ _) (fun x' hx' => by
    cases hx'
    exact ⟨hxl, bs, x1, hO1.st.sets, at_one _ (key_int _ _) _ _⟩))
  refine HAt.out.mono ?_
  rintro e w2 ⟨rfl, hb2⟩
  have hO2 := hO1.ext hb2
  have hq2 := (hb2.block _ (lt_block hq1)).trans hq1
  have hAn2 := own_below hAn1 hb2
  have hAd2 := own_below hAd1 hb2
  have hT2 := hT1.trans (Turn.of_ext hb2 hO1.size)
  obtain ⟨k0, k1, k2, k3, k4, _⟩ := cells5 hq2
  have HCa := Lib.hid (ZCanon t hr4 Ad d cd w2 (cs_own hAd2).2 hr7 hr10 hr11)
  clear HAt hO1 hq1 hAn1 hAd1 hT1 hzb hza z0 z1 z2 z3 zf hxb hxn x0 x1 xf
  go_wp2_with fail
  refine HCa.out.mono ?_
  rintro e w3 ⟨hb3, vc, rfl, hown3⟩
  obtain ⟨Ac, cc, rfl, _, hcc⟩ := Cs.of_own hown3
  have hO3 := hO2.ext hb3
  have hq3 := (hb3.block _ (lt_block hq2)).trans hq2
  have hAn3 := own_below hAn2 hb3
  have hT3 := hT2.trans (Turn.of_ext hb3 hO2.size)
  obtain ⟨s0, s1, sf⟩ := cells2 hO3.st.set
  have HFi := Lib.hid (ZFind s _ Ac [d0] cv (canonD t d) cc 0 w3 s1 (cs_own2 hO3.st.row) hO3.st.dat.ok hcc (by simp) hp)
  rw [hhit] at HFi
  clear k0 k1 k2 k3 k4 hO2 hq2 hAn2 hAd2 hT2 HCa hown3 hcc s0 s1 sf hb2 hb3
  go_wp2_with fail
  refine HFi.out.mono ?_
  rintro e w4 ⟨rfl, hb4⟩
  have hO4 := hO3.ext hb4
  have hq4 := (hb4.block _ (lt_block hq3)).trans hq3
  have hAn4 := own_below hAn3 hb4
  have hT4 := hT3.trans (Turn.of_ext hb4 hO3.size)
  obtain ⟨s0, s1, sf⟩ := cells2 hO4.st.set
  have HDe := Lib.hid (DeleteOne w4 B g cv _ _ hO4.st.row)
  clear hO3 hq3 hAn3 hT3 HFi hb4
  go_wp2_with fail
  refine HDe.out.mono ?_
  rintro e w5 ⟨rfl, hrow5, hk5⟩
  obtain ⟨csg, hg4, hgB⟩ := row_block hO4.st.row (b := g) rfl
  obtain ⟨Az, cz, hz4, _⟩ := hO4.zn.blk
  have hgs : s ≠ g := ne_cells hO4.st.set hg4 (by decide)
  have hgz : z ≠ g := ne_cells hz4 hg4 (by decide)
  have hzs' : z ≠ s := ne_cells hz4 hO4.st.set (by decide)
  have hgr : w.heap.size ≠ g := ne_cells hq4 hg4 (by decide)
  have hrs : w.heap.size ≠ s := ne_cells hq4 hO4.st.set (by decide)
  have hrz : w.heap.size ≠ z := ne_cells hq4 hz4 (by decide)
  have hs5 := (hk5.block s (lt_block hO4.st.set) hgs).trans hO4.st.set
  have hz5 := (hk5.block z (lt_block hz4) hgz).trans hz4
  have hq5 := (hk5.block _ (lt_block hq4) hgr).trans hq4
  have hs6 := heap_set (i := 1) (v := .slice (some ⟨g, 0, none⟩) 0 cv) hs5
  have hk6 : Kept (fun k => k = s ∨ some k = (Value.slice (some ⟨g, 0, none⟩) 1 cv).ownBlock) w4 (w5.setCell ⟨s, 1, none⟩ (.slice (some ⟨g, 0, none⟩) 0 cv)) :=
    (hk5.mono (fun k _ e => .inr (by rw [e]; rfl))).setCell (fun _ => .inl rfl) _
  have hks : Kept (fun k => k = s) w5 (w5.setCell ⟨s, 1, none⟩ (.slice (some ⟨g, 0, none⟩) 0 cv)) := (Kept.refl (fun k => k = s) w5).setCell (fun _ => rfl) _
  have hr6 := Kept.row hrow5 hks (fun k hk e => by cases hk; exact hgs e.symm)
  have hz6 := (hks.block z (lt_block hz5) hzs').trans hz5
  have hq6 := (hks.block _ (lt_block hq5) hrs).trans hq5
  obtain ⟨hO7, hT7⟩ := hO4.lay hk6 hs6 (ds' := []) hr6 (fun d hd => by cases hd)
  have hkz : Kept (fun k => k = z) (w5.setCell ⟨s, 1, none⟩ (.slice (some ⟨g, 0, none⟩) 0 cv)) ((w5.setCell ⟨s, 1, none⟩ (.slice (some ⟨g, 0, none⟩) 0 cv)).setCell ⟨z, 3, none⟩ (.int .i64 0)) := (Kept.refl (fun k => k = z) _).setCell (fun _ => rfl) _
  have hq7 := (hkz.block _ (lt_block hq6) hrz).trans hq6
  have hT07 := hT4.trans hT7
  have hAn7 := (cs_own (hT7.row hAn4 zT_str)).2
  have HGo := Lib.hid (Gone _ B z bn bb x bs s ap n t ttl _ f N hO7 An n cn hAn7 hr1 rfl hr1 hr5 hap1 hapn hN hf)
  obtain ⟨t0, t1, tf⟩ := cells2 hs5
  obtain ⟨_, _, _, y3, yf⟩ := cells4 hz6
  obtain ⟨k0, k1, k2, k3, k4, _⟩ := cells5 hq7
  have HT7 := Lib.hid hT07
  clear hO7 hT7 hT07 hkz hq7 hks hr6 hk6 hs6 hq6 hs5 hz5 hq5 hk5 hrow5 hO4 hq4 hAn4 hT4 s0 s1 sf hg4 hz4 hAn7 HDe
  go_wp2_with fail
  refine HGo.out.mono ?_
  rintro e w8 ⟨rfl, hZ8, hT8⟩
  have hF2 := HT7.out.trans hT8
  clear HGo k0 k1 k2 k3 k4 y3 yf t0 t1 tf hT8
  go_wp2_with fail
  go_ret
  exact ⟨rfl, hZ8, hF2⟩
end Nm
end Go.Proofs.YtkeimgamjnpcbaaGreat
