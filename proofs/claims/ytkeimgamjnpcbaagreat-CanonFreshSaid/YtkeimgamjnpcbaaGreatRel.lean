/-
  A region that draws its order: whatever the order, each operation leaves what is said of it, while the operations that it waits for stand.
  One obligation an operation, at the lexical frame; at the end all that was said holds. No program in sight.
-/
import Derived.Orders
import Derived.Below
import Derived.Laws.Tables
namespace Go.Proofs.YtkeimgamjnpcbaaGreat
open Go.RowKit
set_option linter.unusedVariables false

section
variable {P : Program} {ops : Array Oper}

def dstAt (ops : Array Oper) (i : Nat) : Option Tmp := (ops[i]?).bind (·.dst)
/-- the frame with the values of the operations that are done, of the first n -/
def relAct (ops : Array Oper) (a0 : Act) (L : Nat → Bool) (vals : Nat → Value) : Nat → Act
  | 0 => a0
  | n + 1 => if L n then (relAct ops a0 L vals n).put (dstAt ops n) (vals n) else relAct ops a0 L vals n

theorem relAct_congr {a0 : Act} {L L' : Nat → Bool} {vals vals' : Nat → Value} : ∀ n, (∀ j, j < n → L j = L' j ∧ (L j = true → vals j = vals' j)) → relAct ops a0 L vals n = relAct ops a0 L' vals' n
  | 0, _ => rfl
  | n + 1, h => by
    have ih := relAct_congr (a0 := a0) n (fun j hj => h j (by omega))
    obtain ⟨h1, h2⟩ := h n (by omega)
    unfold relAct
    rw [ih, ← h1]
    cases hl : L n
    · rfl
    · rw [h2 hl]
theorem put_other {a : Act} {d : Option Tmp} {v : Value} {t : Tmp} (h : d ≠ some t) : (a.put d v).tmps.getD t undef = a.tmps.getD t undef := by
  cases d with
  | none => rfl
  | some d =>
    have hne : d ≠ t := fun e => h (by rw [e])
    simp [Act.put, Array.getElem?_setIfInBounds_ne hne]
theorem put_other? {a : Act} {d : Option Tmp} {v : Value} {t : Tmp} (h : d ≠ some t) : (a.put d v).tmps[t]? = a.tmps[t]? := by
  cases d with
  | none => rfl
  | some d =>
    have hne : d ≠ t := fun e => h (by rw [e])
    simp [Act.put, Array.getElem?_setIfInBounds_ne hne]
/-- a slot that none of the done ones writes -/
theorem relAct_free {a0 : Act} {L : Nat → Bool} {vals : Nat → Value} {t : Tmp} : ∀ n, (∀ j, j < n → L j = true → dstAt ops j ≠ some t) → (relAct ops a0 L vals n).tmps[t]? = a0.tmps[t]?
  | 0, _ => rfl
  | n + 1, h => by
    have ih := relAct_free (a0 := a0) (vals := vals) n (fun j hj => h j (by omega))
    unfold relAct
    cases hl : L n
    · exact ih
    · simp only [if_true]
      rw [put_other? (h n (by omega) hl), ih]
theorem relAct_size {a0 : Act} {L : Nat → Bool} {vals : Nat → Value} : ∀ n, (relAct ops a0 L vals n).tmps.size = a0.tmps.size
  | 0 => rfl
  | n + 1 => by
    have ih := relAct_size (a0 := a0) (L := L) (vals := vals) n
    unfold relAct
    cases hl : L n
    · exact ih
    · simp only [if_true]
      cases hd : dstAt ops n with
      | none => exact ih
      | some d => simp [Act.put, ih]
/-- a slot that a done one writes, and none but it -/
theorem relAct_at {a0 : Act} {L : Nat → Bool} {vals : Nat → Value} {t : Tmp} {k : Nat} (hk : dstAt ops k = some t) (hu : ∀ j, dstAt ops j = some t → j = k) :
    ∀ n, k < n → L k = true → (relAct ops a0 L vals n).tmps[t]? = if t < a0.tmps.size then some (vals k) else none
  | 0, h, _ => by omega
  | n + 1, h, hl => by
    unfold relAct
    by_cases e : n = k
    · subst e
      rw [hl, hk]
      simp only [if_true, Act.put]
      rw [Array.getElem?_setIfInBounds_self, relAct_size]
    · have ih := relAct_at (a0 := a0) (vals := vals) hk hu n (by omega) hl
      cases hn : L n
      · exact ih
      · simp only [if_true]
        rw [put_other? (fun hd => e (hu n hd)), ih]

/-- the static side: an operation looks at slots of those alone that it waits for (or of none of the region's), waits for earlier ones alone, writes a slot of its own; it is no select -/
def relAt (ops : Array Oper) (i : Nat) (o : Oper) : Bool :=
  (match o.op with | .select _ _ => false | _ => true) &&
  (o.after.all fun e => !Region.binds .any e || decide (e.on < i)) &&
  ((List.range ops.size).all fun j => match dstAt ops j with
    | none => true
    | some d => (j == i || o.dst != some d) && (!(o.looksAt ops).contains d || (decide (j < i) && o.after.any fun e => e.on == j && Region.binds .any e)))
def relB (ops : Array Oper) : Bool := (List.range ops.size).all fun i => match ops[i]? with
  | none => true
  | some o => relAt ops i o
/-- an edge along which a value is handed on -/
def rdB (e : Edge) : Bool := match e.ground with
  | .data => true
  | .guard => true
  | _ => false
def bindD (e : Edge) : Bool := Region.binds .any e && rdB e
theorem bindD_binds {e : Edge} (h : bindD e = true) : Region.binds .any e = true := by unfold bindD at h; rw [Bool.and_eq_true] at h; exact h.1
def killsB (ops : Array Oper) (kills : Nat → Nat → Bool) : Bool := (List.range ops.size).all fun i => (List.range ops.size).all fun j => !kills i j || (List.range ops.size).all fun k => match ops[k]? with
  | none => true
  | some o => k == i || o.after.all fun e => !(bindD e) || e.on != j

theorem relB_spec (h : relB ops = true) {i : Nat} {o : Oper} (hi : ops[i]? = some o) :
    (∀ cs b, o.op ≠ .select cs b) ∧ (∀ e ∈ o.after, Region.binds .any e = true → e.on < i) ∧
    (∀ j d, dstAt ops j = some d → (j ≠ i → o.dst ≠ some d) ∧ (d ∈ o.looksAt ops → j < i ∧ ∃ e ∈ o.after, e.on = j ∧ Region.binds .any e = true)) := by
  have hlt : i < ops.size := (Array.getElem?_eq_some_iff.1 hi).1
  have h1 := List.all_eq_true.1 h i (List.mem_range.2 hlt)
  rw [hi] at h1
  simp only [relAt, Bool.and_eq_true] at h1
  obtain ⟨⟨h2, h3⟩, h4⟩ := h1
  refine ⟨?_, ?_, ?_⟩
  · intro cs b he
    rw [he] at h2
    cases h2
  · intro e he hb
    have := (Array.all_eq_true_iff_forall_mem.1 h3) e he
    rw [hb] at this
    simpa using this
  · intro j d hj
    have hjl : j < ops.size := by
      rcases Nat.lt_or_ge j ops.size with g | g
      · exact g
      · unfold dstAt at hj; rw [Array.getElem?_eq_none g] at hj; cases hj
    have h5 := List.all_eq_true.1 h4 j (List.mem_range.2 hjl)
    rw [hj] at h5
    simp only [Bool.and_eq_true, Bool.or_eq_true, beq_iff_eq, bne_iff_ne, ne_eq, Bool.not_eq_true', decide_eq_true_eq] at h5
    obtain ⟨h6, h7⟩ := h5
    refine ⟨fun hne => h6.resolve_left hne, fun hd => ?_⟩
    rcases h7 with h7 | ⟨h7, h8⟩
    · have : (o.looksAt ops).contains d = true := by simpa using hd
      rw [this] at h7; cases h7
    · refine ⟨h7, ?_⟩
      rw [Array.any_eq_true] at h8
      obtain ⟨x, hx, h9⟩ := h8
      simp only [Bool.and_eq_true, beq_iff_eq] at h9
      exact ⟨_, Array.getElem_mem hx, h9.1, h9.2⟩

/-- what an operation leaves -/
def yieldUpon (P : Program) (R : Value → World → Prop) : Result Next → Prop
  | .ok (.value u) W => R u W
  | .ok .skip W => R undef W
  | .ok (.enter f args) W => Calls P f args W fun e W' => ∃ v, e = .returned v ∧ R v W'
  | _ => False
structure opYield (P : Program) (ops : Array Oper) (o : Oper) (a : Act) (W : World) (R : Value → World → Prop) : Prop where
  out : if Region.wanted o (yielded ops a.tmps) = true then yieldUpon P R ((execOp a.eval o).run P W) else R undef W
theorem opYield_def (P : Program) (ops : Array Oper) (o : Oper) (a : Act) (W : World) (R : Value → World → Prop) : opYield P ops o a W R = (if Region.wanted o (yielded ops a.tmps) = true then yieldUpon P R ((execOp a.eval o).run P W) else R undef W) :=
  propext ⟨fun h => h.out, fun h => ⟨h⟩⟩

theorem wpOp_of_yield {i : Nat} {o : Oper} {a : Act} {W : World} {R : Value → World → Prop} {K : Act → World → Prop} {Q : Exit → Act → World → Prop} (hi : ops[i]? = some o)
    (h : opYield P ops o a W R) (hK : ∀ v W', R v W' → K (a.put o.dst v) W') : wpOp P ops Q i K a W := by
  rw [opYield_def] at h
  unfold wpOp
  simp only [hi]
  split
  · rename_i hw
    rw [if_pos hw] at h
    refine .inl ?_
    unfold Oper.wp
    generalize (execOp a.eval o).run P W = r at *
    cases r with
    | ok n w' =>
      cases n <;> simp only [yieldUpon] at h <;> simp only [Oper.upon]
      case value u => exact hK _ _ h
      case skip => exact hK _ _ h
      case enter f args => exact h.mono fun e w'' ⟨v, he, hr⟩ => by subst he; exact hK _ _ hr
    | halt x w' => simp only [yieldUpon] at h
  · rename_i hw
    rw [if_neg hw] at h
    exact hK _ _ h

/-- a store of a whole struct -/
theorem yield_store {o : Oper} {a : Act} {W : World} {R : Value → World → Prop} {ty : TypeId} {x y : Operand} {g : Nat} {cells : Array Value} {t : TypeId} {old : Array Value} (hgd : o.guard = none) (ho : o.op = .store ty x y)
    (hx : a.eval x = .pointer (some ⟨g, 0, none⟩)) (hy : a.eval y = .agg cells) (hg : W.heap[g]? = some (.cells old t (0, 0))) (hi : (P.info? ty).map (·.size) = some cells.size)
    (hold : old.size = cells.size) (h1 : cells.all (·.oneCell') = true) (h : R undef (W.setRow g cells)) : opYield P ops o a W R := by
  have hw : Region.wanted o (yielded ops a.tmps) = true := by simp [Region.wanted, hgd]
  rw [opYield_def]
  rw [if_pos hw]
  unfold execOp
  simp only [ho, hx, hy, Instr.storeAt, Instr.sureAddr, Sem.run_bind, Sem.run_pure, Result.andThen_ok, run_storeVar_row W g t ty old cells hg hi hold h1]
  exact h
theorem setRow_block (w : World) (g : Nat) (cells old : Array Value) (t : TypeId) (fr : Nat × Nat) (h : w.heap[g]? = some (.cells old t fr)) : (w.setRow g cells).heap[g]? = some (.cells cells t fr) := by
  simp [World.setRow, Array.getElem?_modify, h]
theorem setRow_grown (w : World) (g : Nat) (cells : Array Value) : w.grownBy (w.setRow g cells) (some g) :=
  ⟨rfl, rfl, rfl, by simp [World.setRow], fun k hk hne => by
    have : g ≠ k := fun e => hne (by rw [e])
    simp [World.setRow, Array.getElem?_modify, this]⟩
theorem opYield_congr {o : Oper} {a b : Act} {W : World} {R : Value → World → Prop} (hs : ∀ cs x, o.op ≠ .select cs x) (h : ∀ t ∈ o.looksAt ops, a.tmps[t]? = b.tmps[t]?)
    (hy : opYield P ops o a W R) : opYield P ops o b W R := by
  have he : execOp a.eval o = execOp b.eval o := execOp_congr o hs fun x hx => by
    cases x with
    | tmp t =>
      have : t ∈ o.looksAt ops := List.mem_append_left _ (List.mem_filterMap.2 ⟨.tmp t, by simpa using hx, rfl⟩)
      have h1 := h t this
      simp only [Act.eval, Array.getD_eq_getD_getElem?, h1]
    | _ => rfl
  have hw : Region.wanted o (yielded ops a.tmps) = Region.wanted o (yielded ops b.tmps) := by
    unfold Region.wanted
    cases hg : o.guard with
    | none => rfl
    | some gw =>
      obtain ⟨g, want⟩ := gw
      have hyy : yielded ops a.tmps g = yielded ops b.tmps g := by
        unfold yielded
        cases ht : (ops[g]?).bind (·.dst) with
        | none => rfl
        | some t =>
          have : t ∈ o.looksAt ops := by simp [Oper.looksAt, hg, ht]
          simp only [Option.bind_some, h t this]
      simp only [hyy]
  rw [opYield_def] at *
  rw [← hw, ← he]
  exact hy

theorem put_relAct {a0 : Act} {L : Nat → Bool} {vals : Nat → Value} {i : Nat} {v : Value} (hi : L i = false) (hd : ∀ j d, j ≠ i → dstAt ops j = some d → dstAt ops i ≠ some d) :
    ∀ n, i < n → (relAct ops a0 L vals n).put (dstAt ops i) v = relAct ops a0 (fun j => if j = i then true else L j) (fun j => if j = i then v else vals j) n
  | 0, h => by omega
  | n + 1, h => by
    by_cases e : n = i
    · subst e
      have hc := relAct_congr (ops := ops) (a0 := a0) (L := L) (L' := fun j => if j = n then true else L j) (vals := vals) (vals' := fun j => if j = n then v else vals j) n
        (fun j hj => ⟨by rw [if_neg (by omega)], fun _ => by rw [if_neg (by omega)]⟩)
      conv => lhs; unfold relAct
      conv => rhs; unfold relAct
      rw [hi, ← hc]
      simp
    · have ih := put_relAct (a0 := a0) (vals := vals) (v := v) hi hd n (by omega)
      conv => lhs; unfold relAct
      conv => rhs; unfold relAct
      rw [if_neg e, if_neg e, ← ih]
      cases hn : L n
      · rfl
      · simp only [if_true]
        refine (Act.put_comm _ _ _ ?_).symm
        intro d hid hnd
        exact hd n d e hnd hid

theorem count_set (listed : Array Bool) (i : Nat) (h : listed[i]? = some false) : (listed.setIfInBounds i true).toList.count false + 1 = listed.toList.count false := by
  have hlt : i < listed.size := (Array.getElem?_eq_some_iff.1 h).1
  have hv : listed.toList[i]'(by simpa using hlt) = false := by
    have := (Array.getElem?_eq_some_iff.1 h).2
    simpa using this
  have e := List.take_append_drop i listed.toList
  rw [List.drop_eq_getElem_cons (by simpa using hlt), hv] at e
  rw [Array.toList_setIfInBounds]
  conv => rhs; rw [← e]
  have e2 : listed.toList.set i true = listed.toList.take i ++ true :: listed.toList.drop (i + 1) := by
    conv => lhs; rw [← e]
    rw [List.set_append_right _ _ (by simp; omega)]
    rw [List.length_take, show i - min i listed.toList.length = 0 from by simp; omega, List.set_cons_zero]
  rw [e2]
  simp only [List.count_append, List.count_cons]
  simp
  omega

theorem none_listed (n j : Nat) : (Array.replicate n false).getD j false = false := by
  rw [Array.getD_eq_getD_getElem?, Array.getElem?_replicate]
  split <;> rfl
/-- does operation j wait for i? -/
def waitsB (ops : Array Oper) (j i : Nat) : Bool := match ops[j]? with
  | none => false
  | some o => o.after.any fun e => e.on == i && Region.binds .any e
/-- WHATEVER THE ORDER; I0: what holds when the region begins, till an operation that uses it up (kills0) -/
theorem wp_region_rel0 {id : Nat} {Q : Exit → Act → World → Prop} {a0 : Act} {w0 : World} (hm : P.follows .mixedOrders = true) (hB : relB ops = true)
    (kills : Nat → Nat → Bool) (hkB : killsB ops kills = true) (T : Nat → World → World → Prop) (C : World → Prop) (R : Nat → Value → World → Prop)
    (I0 : World → Prop) (kills0 : Nat → Bool) (hI0 : I0 { w0 with drawn := w0.drawn + 1 }) (hIst : ∀ i W W', kills0 i = false → C W → I0 W → T i W W' → I0 W')
    (hC0 : C { w0 with drawn := w0.drawn + 1 }) (hC : ∀ i W W', C W → T i W W' → C W')
    (hR : ∀ i j v W W', i ≠ j → kills i j = false → waitsB ops j i = false → C W → R j v W → T i W W' → R j v W')
    (step : ∀ i o, ops[i]? = some o → ∀ vals W, C W → (∀ e ∈ o.after, bindD e = true → R e.on (vals e.on) W) → ((∀ k, k < ops.size → kills0 k = true → k = i ∨ waitsB ops k i = true) → I0 W) →
      opYield P ops o (relAct ops a0 (fun _ => true) vals i) W (fun v W' => T i W W' ∧ R i v W'))
    (hend : ∀ vals W, C W → (∀ j, j < ops.size → (∀ i, i < ops.size → kills i j = false) → R j (vals j) W) → Q .normal (relAct ops a0 (fun _ => true) vals ops.size) W) :
    (Code.region id ops true).wp P Q a0 w0 := by
  have main : ∀ (fuel : Nat) (listed : Array Bool) (vals : Nat → Value) (W : World), listed.size = ops.size → listed.toList.count false ≤ fuel →
      (∀ j o, ops[j]? = some o → listed.getD j false = true → ∀ e ∈ o.after, Region.binds .any e = true → listed.getD e.on false = true) → C W →
      (∀ j, listed.getD j false = true → (∀ i, listed.getD i false = true → kills i j = false) → R j (vals j) W) → ((∀ k, listed.getD k false = true → kills0 k = false) → I0 W) →
      wpAny P .any ops Q fuel listed (relAct ops a0 (fun j => listed.getD j false) vals ops.size) W := by
    intro fuel
    have fin : ∀ (listed : Array Bool) (vals : Nat → Value) (W : World), listed.size = ops.size → Region.ready .any ops listed = [] → C W →
        (∀ j, listed.getD j false = true → (∀ i, listed.getD i false = true → kills i j = false) → R j (vals j) W) → Q .normal (relAct ops a0 (fun j => listed.getD j false) vals ops.size) W := by
      intro listed vals W hs hr hCW hRW
      have all : ∀ n, ∀ j, j < n → j < ops.size → listed.getD j false = true := by
        intro n
        induction n with
        | zero => intro j h; omega
        | succ n ih =>
          intro j hj hlt
          cases hl : listed.getD j false
          · exfalso
            have hop : ops[j]? = some ops[j] := Array.getElem?_eq_getElem hlt
            obtain ⟨_, hb2, _⟩ := relB_spec hB hop
            have : j ∈ Region.ready .any ops listed := by
              rw [mem_ready]
              refine ⟨?_, ops[j], hop, fun e he hb => ih e.on (by have := hb2 e he hb; omega) (by have := hb2 e he hb; omega)⟩
              have hjs : j < listed.size := by omega
              simp [hjs] at hl ⊢
              exact hl
            rw [hr] at this
            cases this
          · rfl
      have e := relAct_congr (ops := ops) (a0 := a0) (L := fun j => listed.getD j false) (L' := fun _ => true) (vals := vals) (vals' := vals) ops.size (fun j hj => ⟨all (j + 1) j (by omega) hj, fun _ => rfl⟩)
      rw [e]
      refine hend vals W hCW fun j hj hk => hRW j (all (j + 1) j (by omega) hj) fun i hi => ?_
      refine hk i ?_
      rcases Nat.lt_or_ge i ops.size with g | g
      · exact g
      · have : listed.getD i false = false := by simp [Array.getElem?_eq_none (show listed.size ≤ i by omega)]
        rw [this] at hi; cases hi
    induction fuel with
    | zero =>
      intro listed vals W hs hcount hdown hCW hRW hIW
      have hr : Region.ready .any ops listed = [] := by
        rw [List.eq_nil_iff_forall_not_mem]
        intro j hj
        have h0 := (mem_ready.1 hj).1
        obtain ⟨_, o, ho, _⟩ := mem_ready.1 hj
        have hjs : j < listed.size := by have := (Array.getElem?_eq_some_iff.1 ho).1; omega
        have hmem : false ∈ listed.toList := by
          have : listed[j] = false := by simpa [hjs] using h0
          rw [← this]
          simp
        have := List.count_pos_iff.2 hmem
        omega
      exact ⟨hr, fin listed vals W hs hr hCW hRW⟩
    | succ fuel ih =>
      intro listed vals W hs hcount hdown hCW hRW hIW
      refine ⟨fun hr => fin listed vals W hs hr hCW hRW, fun i hi => ?_⟩
      obtain ⟨h0, o, ho, hall⟩ := mem_ready.1 hi
      have hlt : i < ops.size := (Array.getElem?_eq_some_iff.1 ho).1
      have hli : listed.getD i false = false := by simpa [show i < listed.size by omega] using h0
      have hli? : listed[i]? = some false := by
        rw [Array.getElem?_eq_getElem (show i < listed.size by omega)]
        simpa [show i < listed.size by omega] using hli
      obtain ⟨hsel, hb2, hb3⟩ := relB_spec hB ho
      have hdi : dstAt ops i = o.dst := by unfold dstAt; rw [ho]; rfl
      have notkilled : ∀ e ∈ o.after, bindD e = true → ∀ k, listed.getD k false = true → kills k e.on = false := by
        intro e he hb k hk
        cases hkk : kills k e.on
        · rfl
        · exfalso
          have hkl : k < ops.size := by
            rcases Nat.lt_or_ge k ops.size with g | g
            · exact g
            · have : listed.getD k false = false := by simp [Array.getElem?_eq_none (show listed.size ≤ k by omega)]
              rw [this] at hk; cases hk
          have h1 := List.all_eq_true.1 hkB k (List.mem_range.2 hkl)
          have heo : e.on < ops.size := by have := hb2 e he (bindD_binds hb); omega
          have h2 := List.all_eq_true.1 h1 e.on (List.mem_range.2 heo)
          rw [hkk] at h2
          simp only [Bool.not_true, Bool.false_or] at h2
          have h3 := List.all_eq_true.1 h2 i (List.mem_range.2 hlt)
          rw [ho] at h3
          simp only [Bool.or_eq_true, beq_iff_eq] at h3
          rcases h3 with h3 | h3
          · subst h3; rw [hli] at hk; cases hk
          · have h4 := (Array.all_eq_true_iff_forall_mem.1 h3) e he
            rw [hb] at h4
            simp at h4
      have hst := step i o ho vals W hCW (fun e he hb => hRW e.on (hall e he (bindD_binds hb)) (notkilled e he hb)) (fun hw => hIW fun k hk => by
        cases hkk : kills0 k
        · rfl
        · exfalso
          have hkl : k < ops.size := by
            rcases Nat.lt_or_ge k ops.size with g | g
            · exact g
            · have : listed.getD k false = false := by simp [Array.getElem?_eq_none (show listed.size ≤ k by omega)]
              rw [this] at hk; cases hk
          rcases hw k hkl hkk with rfl | hwt
          · rw [hli] at hk; cases hk
          · unfold waitsB at hwt
            rw [Array.getElem?_eq_getElem hkl] at hwt
            simp only [] at hwt
            rw [Array.any_eq_true] at hwt
            obtain ⟨x, hx, h9⟩ := hwt
            simp only [Bool.and_eq_true, beq_iff_eq] at h9
            have := hdown k _ (Array.getElem?_eq_getElem hkl) hk _ (Array.getElem_mem hx) h9.2
            rw [h9.1, hli] at this
            cases this)
      have hst2 : opYield P ops o (relAct ops a0 (fun j => listed.getD j false) vals ops.size) W (fun v W' => T i W W' ∧ R i v W') := by
        refine opYield_congr hsel ?_ hst
        intro t ht
        by_cases hex : ∃ k, dstAt ops k = some t
        · obtain ⟨k, hk⟩ := hex
          obtain ⟨hki, e, he, heq, hbe⟩ := (hb3 k t hk).2 ht
          have hkl : listed.getD k false = true := by rw [← heq]; exact hall e he hbe
          have hu : ∀ j, dstAt ops j = some t → j = k := by
            intro j hj
            rcases Nat.lt_trichotomy j k with g | g | g
            · exfalso
              have hkop : ops[k]? = some ops[k] := Array.getElem?_eq_getElem (by omega)
              have := ((relB_spec hB hkop).2.2 j t hj).1 (by omega)
              apply this
              unfold dstAt at hk; rw [hkop] at hk; exact hk
            · exact g
            · exfalso
              have hjl : j < ops.size := by
                rcases Nat.lt_or_ge j ops.size with g | g
                · exact g
                · unfold dstAt at hj; rw [Array.getElem?_eq_none g] at hj; cases hj
              have hjop : ops[j]? = some ops[j] := Array.getElem?_eq_getElem hjl
              have := ((relB_spec hB hjop).2.2 k t hk).1 (by omega)
              apply this
              unfold dstAt at hj; rw [hjop] at hj; exact hj
          rw [relAct_at hk hu i hki rfl, relAct_at hk hu ops.size (by omega) hkl]
        · have hno : ∀ j, dstAt ops j ≠ some t := fun j hj => hex ⟨j, hj⟩
          rw [relAct_free i (fun j _ _ => hno j), relAct_free ops.size (fun j _ _ => hno j)]
      refine wpOp_of_yield ho hst2 fun v W' ⟨hT, hRi⟩ => ?_
      rw [← hdi, put_relAct hli (fun j d hne hj => by
        intro hid
        rw [hdi] at hid
        exact (hb3 j d hj).1 hne hid) ops.size hlt]
      have hget : ∀ j, (listed.setIfInBounds i true).getD j false = if j = i then true else listed.getD j false := by
        intro j
        by_cases e : j = i
        · subst e
          rw [if_pos rfl]
          simp [show j < listed.size by omega]
        · rw [if_neg e]
          have hne : i ≠ j := fun h => e h.symm
          simp only [Array.getD_eq_getD_getElem?, Array.getElem?_setIfInBounds_ne hne]
      have hcg := relAct_congr (ops := ops) (a0 := a0) (L := fun j => if j = i then true else listed.getD j false) (L' := fun j => (listed.setIfInBounds i true).getD j false) (vals := fun j => if j = i then v else vals j) (vals' := fun j => if j = i then v else vals j) ops.size (fun j _ => ⟨(hget j).symm, fun _ => rfl⟩)
      rw [hcg]
      refine ih _ _ W' (by simpa using hs) ?_ ?_ (hC i W W' hCW hT) ?_ ?_
      · have := count_set listed i hli?
        omega
      · intro j oj hj hlj e he hb
        rw [hget]
        by_cases ee : e.on = i
        · rw [if_pos ee]
        · rw [if_neg ee]
          rw [hget] at hlj
          by_cases ej : j = i
          · subst ej
            rw [ho] at hj
            cases hj
            exact hall e he hb
          · rw [if_neg ej] at hlj
            exact hdown j oj hj hlj e he hb
      · intro j hlj hnk
        by_cases ej : j = i
        · subst ej
          simp only [if_true]
          exact hRi
        · rw [hget, if_neg ej] at hlj
          rw [if_neg ej]
          have hki := hnk i (by rw [hget, if_pos rfl])
          refine hR i j _ W W' (fun h => ej h.symm) hki ?_ hCW ?_ hT
          · cases hwt : waitsB ops j i
            · rfl
            · exfalso
              unfold waitsB at hwt
              cases hjo : ops[j]? with
              | none => rw [hjo] at hwt; cases hwt
              | some oj =>
                rw [hjo] at hwt
                simp only [] at hwt
                rw [Array.any_eq_true] at hwt
                obtain ⟨x, hx, h9⟩ := hwt
                simp only [Bool.and_eq_true, beq_iff_eq] at h9
                have := hdown j oj hjo hlj _ (Array.getElem_mem hx) h9.2
                rw [h9.1, hli] at this
                cases this
          refine hRW j hlj fun k hk => hnk k ?_
          rw [hget]
          split
          · rfl
          · exact hk
      · intro hnk
        have hki0 := hnk i (by rw [hget, if_pos rfl])
        refine hIst i W W' hki0 hCW (hIW fun k hk => hnk k ?_) hT
        rw [hget]
        split
        · rfl
        · exact hk
  refine wp_region_any hm ?_
  have h := main ops.size (Array.replicate ops.size false) (fun _ => undef) { w0 with drawn := w0.drawn + 1 } (by simp) (by simp) (fun j o _ hl => by rw [none_listed] at hl; cases hl) hC0 (fun j hl => by rw [none_listed] at hl; cases hl) (fun _ => hI0)
  have e : relAct ops a0 (fun j => (Array.replicate ops.size false).getD j false) (fun _ => undef) ops.size = a0 := by
    have : ∀ n, relAct ops a0 (fun j => (Array.replicate ops.size false).getD j false) (fun _ => undef) n = a0 := by
      intro n
      induction n with
      | zero => rfl
      | succ n ih =>
        unfold relAct
        rw [ih, if_neg (by rw [none_listed]; exact Bool.false_ne_true)]
    exact this _
  rw [e] at h
  exact h

/-- .. without such -/
theorem wp_region_rel {id : Nat} {Q : Exit → Act → World → Prop} {a0 : Act} {w0 : World} (hm : P.follows .mixedOrders = true) (hB : relB ops = true)
    (kills : Nat → Nat → Bool) (hkB : killsB ops kills = true) (T : Nat → World → World → Prop) (C : World → Prop) (R : Nat → Value → World → Prop)
    (hC0 : C { w0 with drawn := w0.drawn + 1 }) (hC : ∀ i W W', C W → T i W W' → C W')
    (hR : ∀ i j v W W', i ≠ j → kills i j = false → waitsB ops j i = false → C W → R j v W → T i W W' → R j v W')
    (step : ∀ i o, ops[i]? = some o → ∀ vals W, C W → (∀ e ∈ o.after, bindD e = true → R e.on (vals e.on) W) →
      opYield P ops o (relAct ops a0 (fun _ => true) vals i) W (fun v W' => T i W W' ∧ R i v W'))
    (hend : ∀ vals W, C W → (∀ j, j < ops.size → (∀ i, i < ops.size → kills i j = false) → R j (vals j) W) → Q .normal (relAct ops a0 (fun _ => true) vals ops.size) W) :
    (Code.region id ops true).wp P Q a0 w0 :=
  wp_region_rel0 hm hB kills hkB T C R (fun _ => True) (fun _ => false) trivial (fun _ _ _ _ _ _ _ => trivial) hC0 hC hR (fun i o ho vals W hE h _ => step i o ho vals W hE h) hend

end
end Go.Proofs.YtkeimgamjnpcbaaGreat
