/-
  Texts merged by a program (Rel3, BytesS, Msg, ZSet, Recs, PutF).
-/
import Derived.Shelf.SlSortCmp.NoneTotal
import Derived.Test.YtkeimgamjnpcbaaGreatPk1
import Derived.Test.YtkeimgamjnpcbaaGreatPk2
import Derived.Test.YtkeimgamjnpcbaaGreatPk4
import Derived.Test.YtkeimgamjnpcbaaGreatPk5
import Derived.Test.YtkeimgamjnpcbaaGreatPk6
set_option linter.unusedSimpArgs false
set_option linter.unusedVariables false
/- A region that draws its order: what is said of an operation may name the values of those that it waits for (a store into what was allocated). -/
namespace Go.Proofs.YtkeimgamjnpcbaaGreat
open Go.RowKit
set_option linter.unusedVariables false
/-- the static side, wider: an operation may look at a slot that one writes which waits for it -/
def relAt2 (ops : Array Oper) (i : Nat) (o : Oper) : Bool :=
  (match o.op with | .select _ _ => false | _ => true) &&
  (o.after.all fun e => !Region.binds .any e || decide (e.on < i)) &&
  ((List.range ops.size).all fun j => match dstAt ops j with
    | none => true
    | some d => (j == i || o.dst != some d) && (!(o.looksAt ops).contains d || ((decide (j < i) && o.after.any fun e => e.on == j && Region.binds .any e) || waitsB ops j i)))
def relB2 (ops : Array Oper) : Bool := (List.range ops.size).all fun i => match ops[i]? with
  | none => true
  | some o => relAt2 ops i o
theorem waitsB_elim {ops : Array Oper} {j i : Nat} (h : waitsB ops j i = true) : ∃ o, ops[j]? = some o ∧ ∃ e ∈ o.after, e.on = i ∧ Region.binds .any e = true := by
  unfold waitsB at h
  split at h
  · cases h
  · rename_i o ho
    refine ⟨o, ho, ?_⟩
    rw [Array.any_eq_true] at h
    obtain ⟨x, hx, h9⟩ := h
    simp only [Bool.and_eq_true, beq_iff_eq] at h9
    exact ⟨_, Array.getElem_mem hx, h9.1, h9.2⟩
theorem relB2_spec {ops : Array Oper} (h : relB2 ops = true) {i : Nat} {o : Oper} (hi : ops[i]? = some o) :
    (∀ cs b, o.op ≠ .select cs b) ∧ (∀ e ∈ o.after, Region.binds .any e = true → e.on < i) ∧
    (∀ j d, dstAt ops j = some d → (j ≠ i → o.dst ≠ some d) ∧ (d ∈ o.looksAt ops → (j < i ∧ ∃ e ∈ o.after, e.on = j ∧ Region.binds .any e = true) ∨ waitsB ops j i = true)) := by
  have hlt : i < ops.size := (Array.getElem?_eq_some_iff.1 hi).1
  have h1 := List.all_eq_true.1 h i (List.mem_range.2 hlt)
  rw [hi] at h1
  simp only [relAt2, Bool.and_eq_true] at h1
  obtain ⟨⟨h2, h3⟩, h4⟩ := h1
  refine ⟨?_, ?_, ?_⟩
  · intro cs b he
    rw [he] at h2
    cases h2
  · intro e he hb
    have := (Array.all_eq_true_iff_forall_mem.1 h3) e he
    rw [hb] at this
    simpa using this
  · intro j d hj
    have hjl : j < ops.size := by
      rcases Nat.lt_or_ge j ops.size with g | g
      · exact g
      · unfold dstAt at hj; rw [Array.getElem?_eq_none g] at hj; cases hj
    have h5 := List.all_eq_true.1 h4 j (List.mem_range.2 hjl)
    rw [hj] at h5
    simp only [Bool.and_eq_true, Bool.or_eq_true, beq_iff_eq, bne_iff_ne, ne_eq, Bool.not_eq_true', decide_eq_true_eq] at h5
    obtain ⟨h6, h7⟩ := h5
    refine ⟨fun hne => h6.resolve_left hne, fun hd => ?_⟩
    rcases h7 with h7 | ⟨h7, h8⟩ | h7
    · have : (o.looksAt ops).contains d = true := by simpa using hd
      rw [this] at h7; cases h7
    · refine .inl ⟨h7, ?_⟩
      rw [Array.any_eq_true] at h8
      obtain ⟨x, hx, h9⟩ := h8
      simp only [Bool.and_eq_true, beq_iff_eq] at h9
      exact ⟨_, Array.getElem_mem hx, h9.1, h9.2⟩
    · exact .inr h7
section
variable {P : Program} {ops : Array Oper}
/-- WHATEVER THE ORDER; what is said of an operation may name the values of those that it waits for -/
theorem wp_region_dep {id : Nat} {Q : Exit → Act → World → Prop} {a0 : Act} {w0 : World} (hm : P.follows .mixedOrders = true) (hB : relB2 ops = true)
    (kills : Nat → Nat → Bool) (hkB : killsB ops kills = true) (T : Nat → World → World → Prop) (C : World → Prop) (R : Nat → (Nat → Value) → World → Prop) (hRc : ∀ j vals i v W, i ≠ j → waitsB ops j i = false → R j vals W → R j (fun k => if k = i then v else vals k) W)
    (I0 : World → Prop) (kills0 : Nat → Bool) (hI0 : I0 { w0 with drawn := w0.drawn + 1 }) (hIst : ∀ i W W', kills0 i = false → C W → I0 W → T i W W' → I0 W')
    (hC0 : C { w0 with drawn := w0.drawn + 1 }) (hC : ∀ i W W', C W → T i W W' → C W')
    (hR : ∀ i j v W W', i ≠ j → kills i j = false → waitsB ops j i = false → C W → R j v W → T i W W' → R j v W')
    (step : ∀ i o, ops[i]? = some o → ∀ vals W, C W → (∀ e ∈ o.after, bindD e = true → R e.on vals W) → ((∀ k, k < ops.size → kills0 k = true → k = i ∨ waitsB ops k i = true) → I0 W) →
      opYield P ops o (relAct ops a0 (fun _ => true) vals i) W (fun v W' => T i W W' ∧ R i (fun k => if k = i then v else vals k) W'))
    (hend : ∀ vals W, C W → (∀ j, j < ops.size → (∀ i, i < ops.size → kills i j = false) → R j vals W) → Q .normal (relAct ops a0 (fun _ => true) vals ops.size) W) :
    (Code.region id ops true).wp P Q a0 w0 := by
  have main : ∀ (fuel : Nat) (listed : Array Bool) (vals : Nat → Value) (W : World), listed.size = ops.size → listed.toList.count false ≤ fuel →
      (∀ j o, ops[j]? = some o → listed.getD j false = true → ∀ e ∈ o.after, Region.binds .any e = true → listed.getD e.on false = true) → C W →
      (∀ j, listed.getD j false = true → (∀ i, listed.getD i false = true → kills i j = false) → R j vals W) → ((∀ k, listed.getD k false = true → kills0 k = false) → I0 W) →
      wpAny P .any ops Q fuel listed (relAct ops a0 (fun j => listed.getD j false) vals ops.size) W := by
    intro fuel
    have fin : ∀ (listed : Array Bool) (vals : Nat → Value) (W : World), listed.size = ops.size → Region.ready .any ops listed = [] → C W →
        (∀ j, listed.getD j false = true → (∀ i, listed.getD i false = true → kills i j = false) → R j vals W) → Q .normal (relAct ops a0 (fun j => listed.getD j false) vals ops.size) W := by
      intro listed vals W hs hr hCW hRW
      have all : ∀ n, ∀ j, j < n → j < ops.size → listed.getD j false = true := by
        intro n
        induction n with
        | zero => intro j h; omega
        | succ n ih =>
          intro j hj hlt
          cases hl : listed.getD j false
          · exfalso
            have hop : ops[j]? = some ops[j] := Array.getElem?_eq_getElem hlt
            obtain ⟨_, hb2, _⟩ := relB2_spec hB hop
            have : j ∈ Region.ready .any ops listed := by
              rw [mem_ready]
              refine ⟨?_, ops[j], hop, fun e he hb => ih e.on (by have := hb2 e he hb; omega) (by have := hb2 e he hb; omega)⟩
              have hjs : j < listed.size := by omega
              simp [hjs] at hl ⊢
              exact hl
            rw [hr] at this
            cases this
          · rfl
      have e := relAct_congr (ops := ops) (a0 := a0) (L := fun j => listed.getD j false) (L' := fun _ => true) (vals := vals) (vals' := vals) ops.size (fun j hj => ⟨all (j + 1) j (by omega) hj, fun _ => rfl⟩)
      rw [e]
      refine hend vals W hCW fun j hj hk => hRW j (all (j + 1) j (by omega) hj) fun i hi => ?_
      refine hk i ?_
      rcases Nat.lt_or_ge i ops.size with g | g
      · exact g
      · have : listed.getD i false = false := by simp [Array.getElem?_eq_none (show listed.size ≤ i by omega)]
        rw [this] at hi; cases hi
    induction fuel with
    | zero =>
      intro listed vals W hs hcount hdown hCW hRW hIW
      have hr : Region.ready .any ops listed = [] := by
        rw [List.eq_nil_iff_forall_not_mem]
        intro j hj
        have h0 := (mem_ready.1 hj).1
        obtain ⟨_, o, ho, _⟩ := mem_ready.1 hj
        have hjs : j < listed.size := by have := (Array.getElem?_eq_some_iff.1 ho).1; omega
        have hmem : false ∈ listed.toList := by
          have : listed[j] = false := by simpa [hjs] using h0
          rw [← this]
          simp
        have := List.count_pos_iff.2 hmem
        omega
      exact ⟨hr, fin listed vals W hs hr hCW hRW⟩
    | succ fuel ih =>
      intro listed vals W hs hcount hdown hCW hRW hIW
      refine ⟨fun hr => fin listed vals W hs hr hCW hRW, fun i hi => ?_⟩
      obtain ⟨h0, o, ho, hall⟩ := mem_ready.1 hi
      have hlt : i < ops.size := (Array.getElem?_eq_some_iff.1 ho).1
      have hli : listed.getD i false = false := by simpa [show i < listed.size by omega] using h0
      have hli? : listed[i]? = some false := by
        rw [Array.getElem?_eq_getElem (show i < listed.size by omega)]
        simpa [show i < listed.size by omega] using hli
      obtain ⟨hsel, hb2, hb3⟩ := relB2_spec hB ho
      have hdi : dstAt ops i = o.dst := by unfold dstAt; rw [ho]; rfl
      have notkilled : ∀ e ∈ o.after, bindD e = true → ∀ k, listed.getD k false = true → kills k e.on = false := by
        intro e he hb k hk
        cases hkk : kills k e.on
        · rfl
        · exfalso
          have hkl : k < ops.size := by
            rcases Nat.lt_or_ge k ops.size with g | g
            · exact g
            · have : listed.getD k false = false := by simp [Array.getElem?_eq_none (show listed.size ≤ k by omega)]
              rw [this] at hk; cases hk
          have h1 := List.all_eq_true.1 hkB k (List.mem_range.2 hkl)
          have heo : e.on < ops.size := by have := hb2 e he (bindD_binds hb); omega
          have h2 := List.all_eq_true.1 h1 e.on (List.mem_range.2 heo)
          rw [hkk] at h2
          simp only [Bool.not_true, Bool.false_or] at h2
          have h3 := List.all_eq_true.1 h2 i (List.mem_range.2 hlt)
          rw [ho] at h3
          simp only [Bool.or_eq_true, beq_iff_eq] at h3
          rcases h3 with h3 | h3
          · subst h3; rw [hli] at hk; cases hk
          · have h4 := (Array.all_eq_true_iff_forall_mem.1 h3) e he
            rw [hb] at h4
            simp at h4
      have hst := step i o ho vals W hCW (fun e he hb => hRW e.on (hall e he (bindD_binds hb)) (notkilled e he hb)) (fun hw => hIW fun k hk => by
        cases hkk : kills0 k
        · rfl
        · exfalso
          have hkl : k < ops.size := by
            rcases Nat.lt_or_ge k ops.size with g | g
            · exact g
            · have : listed.getD k false = false := by simp [Array.getElem?_eq_none (show listed.size ≤ k by omega)]
              rw [this] at hk; cases hk
          rcases hw k hkl hkk with rfl | hwt
          · rw [hli] at hk; cases hk
          · unfold waitsB at hwt
            rw [Array.getElem?_eq_getElem hkl] at hwt
            simp only [] at hwt
            rw [Array.any_eq_true] at hwt
            obtain ⟨x, hx, h9⟩ := hwt
            simp only [Bool.and_eq_true, beq_iff_eq] at h9
            have := hdown k _ (Array.getElem?_eq_getElem hkl) hk _ (Array.getElem_mem hx) h9.2
            rw [h9.1, hli] at this
            cases this)
      have hst2 : opYield P ops o (relAct ops a0 (fun j => listed.getD j false) vals ops.size) W (fun v W' => T i W W' ∧ R i (fun k => if k = i then v else vals k) W') := by
        refine opYield_congr hsel ?_ hst
        intro t ht
        by_cases hex : ∃ k, dstAt ops k = some t
        · obtain ⟨k, hk⟩ := hex
          rcases (hb3 k t hk).2 ht with ⟨hki, e, he, heq, hbe⟩ | hkw
          rotate_left
          · obtain ⟨ok, hok, e, he, heq, hbe⟩ := waitsB_elim hkw
            have hik : i < k := by have := (relB2_spec hB hok).2.1 e he hbe; omega
            have hlk : listed.getD k false = false := by
              cases hlk : listed.getD k false
              · rfl
              · have := hdown k ok hok hlk e he hbe
                rw [heq, hli] at this
                cases this
            have hu : ∀ j, dstAt ops j = some t → j = k := by
              intro j hj
              have hjl : j < ops.size := by
                rcases Nat.lt_or_ge j ops.size with g | g
                · exact g
                · unfold dstAt at hj; rw [Array.getElem?_eq_none g] at hj; cases hj
              rcases Nat.lt_trichotomy j k with g | g | g
              · exfalso
                have := ((relB2_spec hB hok).2.2 j t hj).1 (by omega)
                apply this
                unfold dstAt at hk; rw [hok] at hk; exact hk
              · exact g
              · exfalso
                have hjop : ops[j]? = some ops[j] := Array.getElem?_eq_getElem hjl
                have := ((relB2_spec hB hjop).2.2 k t hk).1 (by omega)
                apply this
                unfold dstAt at hj; rw [hjop] at hj; exact hj
            rw [relAct_free i (fun j hj _ h => by have := hu j h; omega), relAct_free ops.size (fun j _ hl h => by
              have := hu j h
              rw [this, hlk] at hl
              cases hl)]
          have hkl : listed.getD k false = true := by rw [← heq]; exact hall e he hbe
          have hu : ∀ j, dstAt ops j = some t → j = k := by
            intro j hj
            rcases Nat.lt_trichotomy j k with g | g | g
            · exfalso
              have hkop : ops[k]? = some ops[k] := Array.getElem?_eq_getElem (by omega)
              have := ((relB2_spec hB hkop).2.2 j t hj).1 (by omega)
              apply this
              unfold dstAt at hk; rw [hkop] at hk; exact hk
            · exact g
            · exfalso
              have hjl : j < ops.size := by
                rcases Nat.lt_or_ge j ops.size with g | g
                · exact g
                · unfold dstAt at hj; rw [Array.getElem?_eq_none g] at hj; cases hj
              have hjop : ops[j]? = some ops[j] := Array.getElem?_eq_getElem hjl
              have := ((relB2_spec hB hjop).2.2 k t hk).1 (by omega)
              apply this
              unfold dstAt at hj; rw [hjop] at hj; exact hj
          rw [relAct_at hk hu i hki rfl, relAct_at hk hu ops.size (by omega) hkl]
        · have hno : ∀ j, dstAt ops j ≠ some t := fun j hj => hex ⟨j, hj⟩
          rw [relAct_free i (fun j _ _ => hno j), relAct_free ops.size (fun j _ _ => hno j)]
      refine wpOp_of_yield ho hst2 fun v W' ⟨hT, hRi⟩ => ?_
      rw [← hdi, put_relAct hli (fun j d hne hj => by
        intro hid
        rw [hdi] at hid
        exact (hb3 j d hj).1 hne hid) ops.size hlt]
      have hget : ∀ j, (listed.setIfInBounds i true).getD j false = if j = i then true else listed.getD j false := by
        intro j
        by_cases e : j = i
        · subst e
          rw [if_pos rfl]
          simp [show j < listed.size by omega]
        · rw [if_neg e]
          have hne : i ≠ j := fun h => e h.symm
          simp only [Array.getD_eq_getD_getElem?, Array.getElem?_setIfInBounds_ne hne]
      have hcg := relAct_congr (ops := ops) (a0 := a0) (L := fun j => if j = i then true else listed.getD j false) (L' := fun j => (listed.setIfInBounds i true).getD j false) (vals := fun j => if j = i then v else vals j) (vals' := fun j => if j = i then v else vals j) ops.size (fun j _ => ⟨(hget j).symm, fun _ => rfl⟩)
      rw [hcg]
      refine ih _ _ W' (by simpa using hs) ?_ ?_ (hC i W W' hCW hT) ?_ ?_
      · have := count_set listed i hli?
        omega
      · intro j oj hj hlj e he hb
        rw [hget]
        by_cases ee : e.on = i
        · rw [if_pos ee]
        · rw [if_neg ee]
          rw [hget] at hlj
          by_cases ej : j = i
          · subst ej
            rw [ho] at hj
            cases hj
            exact hall e he hb
          · rw [if_neg ej] at hlj
            exact hdown j oj hj hlj e he hb
      · intro j hlj hnk
        by_cases ej : j = i
        · subst ej
          exact hRi
        · rw [hget, if_neg ej] at hlj
          have hki := hnk i (by rw [hget, if_pos rfl])
          have hwf : waitsB ops j i = false := by
            cases hwt : waitsB ops j i
            · rfl
            · exfalso
              unfold waitsB at hwt
              cases hjo : ops[j]? with
              | none => rw [hjo] at hwt; cases hwt
              | some oj =>
                rw [hjo] at hwt
                simp only [] at hwt
                rw [Array.any_eq_true] at hwt
                obtain ⟨x, hx, h9⟩ := hwt
                simp only [Bool.and_eq_true, beq_iff_eq] at h9
                have := hdown j oj hjo hlj _ (Array.getElem_mem hx) h9.2
                rw [h9.1, hli] at this
                cases this
          refine hRc j vals i v W' (fun h => ej h.symm) hwf (hR i j _ W W' (fun h => ej h.symm) hki hwf hCW ?_ hT)
          refine hRW j hlj fun k hk => hnk k ?_
          rw [hget]
          split
          · rfl
          · exact hk
      · intro hnk
        have hki0 := hnk i (by rw [hget, if_pos rfl])
        refine hIst i W W' hki0 hCW (hIW fun k hk => hnk k ?_) hT
        rw [hget]
        split
        · rfl
        · exact hk
  refine wp_region_any hm ?_
  have h := main ops.size (Array.replicate ops.size false) (fun _ => undef) { w0 with drawn := w0.drawn + 1 } (by simp) (by simp) (fun j o _ hl => by rw [none_listed] at hl; cases hl) hC0 (fun j hl => by rw [none_listed] at hl; cases hl) (fun _ => hI0)
  have e : relAct ops a0 (fun j => (Array.replicate ops.size false).getD j false) (fun _ => undef) ops.size = a0 := by
    have : ∀ n, relAct ops a0 (fun j => (Array.replicate ops.size false).getD j false) (fun _ => undef) n = a0 := by
      intro n
      induction n with
      | zero => rfl
      | succ n ih =>
        unfold relAct
        rw [ih, if_neg (by rw [none_listed]; exact Bool.false_ne_true)]
    exact this _
  rw [e] at h
  exact h

end
end Go.Proofs.YtkeimgamjnpcbaaGreat

/- slices.SortFunc at one slice of bytes. -/
namespace Go.Proofs.YtkeimgamjnpcbaaGreat
open Go.RowKit
set_option linter.unusedVariables false
namespace Nm
theorem kept_sortWorld {α : Type} [Inhabited α] (enc : α → Value) (w : World) (g m : Nat) (dk : Array α) (os : Array Obj) : Kept (fun b => b = g) w (sortWorld enc w g 0 m dk os) := by
  refine ⟨rfl, rfl, rfl, ?_, fun k hk hn => ?_⟩
  · simp [sortWorld, Sort.grow, Sort.putRow, Sort.mapBlock, Sort.ahead]
  · have hne : g ≠ k := fun e => hn e.symm
    unfold sortWorld
    rw [Sort.heap_grow_old _ _ (by simpa [Sort.putRow, Sort.mapBlock, Sort.ahead] using hk)]
    simp [Sort.putRow, Sort.mapBlock, Sort.ahead, Array.getElem?_modify, hne]
theorem ent99 (args : Array Value) (w : World) : (callFunc 99 args).run Tryz.prog w = .ok (.enter 99 args) w := (enters_of Tryz.func99 (by kernel_rfl) rfl) args w
theorem SortB1 (g cap c : Nat) (A : Option Addr) (l : Lab) (w : World) (hcell : w.cell? ⟨g, 0, none⟩ = some (.slice A l.length c)) (hfr : w.frozen? ⟨g, 0, none⟩ = false) (hg : g < w.heap.size) (hcs : Cs w A (l.map byteV)) (hne : ∀ a, A = some a → l.map byteV ≠ [] → a.block ≠ g) :
    Calls Tryz.prog 98 #[.slice (some ⟨g, 0, none⟩) 1 cap, .func (.func 99) #[] #[]] w fun e w' => e = .returned (.tuple #[]) ∧ Kept (fun b => b = g) w w' ∧ w'.cell? ⟨g, 0, none⟩ = some (.slice A l.length c) := by
  have hH : Sort.Holds (fun _ : Unit => Value.slice A l.length c) w g 0 #[()] := by
    intro j hj
    have : j = 0 := by simpa using hj
    subst this
    exact ⟨hcell, hfr⟩
  refine (Any.slices_SortFunc_total Tryz.sortB (fun _ : Unit => Value.slice A l.length c) (fun _ => rfl) (fun _ _ => 0) ⟨fun _ => rfl, (fun _ _ _ h _ => by cases h), (fun _ _ _ _ _ => rfl)⟩ 99 #[] g 0 cap #[()] w ent99 ?_ hH hg (by decide) (fun _ _ _ _ => rfl)).mono ?_
  · intro m os dk hs x y
    have hk := kept_sortWorld (fun _ : Unit => Value.slice A l.length c) w g m dk os
    have hc2 : Cs (sortWorld (fun _ : Unit => Value.slice A l.length c) w g 0 m dk os) A (l.map byteV) := Kept.cs hcs hk hne
    refine (BCompare A A l l c c _ hc2 hc2).mono fun e w' h => ?_
    obtain ⟨h1, h2⟩ := h
    refine ⟨by rw [h1, (cb_zero l l).2 rfl], 0, #[], ?_⟩
    rw [Sort.grow_empty]
    exact h2.symm
  · intro e w' h
    obtain ⟨he, n, os, hw⟩ := h
    have hk := kept_sortWorld (fun _ : Unit => Value.slice A l.length c) w g n (([()] : List Unit).mergeSort fun x y => !(ltOf (fun _ _ : Unit => (0 : Int))) y x).toArray os
    refine ⟨he, by rw [hw]; exact hk, ?_⟩
    have hds : ((([()] : List Unit).mergeSort fun x y => !(ltOf (fun _ _ : Unit => (0 : Int))) y x).toArray).size = 1 := by simp
    have hH2 : Sort.Holds (fun _ : Unit => Value.slice A l.length c) (Sort.ahead w n) g 0 #[()] := hH
    have := Sort.cell?_putRow (fun _ : Unit => Value.slice A l.length c) (Sort.ahead w n) g 0 #[()] (([()] : List Unit).mergeSort fun x y => !(ltOf (fun _ _ : Unit => (0 : Int))) y x).toArray hH2 hds 0 (by rw [hds]; decide)
    rw [hw]
    unfold sortWorld
    rw [Sort.cell?_grow _ _ _ (by simpa [Sort.putRow, Sort.mapBlock, Sort.ahead] using hg)]
    exact this
end Nm
end Go.Proofs.YtkeimgamjnpcbaaGreat

/- Contracts of package canon: data and Message, of sets of one datum. -/
namespace Go.Proofs.YtkeimgamjnpcbaaGreat
open Go.RowKit
set_option linter.unusedVariables false
namespace Nm
theorem info_bytes : (Tryz.prog.info? 31).map (fun i => (i.zero, i.size, i.bytes)) = some (some (.slice none 0 0), 1, 24) := by kernel_rfl
theorem Compact1 (A : Option Addr) (cap : Nat) (f : Value) (w : World) : Calls Tryz.prog 100 #[.slice A 1 cap, f] w fun e w' => e = .returned (.slice A 1 cap) ∧ w = w' := by
  go_enter Tryz.func100, Tryz.ntmps100
  go_wp2_with fail
  go_ret
  exact ⟨rfl, rfl⟩
/-- a row of one -/
theorem row_one {w : World} {B : Nat} {e : TypeId} {v u : Value} (h : w.ownsRow B e 1 v 1 [u]) : ∃ g cap, v = .slice (some ⟨g, 0, none⟩) 1 cap ∧ B ≤ g ∧ g < w.heap.size ∧ w.cell? ⟨g, 0, none⟩ = some u ∧ w.frozen? ⟨g, 0, none⟩ = false := by
  rcases h.2 with ⟨_, hn⟩ | ⟨g, cap, cur, rfl, hg, hh, hn, hcap, hsz, htake⟩
  · omega
  · refine ⟨g, cap, rfl, hg, lt_block hh, ?_, by simp [World.frozen?, hh]⟩
    rw [cell_of_row w g 0 _ _ _ hh]
    have h0 : (cur.toList.take (1 * 1))[0]? = some u := by rw [htake]; rfl
    simpa using h0
/-- the types that are checked by their shape, and hold no name -/
def plainT (t : Int) : Prop := t ≠ 2 ∧ t ≠ 5 ∧ t ≠ 15 ∧ t ≠ 6 ∧ t ≠ 46 ∧ t ≠ 48 ∧ t ≠ 50
theorem canonD_plain {t : Int} (h : plainT t) (l : Lab) : canonD t l = l := by
  obtain ⟨p1, p2, p3, q1, q2, q3, q4⟩ := h
  unfold canonD
  split
  · unfold canonO
    rw [if_neg (fun h => h.elim p1 p2), if_neg p3, if_neg q1, if_neg q2]
  · rfl
set_option maxRecDepth 100000 in
set_option maxHeartbeats 4000000 in
/-- data of a set of one datum that is of its type -/
theorem data1 (A D : Option Addr) (n : List Lab) (cap dcap : Nat) (t ttl : Int) (b : Blob) (w : World) (ht : plainT t) (hok : chk t b.l = true) (hD : Cs w D [b.v]) (hb : b.ok w) (hcap : b.l.length ≤ b.cap) (hcap2 : b.cap ≤ maxLen) :
    Calls Tryz.prog 62 #[.agg #[.slice A n.length cap, .int .u16 t, .int .u32 ttl, .slice D 1 dcap]] w fun e w' =>
      ∃ A' x c, e = .returned (.slice A' 1 c) ∧ Cs w' A' [Blob.v x] ∧ x.l = b.l ∧ x.ok w' ∧ Below w.heap.size w w' := by
  obtain ⟨i0, hi, hz0, hz1, hz2⟩ := info_parts info_bytes
  have hl8 : b.l.length ≤ 8192 := (shp_of_chk ht.2.2.2.1 ht.2.2.2.2.1 ht.2.2.2.2.2.1 hok).2
  obtain ⟨p1, p2, p3, q1, q2, q3, q4⟩ := ht
  have HE : Hid (canonR t b.l = b.l) := Lib.hid ((canonR_yes hok).trans (by
    unfold canonO
    rw [if_neg (fun h => h.elim p1 p2), if_neg p3, if_neg q1, if_neg q2]))
  obtain ⟨db, doff, rfl, hdb, hdc⟩ := hD 0 _ rfl
  rw [Nat.add_zero] at hdc
  have hb1 : Below w.heap.size w (w.alloc (.cells #[.slice A n.length cap, .int .u16 t, .int .u32 ttl, .slice (some ⟨db, doff, none⟩) 1 dcap] 28)) := (Below.refl _ _).alloc (Nat.le_refl _) _
  have hd1 := (bcl hb1 (o := doff) hdb).trans hdc
  have hCn := CanonP t p1 p2 p3 q1 q2 q3 q4 b.A b.l b.cap (w.alloc (.cells #[.slice A n.length cap, .int .u16 t, .int .u32 ttl, .slice (some ⟨db, doff, none⟩) 1 dcap] 28)) (Cs.below hb hb1) (by omega) hcap hcap2
  rw [hok] at hCn
  have HC := Lib.hid hCn
  have hbv : b.v = .slice b.A b.l.length b.cap := rfl
  rw [hbv] at hdc hd1
  clear hCn hok p1 p2 p3 q1 q2 q3 q4 hbv hD
  unfold code50 at HC
  go_enter Tryz.func62, Tryz.ntmps62
  go_wp2_with fail
  refine wp_loop_rounds 2 ?_
  rw [rounds_succ]
  go_wp2_with fail
  refine HC.out.mono ?_
  rintro e w1 ⟨hbw1, v, rfl, hown⟩
  rw [HE.out] at hown
  obtain ⟨A5, c5, rfl, _, hcs5⟩ := Cs.of_own hown
  have hb2 := hb1.trans (hbw1.mono hb1.size)
  have HO := Lib.hid hown
  have hz1' := hb1.size
  have hz2' := hbw1.size
  clear hown hcs5
  go_wp2_with (first | (at_builtin; refine wpList_push2 (B := w1.heap.size) (v := .slice none 0 0) (n := 0) (xs := []) (World.ownsRow_nil _ _ 31 1) (Nat.le_refl _) [.slice A5 b.l.length c5] rfl (by simp [Value.oneCell']) hi hz0 hz1 hz2 rfl (by decide) rfl _ _ 26 Tryz.underlying26 rfl rfl rfl (by unfold maxLen; omega) (by omega) ?_; intro v4 w4 hown4 hbw4))
  rw [rounds_succ]
  go_wp2_with fail
  obtain ⟨g, cap4, hv4, hg1, hg2, hcell, hfr⟩ := row_one hown4
  subst hv4
  have hb4 : Below w.heap.size w w4 := hb2.trans (hbw4.mono (by omega))
  have hz4 := hbw4.size
  have hcs4 : Cs w4 A5 (b.l.map byteV) := by
    obtain ⟨A6, c6, e6, _, h6⟩ := Cs.of_own (own_below HO.out hbw4)
    cases e6
    exact h6
  have hne : ∀ a, A5 = some a → b.l.map byteV ≠ [] → a.block ≠ g := fun a ha hx => by
    obtain ⟨A6, c6, e6, _, h6⟩ := Cs.of_own HO.out
    cases e6
    have := h6.where ha hx
    omega
  have HN := Lib.hid hne
  have HC4 := Lib.hid hcs4
  clear hcs4 hne hown4
  refine (SortB1 g cap4 c5 A5 b.l w4 hcell hfr hg2 HC4.out HN.out).mono ?_
  rintro e w5 ⟨rfl, hk5, hc5⟩
  go_wp2_with fail
  refine (Compact1 _ _ _ _).mono ?_
  rintro e w6 ⟨rfl, rfl⟩
  go_wp2_with fail
  go_ret
  refine ⟨_, ⟨A5, b.l, c5⟩, _, rfl, ?_, rfl, ?_, hb4.trans (hk5.below (by omega) (fun k hk => by omega))⟩
  · intro i u hu
    cases i with
    | zero =>
      simp at hu
      exact ⟨g, 0, rfl, by have := hk5.size; omega, by rw [← hu]; exact hc5⟩
    | succ i => simp at hu
  · exact Kept.cs HC4.out hk5 HN.out
end Nm
end Go.Proofs.YtkeimgamjnpcbaaGreat

/- Contracts of package zone: Set, of the one set. -/
namespace Go.Proofs.YtkeimgamjnpcbaaGreat
open Go.RowKit
set_option linter.unusedVariables false
set_option linter.unusedSimpArgs false
namespace Nm
/-- append of one element that lies in a block of its own, to a row of the call's own, in a region that draws -/
theorem yield_push {ops : Array Oper} {o : Oper} {a : Act} {W : World} {R : Value → World → Prop} (hgd : o.guard = none) (sl x : Operand) {t e : TypeId} (ht : Tryz.prog.underlying t = some (.slice e))
    (ho : o.op = .call { callee := .builtin .append, args := #[sl, x], argTypes := #[t, t] }) {i : TypeInfo} {z : Value} {bytes size : Nat} (hi : Tryz.prog.info? e = some i) (hz : i.zero = some z) (hsize : i.size = size) (hby : i.bytes = bytes) (hzs : z.cells.size = size) (hsz : 0 < size)
    {B : Nat} {v : Value} {n : Nat} {xs us : List Value} (hs : a.eval sl = v) (hown : W.ownsRow B e size v n xs) (hB : B ≤ W.heap.size)
    {g : Nat} (hx : a.eval x = .slice (some ⟨g, 0, none⟩) 1 1) (hl : us.length = 1 * size) (hcell : ∀ j u, us[j]? = some u → W.cell? ((⟨g, 0, none⟩ : Addr).add j) = some u) (h1 : ∀ u ∈ us, u.oneCell' = true) (h63 : n + 1 ≤ maxLen) (hbytes : (n + 1) * bytes ≤ 140737488355328)
    (h : ∀ v' W', W'.ownsRow B e size v' (n + 1) (xs ++ us) → W.grownBy W' v.ownBlock → (v'.ownBlock = v.ownBlock ∨ v'.ownBlock = some W.heap.size) → R v' W') : opYield Tryz.prog ops o a W R := by
  have hw : Region.wanted o (yielded ops a.tmps) = true := by simp [Region.wanted, hgd]
  rw [opYield_def, if_pos hw]
  obtain ⟨v', W', hr, h2, h3, _, h5⟩ := run_append_own_at (P := Tryz.prog) W B t o.type e i z size bytes ht hi hz hsize hby hzs hsz v n xs hown ⟨g, 0, none⟩ 1 1 us hl hcell h1 h63 hbytes hB
  unfold execOp
  simp only [ho, resolve, invoke, builtin, Sem.run_bind, Sem.run_pure, Result.andThen_ok, List.map_toArray, List.map_cons, List.map_nil, hs, hx, hr]
  exact h v' W' h2 h3 h5
def IsSl (v : Value) : Prop := ∃ A m c, v = .slice A m c
def SetR (g N1 N0 : Nat) (NM T4 L4 : Value) (k : Nat) (w : World) (i : Value) (wr : World) : Prop :=
  ∃ (j : Nat) (A : Option Addr) (c : Nat) (xs : List Value), j ≤ k ∧ i = .int .i64 j ∧ wr.heap[g]? = some (.cells #[NM, T4, L4, .slice A j c] 28 (0, 0)) ∧ wr.ownsRow N1 31 1 (.slice A j c) j xs ∧ (∀ b, (Value.slice A j c).ownBlock = some b → b ≠ g) ∧ Below N0 w wr ∧ ∀ y ∈ xs, IsSl y
set_option maxRecDepth 100000 in
set_option maxHeartbeats 20000000 in
theorem ZSet (w : World) (B z bn bb x bs s : Nat) (ap n : List Lab) (t ttl : Int) (v : Value) (ds : List (Blob × Blob)) (f : Lab → Int) (N : Nat) (h : One w B z bn bb x bs s ap n t ttl v ds f N) (An : Option Addr) (cn : Nat) (hAn : Cs w An (n.map strV)) (hn : Small n) (hwt : (Lit.int .u16 t).wf = true)
    (hds : ds.length ≤ 100000) (hdl : ∀ d ∈ ds, d.1.l.length ≤ 100000) :
    Calls Tryz.prog 28 #[.pointer (some ⟨z, 0, none⟩), .slice An n.length cn, .int .u16 t] w fun e w' => Below w.heap.size w w' ∧ ∃ Am m cm Ad cd xs, e = .returned (.tuple #[.agg #[.slice Am m cm, .int .u16 t, .int .u32 ttl, .slice Ad ds.length cd], .bool true]) ∧ w'.ownsRow w.heap.size 31 1 (.slice Ad ds.length cd) ds.length xs ∧ ∀ y ∈ xs, IsSl y := by
  obtain ⟨i0, hi, hz0, hz1, hz2⟩ := info_parts info_bytes
  have hsv : ∃ A c, v = .slice A ds.length c := by
    obtain ⟨A, c, hv, _⟩ := own_form h.st.row
    exact ⟨A, c, hv⟩
  obtain ⟨Av, cv, rfl⟩ := hsv
  have hsl := lt_block h.st.set
  obtain ⟨s0, s1, _⟩ := cells2 h.st.set
  obtain ⟨An2, cn2, hxb, hxn⟩ := h.st.node
  have hxl := lt_block hxb
  obtain ⟨x0, x1, _⟩ := cells2 hxb
  obtain ⟨Aa, ca, hzb, hza⟩ := h.zn.blk
  have hzl := lt_block hzb
  obtain ⟨z0, z1, z2, z3, _⟩ := cells4 hzb
  have HAt : Hid (∀ W, Below w.heap.size w W → Calls Tryz.prog 69 #[.pointer (some ⟨z, 0, none⟩), .slice An n.length cn, .int .u16 t] W fun e w' => e = .returned (.pointer (some ⟨s, 0, none⟩)) ∧ Below W.heap.size W w') := Lib.hid fun W hW => by
    have hOW := h.ext hW
    have := ZAt z bn An n cn t N 9 _ _ (some x) (some s) W ((bcl (o := 1) hW hzl).trans z1) (Nat.lt_of_lt_of_le hzl hW.size) hOW.zn.nodes (hAn.below hW) hn hwt (at_one _ (key_lit _) _ _) (fun x' hx' => by
      cases hx'
      exact ⟨Nat.lt_of_lt_of_le hxl hW.size, bs, (bcl (o := 1) hW hxl).trans x1, hOW.st.sets, at_one _ (key_int _ _) _ _⟩)
    exact this
  have HLo : Hid (∀ W, Below w.heap.size w W → Calls Tryz.prog 59 #[.slice An n.length cn] W fun e w' => ∃ v, e = .returned v ∧ w'.ownsRow W.heap.size 9 1 v n.length ((lower n).map strV) ∧ Below W.heap.size W w') := Lib.hid fun W hW => Lower An n cn W (hAn.below hW) hn.few
  have HROW := Lib.hid (cs_own2 h.st.row)
  have HDAT := Lib.hid h.st.dat
  have HDL := Lib.hid hdl
  have hb1 : Below w.heap.size w (w.alloc (.cells #[.slice none 0 0, .int .u16 0, .int .u32 0, .slice none 0 0] 28)) := (Below.refl _ _).alloc (Nat.le_refl _) _
  have hR1 := heap_alloc_new w (.cells #[.slice none 0 0, .int .u16 0, .int .u32 0, .slice none 0 0] 28)
  have hsz1 : (w.alloc (.cells #[.slice none 0 0, .int .u16 0, .int .u32 0, .slice none 0 0] 28)).heap.size = w.heap.size + 1 := by simp
  clear h hAn hza hxn
  go_enter Tryz.func28, Tryz.ntmps28
  go_wp2_with fail
  generalize w.alloc (.cells #[.slice none 0 0, .int .u16 0, .int .u32 0, .slice none 0 0] 28) = w1 at *
  refine (HAt.out w1 hb1).mono ?_
  rintro e w2 ⟨rfl, hb2⟩
  have hE2 := hb1.trans (hb2.mono hb1.size)
  have hR2 := (hb2.block _ (lt_block hR1)).trans hR1
  have hsz2 := hb2.size
  clear hb2 hR1 hb1 hxb hzb
  go_wp2_with fail
  refine wp_region_dep mixed0 (by kernel_rfl) (fun i j => i == 9 && j == 8) (by kernel_rfl)
    (fun i W W' => if i = 9 then Kept (fun k => w2.heap.size ≤ k) W W' else Ext W W')
    (fun W => Below w2.heap.size w2 W)
    (fun i vals W => match i with
      | 0 => vals 0 = .slice An n.length cn
      | 1 => ∃ A m c, vals 1 = .slice A m c
      | 2 => vals 2 = .int .u16 t
      | 3 => vals 3 = .pointer (some ⟨s, 0, none⟩)
      | 4 => vals 4 = .pointer (some ⟨s, 0, none⟩)
      | 5 => vals 5 = .pointer (some ⟨s, 0, none⟩)
      | 6 => vals 6 = .int .u32 ttl
      | 7 => ∃ A m c, vals 7 = .agg #[.slice A m c, .int .u16 t, .int .u32 ttl, .slice none 0 0]
      | 8 => ∃ g cs, vals 8 = .pointer (some ⟨g, 0, none⟩) ∧ w2.heap.size ≤ g ∧ W.heap[g]? = some (.cells cs 28 (0, 0)) ∧ cs.size = 4
      | 9 => ∃ g A m c, vals 8 = .pointer (some ⟨g, 0, none⟩) ∧ w2.heap.size ≤ g ∧ W.heap[g]? = some (.cells #[.slice A m c, .int .u16 t, .int .u32 ttl, .slice none 0 0] 28 (0, 0))
      | _ => True) ?_ (fun _ => True) (fun _ => false) trivial (fun _ _ _ _ _ _ _ => trivial) ?_ ?_ ?_ ?_ ?_
  · intro j vals i v W hij hw hR
    rcases j with _ | _ | _ | _ | _ | _ | _ | _ | _ | _ | j
    all_goals first
      | exact trivial
      | exact hR
      | (simpa [hij, Ne.symm hij] using hR)
      | skip
    have h8 : ¬ 8 = i := fun h => by
      subst h
      generalize hb : waitsB _ _ _ = b at hw
      have : b = true := by rw [← hb]; kernel_rfl
      rw [this] at hw
      cases hw
    simpa [h8] using hR
  · exact (Below.refl _ w2).drew
  · intro i W W' hC hT
    by_cases h9 : i = 9
    · simp only [h9, if_true] at hT
      exact hC.trans (hT.below hC.size (fun k hk h => by omega))
    · simp only [h9, if_false] at hT
      exact hC.trans (Below.mono hT hC.size)
  · intro i j vals W W' hij hk hw hC hR hT
    by_cases h9 : i = 9
    · subst h9
      rcases j with _ | _ | _ | _ | _ | _ | _ | _ | _ | _ | j
      all_goals first
        | exact trivial
        | exact hR
        | (exfalso; exact hij rfl)
        | (cases hk; done)
    · simp only [h9, if_false] at hT
      rcases j with _ | _ | _ | _ | _ | _ | _ | _ | _ | _ | j
      all_goals first
        | exact trivial
        | exact hR
        | skip
      · obtain ⟨g, cs, h5, h6, h7, h8⟩ := hR
        exact ⟨g, cs, h5, h6, (hT.block _ (lt_block h7)).trans h7, h8⟩
      · obtain ⟨g, A, m, c, h5, h6, h7⟩ := hR
        exact ⟨g, A, m, c, h5, h6, (hT.block _ (lt_block h7)).trans h7⟩
  · intro i o hio vals W hC haf _
    have e0 := (bcl (o := 0) (hE2.trans (hC.mono hE2.size)) hsl).trans s0
    rcases i with _ | _ | _ | _ | _ | _ | _ | _ | _ | _ | i
    all_goals first
      | (exfalso; simp at hio; done)
      | skip
    all_goals
      simp at hio
      subst hio
      simp [bindD, rdB, Region.binds] at haf
    all_goals first
      | (simp [opYield_def, yieldUpon, relAct, dstAt, Act.put, Region.wanted, go_sem, haf, e0, Ext.refl]; done)
      | skip
    · simp [opYield_def, yieldUpon, relAct, dstAt, Act.put, Region.wanted, go_sem, haf]
      refine (HLo.out W (hE2.trans (hC.mono hE2.size))).mono fun e W' h => ?_
      obtain ⟨v, he, ho, hb⟩ := h
      obtain ⟨A, c, hv, _⟩ := own_form ho
      exact ⟨v, he, hb, A, _, c, hv⟩
    · obtain ⟨⟨A, m, c, h1⟩, h2, h6⟩ := haf
      simp [opYield_def, yieldUpon, relAct, dstAt, Act.put, Region.wanted, go_sem, h1, h2, h6, Ext.refl]
    · simp [opYield_def, yieldUpon, relAct, dstAt, Act.put, Region.wanted, go_sem]
      exact ⟨(Below.refl _ _).alloc (Nat.le_refl _) _, hC.size, #[.slice none 0 0, .int .u16 0, .int .u32 0, .slice none 0 0], by simp only [World.alloc, Array.getElem_push_eq], rfl⟩
    · obtain ⟨⟨g, h8, hg, cs, h10, h11⟩, A, m, c, h7⟩ := haf
      refine yield_store (g := g) (cells := #[.slice A m c, .int .u16 t, .int .u32 ttl, .slice none 0 0]) rfl rfl (by simp [relAct, dstAt, Act.put, Act.eval, h8]) (by simp [relAct, dstAt, Act.put, Act.eval, h7]) h10 (by kernel_rfl) h11 (by simp [Value.oneCell']) ?_
      have hblk := setRow_block W g #[.slice A m c, .int .u16 t, .int .u32 ttl, .slice none 0 0] cs 28 (0, 0) h10
      have hgr := setRow_grown W g #[.slice A m c, .int .u16 t, .int .u32 ttl, .slice none 0 0]
      exact ⟨(Kept.of_grown hgr).mono (fun k _ h => by cases h; exact hg), g, A, m, c, by simpa using h8, hg, hblk⟩
  · intro vals W hC hR
    have h9 := hR 9 (by show 9 < 10; omega) (fun i _ => by simp)
    obtain ⟨g, A4, m4, c4, h8, hg, hgb⟩ := h9
    have hE3 := hE2.trans (hC.mono hE2.size)
    have hCs := hC.size
    have hR3 := (hC.block _ (lt_block hR2)).trans hR2
    have q1 := (bcl (o := 1) hE3 hsl).trans s1
    have hgl := lt_block hgb
    have hgw : w1.heap.size ≤ g := Nat.le_trans hsz2 hg
    simp [relAct, dstAt, Act.put]
    rw [h8]
    clear hR hC h8
    generalize vals 0 = p0 at *
    generalize vals 1 = p1 at *
    generalize vals 2 = p2 at *
    generalize vals 3 = p3 at *
    generalize vals 4 = p4 at *
    generalize vals 5 = p5 at *
    generalize vals 6 = p6 at *
    generalize vals 7 = p7 at *
    go_wp2_with fail
    have hst : SetR g W.heap.size w1.heap.size (.slice A4 m4 c4) (.int .u16 t) (.int .u32 ttl) ds.length W (.int .i64 0) W := ⟨0, none, 0, [], Nat.zero_le _, rfl, hgb, World.ownsRow_nil _ _ _ _, fun b e => by (cases e), Below.refl _ _, fun y hy => by (cases hy)⟩
    have HST := Lib.hid hst
    have HSZ : Hid (w1.heap.size ≤ W.heap.size) := Lib.hid (Nat.le_trans hsz2 hCs)
    clear hst hgb
    go_loopw [32] (SetR g W.heap.size w1.heap.size (.slice A4 m4 c4) (.int .u16 t) (.int .u32 ttl) ds.length W) (fun i _ => ds.length - (intOf i).toNat)
    case atStart => exact HST.out
    case round =>
      obtain ⟨j, Aj, cj, xs, hj, rfl, hgb, hown, hnb, hbel, hsx⟩ := hrel
      have HSX := Lib.hid hsx
      clear hsx
      have hgbl := lt_block hgb
      obtain ⟨r0, r1, r2, r3⟩ := cells4 hgb
      have hBW : Below w.heap.size w wr := hE3.trans (hbel.mono (by omega))
      have hgn : w.heap.size ≠ g := by omega
      by_cases hlt : j < ds.length
      · obtain ⟨d0, d1⟩ := datC_get ds j hlt
        obtain ⟨bk, off, rfl, hbk, hc0⟩ := HROW.out _ _ d0
        obtain ⟨_, _, e9, _, hc1⟩ := HROW.out _ _ d1
        cases e9
        have t0 := (hBW.cell (p := ⟨bk, off + j * 2, none⟩) hbk).trans hc0
        have t1 := (hBW.cell (p := ⟨bk, off + (j * 2 + 1), none⟩) hbk).trans hc1
        rw [← Nat.add_assoc] at t1
        have hok := (HDAT.out ds[j] (List.getElem_mem hlt)).1
        have hle := HDL.out ds[j] (List.getElem_mem hlt)
        generalize ds[j] = dd at *
        obtain ⟨y1, y2⟩ := dd
        unfold Blob.v at t0 t1
        simp only at t0 t1 hok hle
        have hy := own_below hok hBW
        clear d0 d1 hc0 hc1 hok
        have hrl8 : wr.heap.size < (wr.alloc (.cells #[.slice y1.A y1.l.length y1.cap, .slice y2.A y2.l.length y2.cap] 119)).heap.size := by simp
        have hb8 : Below wr.heap.size wr (wr.alloc (.cells #[.slice y1.A y1.l.length y1.cap, .slice y2.A y2.l.length y2.cap] 119)) := (Below.refl _ _).alloc (Nat.le_refl _) _
        have hh8 := heap_alloc_new wr (.cells #[.slice y1.A y1.l.length y1.cap, .slice y2.A y2.l.length y2.cap] 119)
        have hg8 := (hb8.block g hgbl).trans hgb
        have hy8 := own_below hy hb8
        have ho8 := own_below hown hb8
        clear HST HAt HLo
        go_wp2_with fail
        generalize wr.alloc (.cells #[.slice y1.A y1.l.length y1.cap, .slice y2.A y2.l.length y2.cap] 119) = w8 at *
        have HY8 := Lib.hid hy8
        have HI8 := Lib.hid (And.intro hg8 ho8)
        have HH8 := Lib.hid hh8
        have HLT : Hid (∀ k, k = g ∨ some k = (Value.slice Aj j cj).ownBlock → k < w8.heap.size ∧ w1.heap.size ≤ k) := Lib.hid (by
          rintro k (e | e)
          · rw [e]; omega
          · obtain ⟨cs, e1, e2⟩ := row_block ho8 e.symm
            have := lt_block e1
            have := hE3.size
            have := hbel.size
            have : w1.heap.size ≤ W.heap.size := HSZ.out
            omega)
        have HNB := Lib.hid hnb
        have hbel8 := hbel.trans (hb8.mono (Nat.le_trans HSZ.out hbel.size))
        clear hy hown hgb hb8 hnb r0 r1 r2 r3 t0 t1 hy8 hg8 ho8 hbel hh8
        refine wp_region_dep mixed0 (by kernel_rfl) (fun i k => i == 8 && k == 6) (by kernel_rfl)
          (fun i V V' => if i = 6 then Kept (fun k => some k = (Value.slice Aj j cj).ownBlock) V V' else if i = 8 then Kept (fun k => k = g) V V' else Ext V V')
          (fun V => Kept (fun k => k = g ∨ some k = (Value.slice Aj j cj).ownBlock) w8 V)
          (fun i vals V => match i with
            | 0 => vals 0 = .pointer (some ⟨g, 3, none⟩)
            | 1 => vals 1 = .slice Aj j cj
            | 2 => vals 2 = .pointer (some ⟨wr.heap.size, 0, none⟩)
            | 3 => vals 3 = .slice y1.A y1.l.length y1.cap
            | 4 => ∃ A m c, vals 4 = .slice A m c
            | 5 => ∃ q A m c, vals 5 = .slice (some ⟨q, 0, none⟩) 1 1 ∧ w8.heap.size ≤ q ∧ V.heap[q]? = some (.cells #[.slice A m c] 31 (0, 0))
            | 6 => ∃ A c u, vals 6 = .slice A (j + 1) c ∧ IsSl u ∧ V.ownsRow W.heap.size 31 1 (.slice A (j + 1) c) (j + 1) (xs ++ [u]) ∧ (∀ b, (Value.slice A (j + 1) c).ownBlock = some b → b ≠ g) ∧ V.heap[g]? = some (.cells #[.slice A4 m4 c4, .int .u16 t, .int .u32 ttl, .slice Aj j cj] 28 (0, 0))
            | 7 => vals 7 = .pointer (some ⟨g, 3, none⟩)
            | 8 => ∃ A c u, IsSl u ∧ V.ownsRow W.heap.size 31 1 (.slice A (j + 1) c) (j + 1) (xs ++ [u]) ∧ (∀ b, (Value.slice A (j + 1) c).ownBlock = some b → b ≠ g) ∧ V.heap[g]? = some (.cells #[.slice A4 m4 c4, .int .u16 t, .int .u32 ttl, .slice A (j + 1) c] 28 (0, 0))
            | _ => True) ?_ (fun V => V.heap[g]? = some (.cells #[.slice A4 m4 c4, .int .u16 t, .int .u32 ttl, .slice Aj j cj] 28 (0, 0)) ∧ V.ownsRow W.heap.size 31 1 (.slice Aj j cj) j xs) (fun i => i == 6 || i == 8) ⟨HI8.out.1, HI8.out.2⟩ ?_ ?_ ?_ ?_ ?_ ?_
        · intro k vals i v V hij hw hR
          rcases k with _ | _ | _ | _ | _ | _ | _ | _ | _ | k
          all_goals first
            | exact trivial
            | exact hR
            | (simpa [hij, Ne.symm hij] using hR)
        · intro i V V' hk hC hI hT
          by_cases h6 : i = 6
          · subst h6; cases hk
          · by_cases h8 : i = 8
            · subst h8; cases hk
            · simp only [h6, h8, if_false] at hT
              exact ⟨(hT.block _ (lt_block hI.1)).trans hI.1, own_below hI.2 hT⟩
        · exact (Kept.refl _ w8).drew
        · intro i V V' hC hT
          by_cases h6 : i = 6
          · simp only [h6, if_true] at hT
            exact hC.trans (hT.mono (fun k _ h => .inr h))
          · by_cases h8 : i = 8
            · simp only [h8] at hT
              exact hC.trans (Kept.mono hT (fun k _ h => .inl h))
            · simp only [h6, h8, if_false] at hT
              exact hC.trans (Kept.mono (Kept.of_ext hT) (fun _ _ h => h.elim))
        · intro i k vals V V' hij hk hw hC hR hT
          by_cases h6 : i = 6
          · simp only [h6, if_true] at hT
            subst h6
            rcases k with _ | _ | _ | _ | _ | _ | _ | _ | _ | k
            all_goals first
              | exact trivial
              | exact hR
              | (exfalso; exact hij rfl)
              | skip
            · obtain ⟨q, A, m, c, h1, h2, h3⟩ := hR
              exact ⟨q, A, m, c, h1, h2, (hT.block q (lt_block h3) (fun e => by have := (HLT.out q (.inr e)).1; omega)).trans h3⟩
            · exfalso
              generalize hb : waitsB _ _ _ = b at hw
              have : b = true := by rw [← hb]; kernel_rfl
              rw [this] at hw
              cases hw
          · by_cases h8 : i = 8
            · simp only [h8] at hT
              have hT : Kept (fun k => k = g) V V' := hT
              subst h8
              rcases k with _ | _ | _ | _ | _ | _ | _ | _ | _ | k
              all_goals first
                | exact trivial
                | exact hR
                | (exfalso; exact hij rfl)
                | (cases hk; done)
                | skip
              obtain ⟨q, A, m, c, h1, h2, h3⟩ := hR
              exact ⟨q, A, m, c, h1, h2, (hT.block q (lt_block h3) (fun e => by have := (HLT.out q (.inl e)).1; omega)).trans h3⟩
            · simp only [h6, h8, if_false] at hT
              rcases k with _ | _ | _ | _ | _ | _ | _ | _ | _ | k
              all_goals first
                | exact trivial
                | exact hR
                | skip
              · obtain ⟨q, A, m, c, h1, h2, h3⟩ := hR
                exact ⟨q, A, m, c, h1, h2, (hT.block q (lt_block h3)).trans h3⟩
              · obtain ⟨A, c, u, h1, hs, h2, h3, h4⟩ := hR
                exact ⟨A, c, u, h1, hs, own_below h2 hT, h3, (hT.block _ (lt_block h4)).trans h4⟩
              · obtain ⟨A, c, u, hs, h2, h3, h4⟩ := hR
                exact ⟨A, c, u, hs, own_below h2 hT, h3, (hT.block _ (lt_block h4)).trans h4⟩
        · intro i o hio vals V hC haf hI0
          have hhS : ¬ (wr.heap.size = g ∨ some wr.heap.size = (Value.slice Aj j cj).ownBlock) := by
            rintro (e | e)
            · omega
            · obtain ⟨cs, e1, _⟩ := row_block HI8.out.2 e.symm
              rw [HH8.out] at e1
              cases e1
          obtain ⟨t0, _⟩ := cells2 ((hC.block _ (lt_block HH8.out) hhS).trans HH8.out)
          rcases i with _ | _ | _ | _ | _ | _ | _ | _ | _ | i
          all_goals first
            | (exfalso; simp at hio; done)
            | skip
          all_goals
            simp at hio
            subst hio
            simp [bindD, rdB, Region.binds] at haf
          all_goals first
            | (simp [opYield_def, yieldUpon, relAct, dstAt, Act.put, Region.wanted, go_sem, haf, t0, Ext.refl]; done)
            | skip
          · have hI := hI0 (fun k hk hk2 => by
              have h : k = 6 ∨ k = 8 := by simpa using hk2
              rcases h with rfl | rfl
              · exact .inr (by kernel_rfl)
              · exact .inr (by kernel_rfl))
            obtain ⟨_, _, _, e3, _⟩ := cells4 hI.1
            simp [opYield_def, yieldUpon, relAct, dstAt, Act.put, Region.wanted, go_sem, haf, e3, Ext.refl]
          · simp [opYield_def, yieldUpon, relAct, dstAt, Act.put, Region.wanted, go_sem, haf]
            have hyV := Kept.row HY8.out hC (fun k hkb e => by
              obtain ⟨cs, e1, _⟩ := row_block HY8.out hkb
              rcases e with e | e
              · exact ne_cells e1 HI8.out.1 (by decide) e
              · obtain ⟨cs', e2, _⟩ := row_block HI8.out.2 e.symm
                exact ne_cells e1 e2 (by decide) rfl)
            refine (CloneB y1.A y1.l y1.cap V (cs_own hyV).2 (by omega)).mono fun e V' h => ?_
            obtain ⟨v, he, ho, hb⟩ := h
            obtain ⟨A, c, hv, _⟩ := own_form ho
            exact ⟨v, he, hb, A, _, c, hv⟩
          · obtain ⟨A, m, c, h1⟩ := haf
            simp [opYield_def, yieldUpon, relAct, dstAt, Act.put, Region.wanted, go_sem, h1, Ext.refl]
            exact ⟨(Below.refl _ _).alloc (Nat.le_refl _) _, hC.size, A, m, c, by simp only [World.alloc, Array.getElem_push_eq]⟩
          · obtain ⟨h1, q, h5, hq, A, m, c, hqb⟩ := haf
            have hI := hI0 (fun k hk hk2 => by
              have h : k = 6 ∨ k = 8 := by simpa using hk2
              rcases h with rfl | rfl
              · exact .inl rfl
              · exact .inr (by kernel_rfl))
            refine yield_push (us := [.slice A m c]) rfl (.tmp 37) (.tmp 41) Tryz.underlying26 rfl hi hz0 hz1 hz2 rfl (by decide) (by simp [relAct, dstAt, Act.put, Act.eval, h1]) hI.2 (by have := hbel8.size; have := hC.size; omega) (g := q) (by simp [relAct, dstAt, Act.put, Act.eval, h5]) rfl
              (fun k u hk => by rw [add_plain, cell_of_row _ _ _ _ _ _ hqb, Nat.zero_add]; simpa using hk) (by simp [Value.oneCell']) (by unfold maxLen; omega) (by omega) ?_
            intro v' V' hown' hg' hat'
            obtain ⟨A', c', rfl, _⟩ := own_form hown'
            have hkk : Kept (fun k => some k = (Value.slice Aj j cj).ownBlock) V V' := Kept.of_grown hg'
            refine ⟨hkk, A', c', .slice A m c, rfl, ⟨_, _, _, rfl⟩, hown', fun b hb e => ?_, (hkk.block g (lt_block hI.1) (fun e => HNB.out g e.symm rfl)).trans hI.1⟩
            have := lt_block HI8.out.1
            have := hC.size
            rcases hat' with h | h
            · exact HNB.out b (h ▸ hb) e
            · rw [h] at hb
              cases hb
              omega
          · obtain ⟨h7, A, c, h6, u, hus, hu, hb, hgb⟩ := haf
            obtain ⟨_, _, _, e3, f3⟩ := cells4 hgb
            have f3 := f3 3
            have hkk : Kept (fun k => k = g) V (V.setCell ⟨g, 3, none⟩ (.slice A (j + 1) c)) := (Kept.refl (fun k => k = g) V).setCell (fun _ => rfl) _
            have hset := heap_set (i := 3) (v := .slice A (j + 1) c) hgb
            simp [opYield_def, yieldUpon, relAct, dstAt, Act.put, Region.wanted, go_sem, h7, h6, e3, f3]
            refine ⟨hkk, A, c, u, hus, Kept.row hu hkk (fun k hkb e => hb k hkb e), hb, ?_⟩
            first | exact hset | (simpa using hset)
        · intro vals V hC hR
          have h8 := hR 8 (by show 8 < 9; omega) (fun i _ => by simp)
          obtain ⟨A, c, u, gs, g1, g2, g3⟩ := h8
          have hbelV := hbel8.trans (hC.below (Nat.le_trans HSZ.out hbel8.size) (fun k hk e => by have := (HLT.out k e).2; omega))
          have HG := Lib.hid (And.intro g1 (And.intro g2 g3))
          clear hR g1 g2 g3 hC
          simp [relAct, dstAt, Act.put]
          generalize vals 0 = k0x
          generalize vals 1 = k1x
          generalize vals 2 = k2x
          generalize vals 3 = k3x
          generalize vals 4 = k4x
          generalize vals 5 = k5x
          generalize vals 6 = k6x
          generalize vals 7 = k7x
          generalize vals 8 = k8x
          go_wp2_with fail
          exact ⟨⟨j + 1, A, c, xs ++ [u], by omega, by go_num, HG.out.2.2, HG.out.1, HG.out.2.1, hbelV, fun y hy => by
            rcases List.mem_append.1 hy with h | h
            · exact HSX.out y h
            · rcases List.mem_cons.1 h with rfl | h
              · exact gs
              · cases h⟩, by simp [intOf]; omega⟩
      · have hjl : j = ds.length := by omega
        subst hjl
        have hRr := (hbel.block w.heap.size (by omega)).trans hR3
        clear HST HAt HLo
        go_wp2_with (first | (refine wpList_store_row rfl 28 (.tmp 6) (.tmp 45) rfl w.heap.size #[.slice A4 m4 c4, .int .u16 t, .int .u32 ttl, .slice Aj ds.length cj] rfl rfl 28 _ hRr (by kernel_rfl) rfl (by simp [Value.oneCell']) ?_))
        have hrb := setRow_block wr w.heap.size #[.slice A4 m4 c4, .int .u16 t, .int .u32 ttl, .slice Aj ds.length cj] _ _ _ hRr
        have hgr := setRow_grown wr w.heap.size #[.slice A4 m4 c4, .int .u16 t, .int .u32 ttl, .slice Aj ds.length cj]
        obtain ⟨f0, f1, f2, f3, _⟩ := cells4 hrb
        have hk : Kept (fun k => k = w.heap.size) wr (wr.setRow w.heap.size #[.slice A4 m4 c4, .int .u16 t, .int .u32 ttl, .slice Aj ds.length cj]) := (Kept.of_grown hgr).mono (fun k _ h => by cases h; rfl)
        have hown2 := Kept.row hown hk (fun k hkb e => by have := (hown.lt k hkb).1; have := hE3.size; omega)
        generalize wr.setRow w.heap.size #[.slice A4 m4 c4, .int .u16 t, .int .u32 ttl, .slice Aj ds.length cj] = w9 at *
        refine bodyPost_ret (v := .tuple #[.agg #[.slice A4 m4 c4, .int .u16 t, .int .u32 ttl, .slice Aj ds.length cj], .bool true]) ?_ rfl ⟨hBW.trans (hk.below hBW.size (fun k hk e => by omega)), A4, m4, c4, Aj, cj, xs, rfl, own_base hown2 hE3.size, HSX.out⟩
        simp [results, Tryz.results28, go_sem, f0, f1, f2, f3]
end Nm
end Go.Proofs.YtkeimgamjnpcbaaGreat

/- Contracts of package zone: Records, of one record. -/
namespace Go.Proofs.YtkeimgamjnpcbaaGreat
open Go.RowKit
set_option linter.unusedVariables false
set_option linter.unusedSimpArgs false
namespace Nm
theorem zkey_lower (n : List Lab) : zkey (lower n) = zkey n := by unfold zkey; rw [lower_idem]
theorem One.low {w : World} {B z bn bb x bs s : Nat} {ap n : List Lab} {t ttl : Int} {v : Value} {ds : List (Blob × Blob)} {f : Lab → Int} {N : Nat} (h : One w B z bn bb x bs s ap n t ttl v ds f N) : One w B z bn bb x bs s ap (lower n) t ttl v ds f N := by
  refine ⟨by rw [zkey_lower]; exact h.zn, ⟨?_, h.st.sets, h.st.set, h.st.row, h.st.dat, h.st.h1, h.st.h2⟩, h.n1, h.n2⟩
  rw [lower_idem, lower_len]
  exact h.st.node
theorem info_rec : (Tryz.prog.info? 51).map (fun i => (i.zero, i.size, i.bytes)) = some (some (.agg #[.slice none 0 0, .int .u16 0, .int .u16 0, .int .u32 0, .slice none 0 0]), 5, 56) := by kernel_rfl
set_option maxRecDepth 100000 in
set_option maxHeartbeats 20000000 in
theorem ZRecs1 (w : World) (B z bn bb x bs s : Nat) (ap n : List Lab) (t ttl : Int) (v : Value) (d1 : Blob × Blob) (f : Lab → Int) (N : Nat) (h : One w B z bn bb x bs s ap n t ttl v [d1] f N) (hn : Small n) (hwt : (Lit.int .u16 t).wf = true) (hdl : d1.1.l.length ≤ 100000) :
    Calls Tryz.prog 31 #[.pointer (some ⟨z, 0, none⟩)] w fun e w' => (∃ A c, e = .returned (.slice A 1 c)) ∧ Below w.heap.size w w' := by
  obtain ⟨i0, hi, hi0, hi1, hi2⟩ := info_parts info_rec
  have hll : (lower n).length = n.length := lower_len n
  have hlow := h.low
  have hN := ZNames w B z bn bb x bs s ap n t ttl v [d1] f N h hn
  have HN := Lib.hid hN
  have HT : Hid (∀ A c W, Below w.heap.size w W → Cs W A ((lower n).map strV) → Calls Tryz.prog 50 #[.pointer (some ⟨z, 0, none⟩), .slice A n.length c] W fun e w' => ∃ v, e = .returned v ∧ w'.ownsRow W.heap.size 24 1 v 1 [.int .u16 t] ∧ Below W.heap.size W w') := Lib.hid fun A c W hW hA => by
    have := ZTypes W B z bn bb x bs s ap (lower n) t ttl v [d1] f N (hlow.ext hW) A (lower n) c hA hn.lower rfl
    rw [hll] at this
    exact this
  have HS : Hid (∀ A c W, Below w.heap.size w W → Cs W A ((lower n).map strV) → Calls Tryz.prog 28 #[.pointer (some ⟨z, 0, none⟩), .slice A n.length c, .int .u16 t] W fun e w' => Below W.heap.size W w' ∧ ∃ Am m cm Ad cd xs, e = .returned (.tuple #[.agg #[.slice Am m cm, .int .u16 t, .int .u32 ttl, .slice Ad 1 cd], .bool true]) ∧ w'.ownsRow W.heap.size 31 1 (.slice Ad 1 cd) 1 xs ∧ ∀ y ∈ xs, IsSl y) := Lib.hid fun A c W hW hA => by
    have := ZSet W B z bn bb x bs s ap (lower n) t ttl v [d1] f N (hlow.ext hW) A c hA hn.lower hwt (by simp) (fun d hd => by rcases List.mem_cons.1 hd with rfl | hd; exact hdl; cases hd)
    rw [hll] at this
    exact this
  have HCl : Hid (∀ A c W, Cs W A ((lower n).map strV) → Calls Tryz.prog 55 #[.slice A n.length c] W fun e w' => ∃ v, e = .returned v ∧ w'.ownsRow W.heap.size 9 1 v n.length ((lower n).map strV) ∧ Below W.heap.size W w') := Lib.hid fun A c W hA => by
    have := CloneN A (lower n) c W hA (by rw [hll]; have := hn.1; omega)
    rw [hll] at this
    exact this
  clear h hlow hN hll
  go_enter Tryz.func31, Tryz.ntmps31
  go_wp2_with fail
  refine HN.out.mono ?_
  rintro e w1 ⟨hb1, v1, A, c, rfl, hr1, hs1⟩
  obtain ⟨A1, c1, rfl, _⟩ := own_form hr1
  have hc1 := cs_own2 hr1
  obtain ⟨bk, off, e1, hlt1, hcell1⟩ := hc1 0 _ rfl
  cases e1
  rw [Nat.add_zero] at hcell1
  have hcA := (cs_own hs1).2
  have hz1 := hb1.size
  have HOS := Lib.hid hs1
  clear hr1 hs1 hc1
  go_wp2_with fail
  refine wp_loop_rounds 2 ?_
  rw [rounds_succ]
  go_wp2_with fail
  refine (HT.out A c w1 hb1 hcA).mono ?_
  rintro e w2 ⟨v2, rfl, hr2, hb2⟩
  obtain ⟨A2, c2, rfl, _⟩ := own_form hr2
  obtain ⟨bk2, off2, e2, hlt2, hcell2⟩ := cs_own2 hr2 0 _ rfl
  cases e2
  rw [Nat.add_zero] at hcell2
  have hb12 := hb1.trans (hb2.mono hz1)
  have hcA2 := hcA.below hb2
  have hz2 := hb2.size
  clear hr2
  go_wp2_with fail
  refine wp_loop_rounds 2 ?_
  rw [rounds_succ]
  go_wp2_with fail
  refine (HS.out A c w2 hb12 hcA2).mono ?_
  rintro e w3 ⟨hb3, Am, m, cm, Ad, cd, xs, rfl, hr3, hsl⟩
  have hxl : ∃ P q r, xs = [.slice P q r] := by
    have hl := hr3.1
    match xs, hl with
    | [u], _ =>
      obtain ⟨P, q, r, rfl⟩ := hsl u (by simp)
      exact ⟨P, q, r, rfl⟩
  obtain ⟨P, q, r, rfl⟩ := hxl
  obtain ⟨bk3, off3, e3, hlt3, hcell3⟩ := cs_own2 hr3 0 _ rfl
  cases e3
  rw [Nat.add_zero] at hcell3
  have hb13 := hb12.trans (hb3.mono hb12.size)
  have hcA3 := hcA2.below hb3
  have hz3 := hb3.size
  clear hr3 hsl
  have hbq : Below w3.heap.size w3 (w3.alloc (.cells #[.slice Am m cm, .int .u16 t, .int .u32 ttl, .slice (some ⟨bk3, off3, none⟩) 1 cd] 28)) := (Below.refl _ _).alloc (Nat.le_refl _) _
  have hq := heap_alloc_new w3 (.cells #[.slice Am m cm, .int .u16 t, .int .u32 ttl, .slice (some ⟨bk3, off3, none⟩) 1 cd] 28)
  obtain ⟨q0, q1, q2, q3, _⟩ := cells4 hq
  have hcell3' := (bcl (o := off3) hbq hlt3).trans hcell3
  have hcA4 := hcA3.below hbq
  go_wp2_with fail
  refine wp_loop_rounds 2 ?_
  rw [rounds_succ]
  go_wp2_with fail
  generalize w3.alloc (.cells #[.slice Am m cm, .int .u16 t, .int .u32 ttl, .slice (some ⟨bk3, off3, none⟩) 1 cd] 28) = w4 at *
  have hql := lt_block hq
  have hB4 : Below w.heap.size w w4 := hb13.trans (hbq.mono hb13.size)
  refine wp_region_dep mixed0 (by kernel_rfl) (fun i j => false) (by kernel_rfl) (fun i W W' => Ext W W') (fun W => Below w4.heap.size w4 W)
    (fun i vals W => match i with
      | 0 => vals 0 = .slice none 0 0
      | 1 => vals 1 = .slice A n.length c
      | 2 => ∃ A m c, vals 2 = .slice A m c
      | 3 => vals 3 = .int .u16 t
      | 4 => vals 4 = .pointer (some ⟨w3.heap.size, 2, none⟩)
      | 5 => vals 5 = .int .u32 ttl
      | 6 => vals 6 = .slice P q r
      | 7 => ∃ A m c, vals 7 = .agg #[.slice A m c, .int .u16 t, .int .u16 1, .int .u32 ttl, .slice P q r]
      | 8 => ∃ g A m c, vals 8 = .slice (some ⟨g, 0, none⟩) 1 1 ∧ W.heap[g]? = some (.cells #[.slice A m c, .int .u16 t, .int .u16 1, .int .u32 ttl, .slice P q r] 51 (0, 0))
      | 9 => ∃ A c, vals 9 = .slice A 1 c
      | 10 => ∃ A c, vals 10 = .slice A 1 c
      | _ => True) ?_ (fun _ => True) (fun _ => false) trivial (fun _ _ _ _ _ _ _ => trivial) ?_ ?_ ?_ ?_ ?_
  · intro j vals i v W hij hw hR
    rcases j with _ | _ | _ | _ | _ | _ | _ | _ | _ | _ | _ | j
    all_goals first
      | exact trivial
      | exact hR
      | (simpa [hij, Ne.symm hij] using hR)
  · exact (Below.refl _ w4).drew
  · intro i W W' hC hT
    exact hC.trans (Below.mono hT hC.size)
  · intro i j vals W W' hij hk hw hC hR hT
    rcases j with _ | _ | _ | _ | _ | _ | _ | _ | _ | _ | _ | j
    all_goals first
      | exact trivial
      | exact hR
      | skip
    obtain ⟨g, A', m', c', h1, h2⟩ := hR
    exact ⟨g, A', m', c', h1, (Below.block hT _ (lt_block h2)).trans h2⟩
  · intro i o hio vals W hC haf _
    have e2 := (bcl (o := 2) hC hql).trans q2
    rcases i with _ | _ | _ | _ | _ | _ | _ | _ | _ | _ | _ | i
    all_goals first
      | (exfalso; simp at hio; done)
      | skip
    all_goals
      simp at hio
      subst hio
      simp [bindD, rdB, Region.binds] at haf
    all_goals first
      | (simp [opYield_def, yieldUpon, relAct, dstAt, Act.put, Region.wanted, go_sem, haf, e2, Ext.refl]; done)
      | skip
    · simp [opYield_def, yieldUpon, relAct, dstAt, Act.put, Region.wanted, go_sem, haf]
      refine (HCl.out A c W (hcA4.below hC)).mono fun e W' h => ?_
      obtain ⟨v, he, ho, hb⟩ := h
      obtain ⟨A', c', hv, _⟩ := own_form ho
      exact ⟨v, he, hb, A', _, c', hv⟩
    · obtain ⟨⟨A', m', c', h2⟩, h3, h5, h6⟩ := haf
      simp [opYield_def, yieldUpon, relAct, dstAt, Act.put, Region.wanted, go_sem, h2, h3, h5, h6, Ext.refl]
    · obtain ⟨A', m', c', h7⟩ := haf
      simp [opYield_def, yieldUpon, relAct, dstAt, Act.put, Region.wanted, go_sem, h7, Ext.refl]
      exact ⟨(Below.refl _ _).alloc (Nat.le_refl _) _, A', m', c', by simp only [World.alloc, Array.getElem_push_eq]⟩
    · obtain ⟨h0, g, h8, A', m', c', hg⟩ := haf
      refine yield_push (us := [.slice A' m' c', .int .u16 t, .int .u16 1, .int .u32 ttl, .slice P q r]) rfl (.tmp 41) (.tmp 49) Tryz.underlying61 rfl hi hi0 hi1 hi2 rfl (by decide) (by simp [relAct, dstAt, Act.put, Act.eval, h0]) (World.ownsRow_nil W W.heap.size 51 5) (Nat.le_refl _) (g := g) (by simp [relAct, dstAt, Act.put, Act.eval, h8]) rfl
        (fun k u hk => by rw [add_plain, cell_of_row _ _ _ _ _ _ hg, Nat.zero_add]; simpa using hk) (by simp [Value.oneCell']) (by unfold maxLen; omega) (by omega) ?_
      intro v' W' hown' hg' hat'
      obtain ⟨A'', c'', rfl, _⟩ := own_form hown'
      exact ⟨⟨hg'.os, hg'.tape, hg'.output, hg'.size, fun k hk => hg'.block k hk (by simp [Value.ownBlock])⟩, A'', c'', rfl⟩
  · intro vals W hC hR
    have h10 := hR 10 (by show 10 < 11; omega) (fun i _ => rfl)
    obtain ⟨A', c', h10⟩ := h10
    have hBW := hB4.trans (Below.mono hC hB4.size)
    simp [relAct, dstAt, Act.put]
    rw [h10]
    clear hR h10
    generalize vals 0 = p0
    generalize vals 1 = p1
    generalize vals 2 = p2
    generalize vals 3 = p3
    generalize vals 4 = p4
    generalize vals 5 = p5
    generalize vals 6 = p6
    generalize vals 7 = p7
    generalize vals 8 = p8
    generalize vals 9 = p9
    go_wp2_with fail
    rw [rounds_succ]
    go_wp2_with fail
    rw [rounds_succ]
    go_wp2_with fail
    rw [rounds_succ]
    go_wp2_with fail
    go_ret
    exact ⟨⟨A', c', rfl⟩, hBW⟩
end Nm
end Go.Proofs.YtkeimgamjnpcbaaGreat

/- Contracts of package zone: Put, the zone is full. -/
namespace Go.Proofs.YtkeimgamjnpcbaaGreat
open Go.RowKit
set_option linter.unusedVariables false
namespace Nm
set_option maxRecDepth 100000 in
set_option maxHeartbeats 20000000 in
theorem PutFull (w : World) (B z bn bb x bs s : Nat) (ap n : List Lab) (t ttl : Int) (v : Value) (ds : List (Blob × Blob)) (f : Lab → Int) (N : Nat) (h : One w B z bn bb x bs s ap n t ttl v ds f N) (An : Option Addr) (cn : Nat) (Ad : Option Addr) (d : Lab) (cd : Nat) (ttl2 : Int) (hAn : Cs w An (n.map strV)) (hAd : w.ownsRow 0 5 1 (.slice Ad d.length cd) d.length (d.map byteV)) (hr : Rec n ap t d cn cd) (hap : Small ap) (p : Nat) (hp : FindAt ds (canonD t d) p) (hds : ds.length ≤ 1000000) (hhit : hitB ds (canonD t d) p = false) (hfull : 2000 ≤ ds.length) :
    Calls Tryz.prog 27 #[.pointer (some ⟨z, 0, none⟩), .agg #[.slice An n.length cn, .int .u16 t, .int .u16 1, .int .u32 ttl2, .slice Ad d.length cd]] w fun e w' => e = .returned (.tuple #[.bool false, .int .i64 111]) ∧ One w' B z bn bb x bs s ap n t ttl v ds f N ∧ Turn B w w' := by
  have hb1 : Below w.heap.size w (w.alloc (.cells #[.slice An n.length cn, .int .u16 t, .int .u16 1, .int .u32 ttl2, .slice Ad d.length cd] 51)) := (Below.refl _ _).alloc (Nat.le_refl _) _
  have hblk := heap_alloc_new w (.cells #[.slice An n.length cn, .int .u16 t, .int .u16 1, .int .u32 ttl2, .slice Ad d.length cd] 51)
  obtain ⟨k0, k1, k2, k3, k4, kf⟩ := cells5 hblk
  have hsz : (w.alloc (.cells #[.slice An n.length cn, .int .u16 t, .int .u16 1, .int .u32 ttl2, .slice Ad d.length cd] 51)).heap.size = w.heap.size + 1 := by simp
  have hO := h.ext hb1
  have hAn1 := hAn.below hb1
  have hAd1 := own_below hAd hb1
  go_enter Tryz.func27, Tryz.ntmps27
  go_wp2_with fail
  generalize w.alloc (.cells #[.slice An n.length cn, .int .u16 t, .int .u16 1, .int .u32 ttl2, .slice Ad d.length cd] 51) = w1 at *
  have hrl : w.heap.size < w1.heap.size := by omega
  obtain ⟨Aa, ca, hzb, hza⟩ := hO.zn.blk
  have hzl := lt_block hzb
  obtain ⟨z0, z1, z2, z3, zf⟩ := cells4 hzb
  have hcs_ap := (cs_own hza).2
  obtain ⟨hr1, hr2, hr3, hr4, hr5, hr6, hr7, hr8, hr9, hr10, hr11⟩ := hr
  have HCk : Hid (∀ W, Below w1.heap.size w1 W → Calls Tryz.prog 65 #[.slice An n.length cn] W fun e w' => e = .returned (.int .i64 0) ∧ W = w') := Lib.hid fun W hW => by
    have := Check An n cn W (hAn1.below hW) hr1.few
    rw [hr2] at this
    exact this
  have HWi : Hid (∀ W, Below w1.heap.size w1 W → Calls Tryz.prog 66 #[.slice An n.length cn, .slice Aa ap.length ca] W fun e w' => Below W.heap.size W w' ∧ e = .returned (.bool true)) := Lib.hid fun W hW => by
    have := Within An Aa n ap cn ca W (hAn1.below hW) (hcs_ap.below hW) hr1.few hap.few hr8 hr9
    rw [hr3] at this
    exact this
  have HRc : Hid (∀ W, Below w1.heap.size w1 W → Calls Tryz.prog 67 #[.int .u16 t, .slice Ad d.length cd] W fun e w' => Below W.heap.size W w' ∧ e = .returned (.int .i64 0)) := Lib.hid fun W hW => by
    have := CheckE t hr4 Ad d cd W ((cs_own hAd1).2.below hW) hr7 hr10 hr11
    rw [hr6] at this
    exact this
  have HCa : Hid (∀ W, Below w1.heap.size w1 W → Calls Tryz.prog 68 #[.int .u16 t, .slice Ad d.length cd] W fun e w' => Below W.heap.size W w' ∧ ∃ v, e = .returned v ∧ w'.ownsRow W.heap.size 5 1 v (canonD t d).length ((canonD t d).map byteV)) := Lib.hid fun W hW =>
    ZCanon t hr4 Ad d cd W ((cs_own hAd1).2.below hW) hr7 hr10 hr11
  have hsv : ∃ A c, v = .slice A ds.length c := by
    obtain ⟨A, c, hv, _⟩ := own_form hO.st.row
    exact ⟨A, c, hv⟩
  obtain ⟨Av, cv, rfl⟩ := hsv
  have hsl := lt_block hO.st.set
  obtain ⟨s0, s1, sf⟩ := cells2 hO.st.set
  obtain ⟨An2, cn2, hxb, hxn⟩ := hO.st.node
  have hxl := lt_block hxb
  obtain ⟨x0, x1, xf⟩ := cells2 hxb
  have HAt : Hid (∀ W, Below w1.heap.size w1 W → Calls Tryz.prog 69 #[.pointer (some ⟨z, 0, none⟩), .slice An n.length cn, .int .u16 t] W fun e w' => e = .returned (.pointer (some ⟨s, 0, none⟩)) ∧ Below W.heap.size W w') := Lib.hid fun W hW => by
    have hOW := hO.ext hW
    have := ZAt z bn An n cn t N 9 _ _ (some x) (some s) W ((bcl (o := 1) hW hzl).trans z1) (Nat.lt_of_lt_of_le hzl hW.size) hOW.zn.nodes (hAn1.below hW) hr1 hr5 (at_one _ (key_lit _) _ _) (fun x' hx' => by
      cases hx'
      exact ⟨Nat.lt_of_lt_of_le hxl hW.size, bs, (bcl (o := 1) hW hxl).trans x1, hOW.st.sets, at_one _ (key_int _ _) _ _⟩)
    exact this
  have HFi : Hid (∀ A' c' W, Below w1.heap.size w1 W → Cs W A' ((canonD t d).map byteV) → Calls Tryz.prog 70 #[.pointer (some ⟨s, 0, none⟩), .slice A' (canonD t d).length c'] W fun e w' => e = .returned (.tuple #[.int .i64 p, .bool (hitB ds (canonD t d) p)]) ∧ Below W.heap.size W w') := Lib.hid fun A' c' W hW hA' => by
    have hOW := hO.ext hW
    exact ZFind s Av A' ds cv (canonD t d) c' p W ((bcl (o := 1) hW hsl).trans s1) (cs_own2 hOW.st.row) hOW.st.dat.ok hA' hds hp
  have HK : Hid (∀ W, Below w1.heap.size w1 W → Calls Tryz.prog 71 #[.slice An n.length cn] W fun e w' => e = .returned (strV (zkey n)) ∧ Below W.heap.size W w') := Lib.hid fun W hW => ZKey An n cn W (hAn1.below hW) hr1
  have hnl := hr1.1
  have HR : Hid (Rec n ap t d cn cd) := Lib.hid ⟨hr1, hr2, hr3, hr4, hr5, hr6, hr7, hr8, hr9, hr10, hr11⟩
  have HAn := Lib.hid hAn1
  have HAd := Lib.hid hAd1
  have HO := Lib.hid hO
  have HB : Hid (B ≤ w1.heap.size) := Lib.hid (Nat.le_trans hO.st.h2 (Nat.le_of_lt hsl))
  have HTu : Hid (Turn B w w1) := Lib.hid (Turn.of_ext hb1 (Nat.le_trans h.st.h2 (Nat.le_of_lt (lt_block h.st.set))))
  clear h hAn hAd hAn1 hAd1 hza hcs_ap hr1 hr2 hr3 hr4 hr5 hr6 hap
  generalize hcd : canonD t d = c at *
  have HCD := Lib.hid hcd
  clear hcd
  refine wp_region_mono mixed0 (by kernel_rfl) [.is (.pointer (some ⟨w.heap.size, 0, none⟩)), .is (.slice An n.length cn), .is (.int .i64 0), .is (.bool false), .is (.bool false), .is (.pointer (some ⟨w.heap.size, 0, none⟩)), .is (.slice An n.length cn), .is (.pointer (some ⟨z, 0, none⟩)), .is (.pointer (some ⟨z, 0, none⟩)), .is (.pointer (some ⟨z, 0, none⟩)), .is (.slice Aa ap.length ca), .is (.bool true), .is (.bool false), .is (.bool false), .is (.bool false)] rfl ?_ ?_
  · intro i q hio vals W hE haf
    have e0 := (bcl (o := 0) hE hrl).trans k0
    have y0 := (bcl (o := 0) hE hzl).trans z0
    rcases i with _ | _ | _ | _ | _ | _ | _ | _ | _ | _ | _ | _ | _ | _ | _ | i
    all_goals first
      | (exfalso; simp at hio; done)
      | (simp at hio; subst hio; simp [bindD, rdB, Region.binds, factAt] at haf; simp [opYield_def, yieldUpon, yielded, relAct, dstAt, Act.put, Region.wanted, go_sem, haf, e0, y0, Ext.refl, factAt]; done)
      | skip
    all_goals
      simp at hio
      subst hio
      simp [bindD, rdB, Region.binds, factAt] at haf
    · simp [opYield_def, yieldUpon, yielded, relAct, dstAt, Act.put, Region.wanted, go_sem, haf, factAt]
      refine (HCk.out W hE).mono fun e W' h => ?_
      obtain ⟨h1, h2⟩ := h
      subst h2
      exact ⟨h1, Below.refl _ _⟩
    · simp [opYield_def, yieldUpon, yielded, relAct, dstAt, Act.put, Region.wanted, go_sem, haf, factAt]
      refine (HWi.out W hE).mono fun e W' h => ?_
      exact ⟨h.2, h.1⟩
  · intro vals W hE hF
    simp only [facts] at hF
    obtain ⟨_, _, _, _, _, _, _, _, _, _, _, _, _, _, h14, _⟩ := hF
    have e14 : vals 14 = .bool false := h14
    simp [relAct, dstAt, Act.put]
    rw [e14]
    clear e14 h14
    generalize vals 0 = j0
    generalize vals 1 = j1
    generalize vals 2 = j2
    generalize vals 3 = j3
    generalize vals 4 = j4
    generalize vals 5 = j5
    generalize vals 6 = j6
    generalize vals 7 = j7
    generalize vals 8 = j8
    generalize vals 9 = j9
    generalize vals 10 = j10
    generalize vals 11 = j11
    generalize vals 12 = j12
    generalize vals 13 = j13
    have hE : Below w1.heap.size w1 W := hE
    have e1 := (bcl (o := 1) hE hrl).trans k1
    have e2 := (bcl (o := 2) hE hrl).trans k2
    have e4 := (bcl (o := 4) hE hrl).trans k4
    go_wp2_with fail
    refine (HRc.out W hE).mono ?_
    rintro e w2 ⟨hb2, rfl⟩
    have hE2 := hE.trans (hb2.mono hE.size)
    clear e1 e2 e4 hb2 hE
    have e1 := (bcl (o := 1) hE2 hrl).trans k1
    have e4 := (bcl (o := 4) hE2 hrl).trans k4
    go_wp2_with fail
    refine (HCa.out w2 hE2).mono ?_
    rintro e w3 ⟨hb3, vc, rfl, hown3⟩
    have hE3 := hE2.trans (hb3.mono hE2.size)
    have ho3 := own_base hown3 hE2.size
    obtain ⟨Ac, cc, rfl, _, hcc⟩ := Cs.of_own hown3
    clear e1 e4 hb3 hE2 hown3 w2
    have e0 := (bcl (o := 0) hE3 hrl).trans k0
    have e1 := (bcl (o := 1) hE3 hrl).trans k1
    go_wp2_with fail
    refine (HAt.out w3 hE3).mono ?_
    rintro e w4 ⟨rfl, hb4⟩
    have hE4 := hE3.trans (hb4.mono hE3.size)
    have ho4 := own_below ho3 hb4
    have hc4 := hcc.below hb4
    clear e0 e1 hb4 hE3 ho3 hcc w3
    go_wp2_with fail
    refine (HFi.out _ _ w4 hE4 hc4).mono ?_
    rintro e w5 ⟨rfl, hb5⟩
    have hE5 := hE4.trans (hb5.mono hE4.size)
    have ho5 := own_below ho4 hb5
    have hc5 := hc4.below hb5
    clear hb5 hE4 ho4 hc4 w4
    rw [hhit]
    go_wp2_with fail
    refine wp_region_mono mixed0 (by kernel_rfl) [.is (.bool false), .is (.bool false), .is undef, .is undef, .is undef, .is undef, .is undef, .is undef, .is undef, .is (.bool false), .is (.bool false)] rfl ?_ ?_
    · intro i q hio vals W hE haf
      rcases i with _ | _ | _ | _ | _ | _ | _ | _ | _ | _ | _ | i
      all_goals first
        | (exfalso; simp at hio; done)
        | (simp at hio; subst hio; simp [bindD, rdB, Region.binds, factAt] at haf; simp [opYield_def, yieldUpon, yielded, relAct, dstAt, Act.put, Region.wanted, go_sem, haf, Ext.refl, Ext.refl, factAt]; done)
        | skip
    · intro vals W hE hF
      simp only [facts] at hF
      obtain ⟨_, _, _, _, _, _, _, _, _, _, h10, _⟩ := hF
      have e10 : vals 10 = .bool false := h10
      simp [relAct, dstAt, Act.put]
      rw [e10]
      clear e10 h10
      generalize vals 0 = g0
      generalize vals 1 = g1
      generalize vals 2 = g2
      generalize vals 3 = g3
      generalize vals 4 = g4
      generalize vals 5 = g5
      generalize vals 6 = g6
      generalize vals 7 = g7
      generalize vals 8 = g8
      generalize vals 9 = g9
      have hE6 := hE5.trans (hE.mono hE5.size)
      have ho6 := own_below ho5 hE
      have y3 := (bcl (o := 3) hE6 hzl).trans z3
      go_wp2_with fail
      go_ret2
      exact ⟨rfl, HO.out.ext hE6, HTu.out.trans (Turn.of_ext (hE6) HB.out)⟩
end Nm
end Go.Proofs.YtkeimgamjnpcbaaGreat
