/-
  A region that draws its order: what is said of an operation may name the values of those that it waits for (a store into what was allocated).
-/
import Derived.Test.YtkeimgamjnpcbaaGreatRel2
namespace Go.Proofs.YtkeimgamjnpcbaaGreat
open Go.RowKit
set_option linter.unusedVariables false
section
variable {P : Program} {ops : Array Oper}
/-- WHATEVER THE ORDER; what is said of an operation may name the values of those that it waits for -/
theorem wp_region_dep {id : Nat} {Q : Exit → Act → World → Prop} {a0 : Act} {w0 : World} (hm : P.follows .mixedOrders = true) (hB : relB ops = true)
    (kills : Nat → Nat → Bool) (hkB : killsB ops kills = true) (T : Nat → World → World → Prop) (C : World → Prop) (R : Nat → (Nat → Value) → World → Prop) (hRc : ∀ j vals i v W, i ≠ j → waitsB ops j i = false → R j vals W → R j (fun k => if k = i then v else vals k) W)
    (I0 : World → Prop) (kills0 : Nat → Bool) (hI0 : I0 { w0 with drawn := w0.drawn + 1 }) (hIst : ∀ i W W', kills0 i = false → C W → I0 W → T i W W' → I0 W')
    (hC0 : C { w0 with drawn := w0.drawn + 1 }) (hC : ∀ i W W', C W → T i W W' → C W')
    (hR : ∀ i j v W W', i ≠ j → kills i j = false → waitsB ops j i = false → C W → R j v W → T i W W' → R j v W')
    (step : ∀ i o, ops[i]? = some o → ∀ vals W, C W → (∀ e ∈ o.after, bindD e = true → R e.on vals W) → ((∀ k, k < ops.size → kills0 k = true → k = i ∨ waitsB ops k i = true) → I0 W) →
      opYield P ops o (relAct ops a0 (fun _ => true) vals i) W (fun v W' => T i W W' ∧ R i (fun k => if k = i then v else vals k) W'))
    (hend : ∀ vals W, C W → (∀ j, j < ops.size → (∀ i, i < ops.size → kills i j = false) → R j vals W) → Q .normal (relAct ops a0 (fun _ => true) vals ops.size) W) :
    (Code.region id ops true).wp P Q a0 w0 := by
  have main : ∀ (fuel : Nat) (listed : Array Bool) (vals : Nat → Value) (W : World), listed.size = ops.size → listed.toList.count false ≤ fuel →
      (∀ j o, ops[j]? = some o → listed.getD j false = true → ∀ e ∈ o.after, Region.binds .any e = true → listed.getD e.on false = true) → C W →
      (∀ j, listed.getD j false = true → (∀ i, listed.getD i false = true → kills i j = false) → R j vals W) → ((∀ k, listed.getD k false = true → kills0 k = false) → I0 W) →
      wpAny P .any ops Q fuel listed (relAct ops a0 (fun j => listed.getD j false) vals ops.size) W := by
    intro fuel
    have fin : ∀ (listed : Array Bool) (vals : Nat → Value) (W : World), listed.size = ops.size → Region.ready .any ops listed = [] → C W →
        (∀ j, listed.getD j false = true → (∀ i, listed.getD i false = true → kills i j = false) → R j vals W) → Q .normal (relAct ops a0 (fun j => listed.getD j false) vals ops.size) W := by
      intro listed vals W hs hr hCW hRW
      have all : ∀ n, ∀ j, j < n → j < ops.size → listed.getD j false = true := by
        intro n
        induction n with
        | zero => intro j h; omega
        | succ n ih =>
          intro j hj hlt
          cases hl : listed.getD j false
          · exfalso
            have hop : ops[j]? = some ops[j] := Array.getElem?_eq_getElem hlt
            obtain ⟨_, hb2, _⟩ := relB_spec hB hop
            have : j ∈ Region.ready .any ops listed := by
              rw [mem_ready]
              refine ⟨?_, ops[j], hop, fun e he hb => ih e.on (by have := hb2 e he hb; omega) (by have := hb2 e he hb; omega)⟩
              have hjs : j < listed.size := by omega
              simp [hjs] at hl ⊢
              exact hl
            rw [hr] at this
            cases this
          · rfl
      have e := relAct_congr (ops := ops) (a0 := a0) (L := fun j => listed.getD j false) (L' := fun _ => true) (vals := vals) (vals' := vals) ops.size (fun j hj => ⟨all (j + 1) j (by omega) hj, fun _ => rfl⟩)
      rw [e]
      refine hend vals W hCW fun j hj hk => hRW j (all (j + 1) j (by omega) hj) fun i hi => ?_
      refine hk i ?_
      rcases Nat.lt_or_ge i ops.size with g | g
      · exact g
      · have : listed.getD i false = false := by simp [Array.getElem?_eq_none (show listed.size ≤ i by omega)]
        rw [this] at hi; cases hi
    induction fuel with
    | zero =>
      intro listed vals W hs hcount hdown hCW hRW hIW
      have hr : Region.ready .any ops listed = [] := by
        rw [List.eq_nil_iff_forall_not_mem]
        intro j hj
        have h0 := (mem_ready.1 hj).1
        obtain ⟨_, o, ho, _⟩ := mem_ready.1 hj
        have hjs : j < listed.size := by have := (Array.getElem?_eq_some_iff.1 ho).1; omega
        have hmem : false ∈ listed.toList := by
          have : listed[j] = false := by simpa [hjs] using h0
          rw [← this]
          simp
        have := List.count_pos_iff.2 hmem
        omega
      exact ⟨hr, fin listed vals W hs hr hCW hRW⟩
    | succ fuel ih =>
      intro listed vals W hs hcount hdown hCW hRW hIW
      refine ⟨fun hr => fin listed vals W hs hr hCW hRW, fun i hi => ?_⟩
      obtain ⟨h0, o, ho, hall⟩ := mem_ready.1 hi
      have hlt : i < ops.size := (Array.getElem?_eq_some_iff.1 ho).1
      have hli : listed.getD i false = false := by simpa [show i < listed.size by omega] using h0
      have hli? : listed[i]? = some false := by
        rw [Array.getElem?_eq_getElem (show i < listed.size by omega)]
        simpa [show i < listed.size by omega] using hli
      obtain ⟨hsel, hb2, hb3⟩ := relB_spec hB ho
      have hdi : dstAt ops i = o.dst := by unfold dstAt; rw [ho]; rfl
      have notkilled : ∀ e ∈ o.after, bindD e = true → ∀ k, listed.getD k false = true → kills k e.on = false := by
        intro e he hb k hk
        cases hkk : kills k e.on
        · rfl
        · exfalso
          have hkl : k < ops.size := by
            rcases Nat.lt_or_ge k ops.size with g | g
            · exact g
            · have : listed.getD k false = false := by simp [Array.getElem?_eq_none (show listed.size ≤ k by omega)]
              rw [this] at hk; cases hk
          have h1 := List.all_eq_true.1 hkB k (List.mem_range.2 hkl)
          have heo : e.on < ops.size := by have := hb2 e he (bindD_binds hb); omega
          have h2 := List.all_eq_true.1 h1 e.on (List.mem_range.2 heo)
          rw [hkk] at h2
          simp only [Bool.not_true, Bool.false_or] at h2
          have h3 := List.all_eq_true.1 h2 i (List.mem_range.2 hlt)
          rw [ho] at h3
          simp only [Bool.or_eq_true, beq_iff_eq] at h3
          rcases h3 with h3 | h3
          · subst h3; rw [hli] at hk; cases hk
          · have h4 := (Array.all_eq_true_iff_forall_mem.1 h3) e he
            rw [hb] at h4
            simp at h4
      have hst := step i o ho vals W hCW (fun e he hb => hRW e.on (hall e he (bindD_binds hb)) (notkilled e he hb)) (fun hw => hIW fun k hk => by
        cases hkk : kills0 k
        · rfl
        · exfalso
          have hkl : k < ops.size := by
            rcases Nat.lt_or_ge k ops.size with g | g
            · exact g
            · have : listed.getD k false = false := by simp [Array.getElem?_eq_none (show listed.size ≤ k by omega)]
              rw [this] at hk; cases hk
          rcases hw k hkl hkk with rfl | hwt
          · rw [hli] at hk; cases hk
          · unfold waitsB at hwt
            rw [Array.getElem?_eq_getElem hkl] at hwt
            simp only [] at hwt
            rw [Array.any_eq_true] at hwt
            obtain ⟨x, hx, h9⟩ := hwt
            simp only [Bool.and_eq_true, beq_iff_eq] at h9
            have := hdown k _ (Array.getElem?_eq_getElem hkl) hk _ (Array.getElem_mem hx) h9.2
            rw [h9.1, hli] at this
            cases this)
      have hst2 : opYield P ops o (relAct ops a0 (fun j => listed.getD j false) vals ops.size) W (fun v W' => T i W W' ∧ R i (fun k => if k = i then v else vals k) W') := by
        refine opYield_congr hsel ?_ hst
        intro t ht
        by_cases hex : ∃ k, dstAt ops k = some t
        · obtain ⟨k, hk⟩ := hex
          obtain ⟨hki, e, he, heq, hbe⟩ := (hb3 k t hk).2 ht
          have hkl : listed.getD k false = true := by rw [← heq]; exact hall e he hbe
          have hu : ∀ j, dstAt ops j = some t → j = k := by
            intro j hj
            rcases Nat.lt_trichotomy j k with g | g | g
            · exfalso
              have hkop : ops[k]? = some ops[k] := Array.getElem?_eq_getElem (by omega)
              have := ((relB_spec hB hkop).2.2 j t hj).1 (by omega)
              apply this
              unfold dstAt at hk; rw [hkop] at hk; exact hk
            · exact g
            · exfalso
              have hjl : j < ops.size := by
                rcases Nat.lt_or_ge j ops.size with g | g
                · exact g
                · unfold dstAt at hj; rw [Array.getElem?_eq_none g] at hj; cases hj
              have hjop : ops[j]? = some ops[j] := Array.getElem?_eq_getElem hjl
              have := ((relB_spec hB hjop).2.2 k t hk).1 (by omega)
              apply this
              unfold dstAt at hj; rw [hjop] at hj; exact hj
          rw [relAct_at hk hu i hki rfl, relAct_at hk hu ops.size (by omega) hkl]
        · have hno : ∀ j, dstAt ops j ≠ some t := fun j hj => hex ⟨j, hj⟩
          rw [relAct_free i (fun j _ _ => hno j), relAct_free ops.size (fun j _ _ => hno j)]
      refine wpOp_of_yield ho hst2 fun v W' ⟨hT, hRi⟩ => ?_
      rw [← hdi, put_relAct hli (fun j d hne hj => by
        intro hid
        rw [hdi] at hid
        exact (hb3 j d hj).1 hne hid) ops.size hlt]
      have hget : ∀ j, (listed.setIfInBounds i true).getD j false = if j = i then true else listed.getD j false := by
        intro j
        by_cases e : j = i
        · subst e
          rw [if_pos rfl]
          simp [show j < listed.size by omega]
        · rw [if_neg e]
          have hne : i ≠ j := fun h => e h.symm
          simp only [Array.getD_eq_getD_getElem?, Array.getElem?_setIfInBounds_ne hne]
      have hcg := relAct_congr (ops := ops) (a0 := a0) (L := fun j => if j = i then true else listed.getD j false) (L' := fun j => (listed.setIfInBounds i true).getD j false) (vals := fun j => if j = i then v else vals j) (vals' := fun j => if j = i then v else vals j) ops.size (fun j _ => ⟨(hget j).symm, fun _ => rfl⟩)
      rw [hcg]
      refine ih _ _ W' (by simpa using hs) ?_ ?_ (hC i W W' hCW hT) ?_ ?_
      · have := count_set listed i hli?
        omega
      · intro j oj hj hlj e he hb
        rw [hget]
        by_cases ee : e.on = i
        · rw [if_pos ee]
        · rw [if_neg ee]
          rw [hget] at hlj
          by_cases ej : j = i
          · subst ej
            rw [ho] at hj
            cases hj
            exact hall e he hb
          · rw [if_neg ej] at hlj
            exact hdown j oj hj hlj e he hb
      · intro j hlj hnk
        by_cases ej : j = i
        · subst ej
          exact hRi
        · rw [hget, if_neg ej] at hlj
          have hki := hnk i (by rw [hget, if_pos rfl])
          have hwf : waitsB ops j i = false := by
            cases hwt : waitsB ops j i
            · rfl
            · exfalso
              unfold waitsB at hwt
              cases hjo : ops[j]? with
              | none => rw [hjo] at hwt; cases hwt
              | some oj =>
                rw [hjo] at hwt
                simp only [] at hwt
                rw [Array.any_eq_true] at hwt
                obtain ⟨x, hx, h9⟩ := hwt
                simp only [Bool.and_eq_true, beq_iff_eq] at h9
                have := hdown j oj hjo hlj _ (Array.getElem_mem hx) h9.2
                rw [h9.1, hli] at this
                cases this
          refine hRc j vals i v W' (fun h => ej h.symm) hwf (hR i j _ W W' (fun h => ej h.symm) hki hwf hCW ?_ hT)
          refine hRW j hlj fun k hk => hnk k ?_
          rw [hget]
          split
          · rfl
          · exact hk
      · intro hnk
        have hki0 := hnk i (by rw [hget, if_pos rfl])
        refine hIst i W W' hki0 hCW (hIW fun k hk => hnk k ?_) hT
        rw [hget]
        split
        · rfl
        · exact hk
  refine wp_region_any hm ?_
  have h := main ops.size (Array.replicate ops.size false) (fun _ => undef) { w0 with drawn := w0.drawn + 1 } (by simp) (by simp) (fun j o _ hl => by rw [none_listed] at hl; cases hl) hC0 (fun j hl => by rw [none_listed] at hl; cases hl) (fun _ => hI0)
  have e : relAct ops a0 (fun j => (Array.replicate ops.size false).getD j false) (fun _ => undef) ops.size = a0 := by
    have : ∀ n, relAct ops a0 (fun j => (Array.replicate ops.size false).getD j false) (fun _ => undef) n = a0 := by
      intro n
      induction n with
      | zero => rfl
      | succ n ih =>
        unfold relAct
        rw [ih, if_neg (by rw [none_listed]; exact Bool.false_ne_true)]
    exact this _
  rw [e] at h
  exact h

end
end Go.Proofs.YtkeimgamjnpcbaaGreat
