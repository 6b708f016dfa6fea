/-
  append that writes no cell that was there before: one step of a region that draws, said by what is read.
-/
import Derived.Test.YtfhjboloielbnaaMem
import Derived.Deep.RegionLaw
namespace Go.Proofs.Ytfhjboloielbnaa
open Go.RowKit
set_option linter.unusedVariables false

theorem oldBelow {w w' : World} (h : w.grownBy w' none) : Below w.heap.size w w' :=
  (Below.refl _ _).grown h (Nat.le_refl _) (fun k hk => by cases hk)

theorem run_append_cs {P : Program} (w : World) (t ty e : TypeId) (i : TypeInfo) (z : Value) (bytes : Nat) (h1 : P.underlying t = some (.slice e)) (h2 : P.info? e = some i) (h3 : i.zero = some z) (h4 : i.size = 1) (h5 : i.bytes = bytes) (h6 : z.cells.size = 1)
    (A : Option Addr) (n cap : Nat) (olds : List Value) (hA : Cs w A olds) (hlo : olds.length = n) (hnone : A = none → n = 0 ∧ cap = 0)
    (B : Option Addr) (m c : Nat) (news : List Value) (hB : Cs w B news) (hn : news.length = m) (h1c : ∀ u ∈ news, u.oneCell' = true)
    (hnc : n ≤ cap) (hfull : cap < n + m ∨ m = 0) (b1 : n + m ≤ maxLen) (b2 : (n + m) * bytes ≤ 140737488355328) :
    ∃ A' cap' w', (Builtin.append_ #[t, t] ty #[.slice A n cap, .slice B m c]).run P w = .ok (.slice A' (n + m) cap') w' ∧ Cs w' A' (olds ++ news) ∧ Below w.heap.size w w' ∧ n + m ≤ cap' := by
  by_cases hm : m = 0
  · subst hm
    have hnn : news = [] := List.eq_nil_of_length_eq_zero hn
    subst hnn
    have hroom : n ≤ cap := by omega
    refine ⟨A, cap, w, ?_, by rw [List.append_nil]; exact hA, Below.refl _ _, by omega⟩
    have hf : (Builtin.firstCells i.size 0 (.slice B 0 c)).run P w = .ok #[] w := by
      cases B with
      | none => exact run_firstCells_none (P := P) w _ _ _ _
      | some b => exact run_firstCells_some (P := P) w i.size 0 b 0 c [] (by simp) (by intro j v hj; simp at hj)
    cases A with
    | none => simp [Builtin.append_, run_underlying h1, sizeOf, typeInfo, h2, Builtin.lenOf, hroom, hf]
    | some a => simp [Builtin.append_, run_underlying h1, sizeOf, typeInfo, h2, Builtin.lenOf, hroom, hf, storeCells]
  · have hfull' : cap < n + m := by omega
    obtain ⟨b, hb⟩ : ∃ b, B = some b := by
      obtain ⟨u, hu⟩ : ∃ u, news[0]? = some u := ⟨news[0]'(by omega), by simp⟩
      obtain ⟨b, off, e, _, _⟩ := hB 0 u hu
      exact ⟨_, e⟩
    subst hb
    have key : ∃ v' w', (Builtin.append_ #[t, t] ty #[.slice A n cap, .slice (some b) m c]).run P w = .ok v' w' ∧ w'.ownsRow w.heap.size e 1 v' (n + m) (olds ++ news) ∧ w.grownBy w' none := by
      cases A with
      | some a => exact run_append_arg_grows (P := P) w t ty e i z 1 bytes h1 h2 h3 h4 h5 h6 (by omega) a n cap olds (by omega) hA.cells b m c news (by omega) hB.cells hfull' b1 b2
      | none =>
        obtain ⟨rfl, rfl⟩ := hnone rfl
        obtain rfl : olds = [] := List.eq_nil_of_length_eq_zero hlo
        obtain ⟨v', w', hrun, r1, r2, _⟩ := run_append_own (P := P) w w.heap.size t ty e i z 1 bytes h1 h2 h3 h4 h5 h6 (by omega) (.slice none 0 0) 0 [] (World.ownsRow_nil w _ e 1) b m c news (by omega) hB.cells h1c b1 b2 (Nat.le_refl _)
        exact ⟨v', w', hrun, r1, r2⟩
    obtain ⟨v', w', hrun, r1, r2⟩ := key
    have hcap : ∃ A' cap', v' = .slice A' (n + m) cap' ∧ n + m ≤ cap' := by
      rcases r1.2 with ⟨rfl, h0⟩ | ⟨g, cap', cur, hv, _, _, hnc, _⟩
      · omega
      · exact ⟨_, cap', hv, hnc⟩
    obtain ⟨A', cap', hv, hl, hc⟩ := Cs.of_own r1
    obtain ⟨A2, cap2, hv2, hl2⟩ := hcap
    subst hv
    cases hv2
    exact ⟨A', cap', w', hrun, hc, oldBelow r2, hl2⟩

theorem step_append_cs {P : Program} {ops : Array Oper} {o : Oper} {a : Act} {w : World} {K : Act → World → Prop} {E : Prop}
    (hg : o.guard = none) (s x : Operand) (t : TypeId) (hop : o.op = Op.call { callee := Callee.builtin Builtin.append, args := #[s, x], argTypes := #[t, t] }) {Q : Exit → Act → World → Prop}
    (e : TypeId) (i : TypeInfo) (z : Value) (bytes : Nat) (h1 : P.underlying t = some (.slice e)) (h2 : P.info? e = some i) (h3 : i.zero = some z) (h4 : i.size = 1) (h5 : i.bytes = bytes) (h6 : z.cells.size = 1)
    (A : Option Addr) (n cap : Nat) (olds : List Value) (hs : a.eval s = .slice A n cap) (hA : Cs w A olds) (hlo : olds.length = n) (hnone : A = none → n = 0 ∧ cap = 0)
    (B : Option Addr) (m c : Nat) (news : List Value) (hx : a.eval x = .slice B m c) (hB : Cs w B news) (hn : news.length = m) (h1c : ∀ u ∈ news, u.oneCell' = true)
    (hnc : n ≤ cap) (hfull : cap < n + m ∨ m = 0) (b1 : n + m ≤ maxLen) (b2 : (n + m) * bytes ≤ 140737488355328)
    (hK : ∀ A' cap' w', Cs w' A' (olds ++ news) → Below w.heap.size w w' → n + m ≤ cap' → K (a.put o.dst (.slice A' (n + m) cap')) w') :
    if Region.wanted o (yielded ops a.tmps) = true then Oper.wp P o a w K Q else E := by
  have hw : Region.wanted o (yielded ops a.tmps) = true := by simp [Region.wanted, hg]
  rw [if_pos hw]
  obtain ⟨A', cap', w', hrun, r1, r2, r3⟩ := run_append_cs (P := P) w t o.type e i z bytes h1 h2 h3 h4 h5 h6 A n cap olds hA hlo hnone B m c news hB hn h1c hnc hfull b1 b2
  unfold Oper.wp
  simp [execOp, hop, resolve, invoke, builtin, hs, hx, hrun, Result.andThen]
  exact hK A' cap' w' r1 r2 r3

end Go.Proofs.Ytfhjboloielbnaa
