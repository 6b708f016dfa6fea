/-
  Contracts of meter's Load and of the reference's.
-/
import Derived.Test.YtfhjboloielbnaaMeter
import Derived.StillTailTactics
namespace Go.Proofs.Ytfhjboloielbnaa
open Go.RowKit
set_option linter.unusedVariables false
namespace Meter
open Flt

/-- what an operation on floats leaves, and how often it asks the tape -/
def fr (op : BinOp) (x y : Nat) (W : World) : Nat := match floatBits op .f64 x y with
  | some r => r
  | none => (Question.nanBits .f64 x y).cut (W.tape W.drawn (.nanBits .f64 x y))
def fk (op : BinOp) (x y : Nat) : Nat := if (floatBits op .f64 x y).isSome then 0 else 1
theorem nan_cut (x y t : Nat) : isNaN ((Question.nanBits .f64 x y).cut t) = true ∧ (Question.nanBits .f64 x y).cut t < 18446744073709551616 := by
  have e : (Question.nanBits .f64 x y).cut t = (t % 2) * 9223372036854775808 + 9218868437227405312 + 1 + (t / 2) % 4503599627370495 := by simp [Question.cut]
  rw [e]
  have h2 : t % 2 = 0 ∨ t % 2 = 1 := by omega
  have h3 : (t / 2) % 4503599627370495 < 4503599627370495 := Nat.mod_lt _ (by omega)
  generalize (t / 2) % 4503599627370495 = u at h3
  rcases h2 with h2 | h2
  · rw [h2]
    refine ⟨?_, by omega⟩
    unfold isNaN rung
    rw [decide_eq_true_eq]; omega
  · rw [h2]
    refine ⟨?_, by omega⟩
    unfold isNaN rung
    rw [decide_eq_true_eq]; omega
theorem fr_some {op : BinOp} {x y r : Nat} (h : floatBits op .f64 x y = some r) (W : World) : fr op x y W = r := by unfold fr; rw [h]
theorem fr_none {op : BinOp} {x y : Nat} (h : floatBits op .f64 x y = none) (W : World) : isNaN (fr op x y W) = true := by unfold fr; rw [h]; exact (nan_cut x y _).1
theorem fr_lt (op : BinOp) (x y : Nat) (W : World) : W64 (fr op x y W) := by
  unfold W64 fr
  cases h : floatBits op .f64 x y with
  | none => exact (nan_cut x y _).2
  | some r =>
    have := floatBits_wf h
    simpa [Lit.wf] using this
theorem run_arith (op : BinOp) (hop : op = .add ∨ op = .sub ∨ op = .mul ∨ op = .quo) (t : TypeId) (x y : Nat) (W : World) :
    (binOp op t (.float .f64 x) (.float .f64 y)).run Try.prog W = .ok (.float .f64 (fr op x y W)) (W.drewN (fk op x y)) := by
  cases h : floatBits op .f64 x y with
  | some r =>
    rw [run_float_arith W op t .f64 x y r h, fr_some h]
    unfold fk; rw [h]; rfl
  | none =>
    have hk : fk op x y = 1 := by unfold fk; rw [h]; rfl
    have hf : fr op x y W = (Question.nanBits .f64 x y).cut (W.tape W.drawn (.nanBits .f64 x y)) := by unfold fr; rw [h]
    rw [hk, hf]
    unfold floatBits at h
    rcases hop with rfl | rfl | rfl | rfl <;> simp only at h <;> simp only [binOp, Op.floatArith, h] <;> rfl
theorem arith_nan_l (op : BinOp) {x : Nat} (y : Nat) (h : isNaN x = true) : floatBits op .f64 x y = none := by
  obtain ⟨s, f, e⟩ := read_nan x (by simpa [isNaN] using h)
  unfold floatBits
  cases op <;> simp only [FloatKind.format, Ieee.Format.add, Ieee.Format.sub, Ieee.Format.mul, Ieee.Format.div, e] <;> rfl
theorem arith_nan_r (op : BinOp) (x : Nat) {y : Nat} (h : isNaN y = true) : floatBits op .f64 x y = none := by
  obtain ⟨s, f, e⟩ := read_nan y (by simpa [isNaN] using h)
  unfold floatBits
  cases op <;> simp only [FloatKind.format, Ieee.Format.add, Ieee.Format.sub, Ieee.Format.mul, Ieee.Format.div, e] <;> cases Ieee.double.read x <;> rfl

/-- the value behind one number more, the value and the number of them known -/
def stepV (p v x : Nat) : Nat := match floatBits .sub .f64 x v with
  | none => x
  | some d => match floatBits .mul .f64 p d with
    | none => x
    | some s => match floatBits .add .f64 v s with
      | none => x
      | some r => if isFin r then r else x
def newV (p v n x : Nat) : Nat := if n = 0 then x else if isFin v then stepV p v x else x
theorem fin_nan {b : Nat} (h : isNaN b = true) : isFin b = false := by unfold isFin; rw [h]; rfl
theorem step_eq (p v x : Nat) (W1 W2 W3 : World) : (if isFin (fr .add v (fr .mul p (fr .sub x v W1) W2) W3) then fr .add v (fr .mul p (fr .sub x v W1) W2) W3 else x) = stepV p v x := by
  unfold stepV
  cases h1 : floatBits .sub .f64 x v with
  | none =>
    have n1 := fr_none h1 W1
    have n2 := fr_none (arith_nan_r .mul p n1) W2
    have n3 := fr_none (arith_nan_r .add v n2) W3
    rw [fin_nan n3]; rfl
  | some d =>
    rw [fr_some h1]
    simp only
    cases h2 : floatBits .mul .f64 p d with
    | none =>
      have n2 := fr_none h2 W2
      have n3 := fr_none (arith_nan_r .add v n2) W3
      rw [fin_nan n3]; rfl
    | some s =>
      rw [fr_some h2]
      simp only
      cases h3 : floatBits .add .f64 v s with
      | none => rw [fin_nan (fr_none h3 W3)]; rfl
      | some r => rw [fr_some h3]

theorem run_store_float_ (P : Program) (w : World) (a : Addr) (m : Mode) (k : FloatKind) (b : Nat) : (store a (.float k b) m).run P w = stored P w a (.float k b) m := run_store P w a _ m rfl
/-- a struct of three: part, value, count -/
def LoadAt (w : World) (T g : Nat) (p v : Nat) (n : Nat) : Prop := w.heap[g]? = some (.cells #[.float .f64 p, .float .f64 v, .int .i64 n] T (0, 0))
theorem LoadAt.cells {w : World} {T g p v n : Nat} (h : LoadAt w T g p v n) : w.cell? ⟨g, 0, none⟩ = some (.float .f64 p) ∧ w.cell? ⟨g, 1, none⟩ = some (.float .f64 v) ∧ w.cell? ⟨g, 2, none⟩ = some (.int .i64 n) ∧
    (∀ i, w.frozen? ⟨g, i, none⟩ = false) := by
  unfold LoadAt at h
  refine ⟨?_, ?_, ?_, fun i => ?_⟩
  · rw [cell_of_row w g 0 _ _ _ h]; rfl
  · rw [cell_of_row w g 1 _ _ _ h]; rfl
  · rw [cell_of_row w g 2 _ _ _ h]; rfl
  · simp [World.frozen?, h]

def partOK (p : Nat) : Bool := (FloatKind.f64.format.order p 0 == some .gt) && (FloatKind.f64.format.order p 4607182418800017408 == some .lt || FloatKind.f64.format.order p 4607182418800017408 == some .eq)
def partV (p : Nat) : Nat := if partOK p then p else 4607182418800017408

set_option maxHeartbeats 1000000 in
theorem New (p : Nat) (w : World) : Calls Try.prog 18 #[.float .f64 p] w fun e w' => ∃ g, e = .returned (.pointer (some ⟨g, 0, none⟩)) ∧ w.heap.size ≤ g ∧ LoadAt w' 58 g (partV p) 9221120237041090561 0 ∧ Below w.heap.size w w' := by
  unfold partV partOK
  cases h1 : FloatKind.f64.format.order p 0 == some .gt <;> cases h2 : (FloatKind.f64.format.order p 4607182418800017408 == some .lt || FloatKind.f64.format.order p 4607182418800017408 == some .eq)
  all_goals
    go_enter Try.func18, Try.ntmps18
    go_wp2_with (first | (go_at_call 37; refine (nan_ _).mono ?_; rintro e w' ⟨rfl, rfl⟩))
    go_ret
    exact ⟨_, rfl, Nat.le_refl _, heap_alloc_new w _, (Below.refl _ _).alloc (Nat.le_refl _) _⟩
set_option maxHeartbeats 1000000 in
theorem RefNew (p : Nat) (w : World) : Calls Try.prog 26 #[.float .f64 p] w fun e w' => ∃ g, e = .returned (.pointer (some ⟨g, 0, none⟩)) ∧ w.heap.size ≤ g ∧ LoadAt w' 48 g (partV p) 9221120237041090561 0 ∧ Below w.heap.size w w' := by
  unfold partV partOK
  cases h1 : FloatKind.f64.format.order p 0 == some .gt <;> cases h2 : (FloatKind.f64.format.order p 4607182418800017408 == some .lt || FloatKind.f64.format.order p 4607182418800017408 == some .eq)
  all_goals
    go_enter Try.func26, Try.ntmps26
    go_wp2_with (first | (go_at_call 29; refine (MathNaN _).mono ?_; rintro e w' ⟨rfl, rfl⟩))
    go_ret
    exact ⟨_, rfl, Nat.le_refl _, heap_alloc_new w _, (Below.refl _ _).alloc (Nat.le_refl _) _⟩

set_option maxHeartbeats 400000 in
theorem Value_ {w : World} {T g p v n : Nat} (h : LoadAt w T g p v n) : Calls Try.prog 20 #[.pointer (some ⟨g, 0, none⟩)] w fun e w' => e = .returned (.float .f64 v) ∧ w = w' := by
  obtain ⟨h0, h1, h2, hf⟩ := h.cells
  go_enter Try.func20, Try.ntmps20
  go_wp2
  go_ret
  exact ⟨rfl, rfl⟩
set_option maxHeartbeats 400000 in
theorem Count_ {w : World} {T g p v n : Nat} (h : LoadAt w T g p v n) : Calls Try.prog 21 #[.pointer (some ⟨g, 0, none⟩)] w fun e w' => e = .returned (.int .i64 n) ∧ w = w' := by
  obtain ⟨h0, h1, h2, hf⟩ := h.cells
  go_enter Try.func21, Try.ntmps21
  go_wp2
  go_ret
  exact ⟨rfl, rfl⟩

/-- what an Add leaves -/
def Added (w : World) (T g p v n x : Nat) (w' : World) : Prop :=
  (if isNaN x then LoadAt w' T g p v n else LoadAt w' T g p (newV p v n x) (n + 1)) ∧ w.grownBy w' (some g)
theorem grownBy_set (w : World) (g i : Nat) (u : Value) : w.grownBy (w.setCell ⟨g, i, none⟩ u) (some g) :=
  ⟨rfl, rfl, rfl, by simp [World.setCell], fun k hk hne => Below.heap_setCell w _ u k (fun e => hne (by rw [e]))⟩
theorem grownBy_drewN {a w : World} {row : Option Nat} (h : a.grownBy w row) (k : Nat) : a.grownBy (w.drewN k) row := ⟨h.os, h.tape, h.output, h.size, h.block⟩
theorem LoadAt.set {w : World} {T g p v n : Nat} (h : LoadAt w T g p v n) :
    (∀ m : Nat, LoadAt (w.setCell ⟨g, 2, none⟩ (.int .i64 m)) T g p v m) ∧ (∀ x, LoadAt (w.setCell ⟨g, 1, none⟩ (.float .f64 x)) T g p x n) := by
  unfold LoadAt at *
  constructor
  · intro m
    simp [World.setCell, Array.getElem?_modify, h]
  · intro x
    simp [World.setCell, Array.getElem?_modify, h]

theorem LoadAt.drewN {w : World} {T g p v n : Nat} (h : LoadAt w T g p v n) (k : Nat) : LoadAt (w.drewN k) T g p v n := h
theorem added_mk {w : World} {T g p v n x : Nat} (h : LoadAt w T g p v n) (nx : isNaN x = false) (k : Nat) (u : Nat) (hu : u = newV p v n x) (c : Int) (hc : c = ((n + 1 : Nat) : Int)) :
    Added w T g p v n x (((w.setCell ⟨g, 2, none⟩ (.int .i64 c)).drewN k).setCell ⟨g, 1, none⟩ (.float .f64 u)) := by
  unfold Added
  rw [nx, hc, hu]
  simp only [Bool.false_eq_true, if_false]
  refine ⟨(((h.set.1 (n + 1)).drewN k).set).2 _, ?_⟩
  exact (World.grownBy.trans (grownBy_drewN (grownBy_set w g 2 _) k) (grownBy_set _ g 1 _))

attribute [local go_sem] run_store_float_
set_option maxHeartbeats 1000000 in
theorem Add {w : World} {g p v n : Nat} (h : LoadAt w 58 g p v n) (hn : n ≤ 1000000) (hv : W64 v) (x : Nat) (hx : W64 x) : Calls Try.prog 19 #[.pointer (some ⟨g, 0, none⟩), .float .f64 x] w fun e w' => e = .returned (.tuple #[]) ∧ Added w 58 g p v n x w' := by
  have H := Lib.hid h
  obtain ⟨h0, h1, h2, hf⟩ := h.cells
  clear h
  cases nx : isNaN x
  · have hsub := fun t y z W => run_arith .sub (.inr (.inl rfl)) t y z W
    have hmul := fun t y z W => run_arith .mul (.inr (.inr (.inl rfl))) t y z W
    have hadd := fun t y z W => run_arith .add (.inl rfl) t y z W
    go_enter Try.func19, Try.ntmps19
    go_wp2_with (first | (go_at_call 31; refine (IsNaN _ _).mono ?_; rintro e w' ⟨rfl, rfl⟩))
    by_cases hn0 : n = 0
    · subst hn0
      go_region
      go_wp2_with fail
      go_end0
      exact ⟨rfl, added_mk H.out nx _ _ rfl _ rfl⟩
    · have hn1 : (1 : Int) < (n : Int) + 1 := by omega
      cases fv : isFin v
      · go_region
        go_wp2_with fail
        refine (finite _ hv _).mono ?_
        rintro e w' ⟨rfl, rfl⟩
        go_wp2_with fail
        go_end0
        exact ⟨rfl, added_mk H.out nx _ _ (by unfold newV; rw [if_neg hn0, fv]; rfl) _ rfl⟩
      · go_region
        go_wp2_with fail
        refine (finite _ hv _).mono ?_
        rintro e w' ⟨rfl, rfl⟩
        go_wp2_with fail
        refine (finite _ (fr_lt _ _ _ _) _).mono ?_
        rintro e w' ⟨rfl, rfl⟩
        have hse := step_eq p v x
        have hnv : newV p v n x = stepV p v x := by unfold newV; rw [if_neg hn0, fv]; rfl
        have HSE := Lib.hid hse
        have HNV := Lib.hid hnv
        clear hse hnv
        generalize hq : fr BinOp.add v (fr BinOp.mul p (fr BinOp.sub x v _) _) _ = q
        have HQ := Lib.hid hq
        clear hq
        cases fq : isFin q
        · go_wp2_with fail
          go_end0
          refine ⟨rfl, added_mk H.out nx _ _ ?_ _ rfl⟩
          rw [HNV.out, ← HSE.out, HQ.out, fq]; rfl
        · go_wp2_with fail
          refine bodyPost_ret (results_none rfl _ _ _) rfl ?_
          refine ⟨rfl, added_mk H.out nx _ _ ?_ _ rfl⟩
          rw [HNV.out, ← HSE.out, HQ.out, fq]; rfl
  · go_enter Try.func19, Try.ntmps19
    go_wp2_with (first | (go_at_call 31; refine (IsNaN _ _).mono ?_; rintro e w' ⟨rfl, rfl⟩))
    refine bodyPost_ret (results_none rfl _ _ _) rfl ?_
    refine ⟨rfl, ?_⟩
    unfold Added
    rw [nx]
    exact ⟨H.out, World.grownBy.refl w _⟩

theorem added_mk0 {w : World} {T g p v n x : Nat} (h : LoadAt w T g p v n) (nx : isNaN x = false) (u : Nat) (hu : u = newV p v n x) (c : Int) (hc : c = ((n + 1 : Nat) : Int)) :
    Added w T g p v n x ((w.setCell ⟨g, 2, none⟩ (.int .i64 c)).setCell ⟨g, 1, none⟩ (.float .f64 u)) := added_mk h nx 0 u hu c hc
set_option maxHeartbeats 1000000 in
theorem RefAdd {w : World} {g p v n : Nat} (h : LoadAt w 48 g p v n) (hn : n ≤ 1000000) (hv : W64 v) (x : Nat) (hx : W64 x) : Calls Try.prog 27 #[.pointer (some ⟨g, 0, none⟩), .float .f64 x] w fun e w' => e = .returned (.tuple #[]) ∧ Added w 48 g p v n x w' := by
  have H := Lib.hid h
  obtain ⟨h0, h1, h2, hf⟩ := h.cells
  clear h
  cases nx : isNaN x
  · have hsub := fun t y z W => run_arith .sub (.inr (.inl rfl)) t y z W
    have hmul := fun t y z W => run_arith .mul (.inr (.inr (.inl rfl))) t y z W
    have hadd := fun t y z W => run_arith .add (.inl rfl) t y z W
    by_cases hn0 : n = 0
    · subst hn0
      go_enter Try.func27, Try.ntmps27
      go_wp2_with (first | (go_at_call 34; refine (refnan _ _).mono ?_; rintro e w' ⟨rfl, rfl⟩))
      refine bodyPost_ret (results_none rfl _ _ _) rfl ?_
      exact ⟨rfl, added_mk0 H.out nx _ rfl _ rfl⟩
    · have hn1 : (((n : Int) + 1) == 1) = false := by rw [beq_eq_false_iff_ne]; omega
      cases fv : isFin v
      · go_enter Try.func27, Try.ntmps27
        go_wp2_with (first | (go_at_call 34; refine (refnan _ _).mono ?_; rintro e w' ⟨rfl, rfl⟩) | (go_at_call 40; refine (reffinite _ hv _).mono ?_; rintro e w' ⟨rfl, rfl⟩))
        refine bodyPost_ret (results_none rfl _ _ _) rfl ?_
        exact ⟨rfl, added_mk0 H.out nx _ (by unfold newV; rw [if_neg hn0, fv]; rfl) _ rfl⟩
      · go_enter Try.func27, Try.ntmps27
        go_wp2_with (first | (go_at_call 34; refine (refnan _ _).mono ?_; rintro e w' ⟨rfl, rfl⟩) | (go_at_call 40; refine (reffinite _ hv _).mono ?_; rintro e w' ⟨rfl, rfl⟩))
        go_region
        go_wp2_with fail
        refine (reffinite _ (fr_lt _ _ _ _) _).mono ?_
        rintro e w' ⟨rfl, rfl⟩
        have hse := step_eq p v x
        have hnv : newV p v n x = stepV p v x := by unfold newV; rw [if_neg hn0, fv]; rfl
        have HSE := Lib.hid hse
        have HNV := Lib.hid hnv
        clear hse hnv
        generalize hq : fr BinOp.add v (fr BinOp.mul p (fr BinOp.sub x v _) _) _ = q
        have HQ := Lib.hid hq
        clear hq
        cases fq : isFin q
        · go_wp2_with fail
          go_end0
          refine ⟨rfl, added_mk H.out nx _ _ ?_ _ rfl⟩
          rw [HNV.out, ← HSE.out, HQ.out, fq]; rfl
        · go_wp2_with fail
          go_end0
          refine ⟨rfl, added_mk H.out nx _ _ ?_ _ rfl⟩
          rw [HNV.out, ← HSE.out, HQ.out, fq]; rfl
  · go_enter Try.func27, Try.ntmps27
    go_wp2_with (first | (go_at_call 34; refine (refnan _ _).mono ?_; rintro e w' ⟨rfl, rfl⟩))
    refine bodyPost_ret (results_none rfl _ _ _) rfl ?_
    refine ⟨rfl, ?_⟩
    unfold Added
    rw [nx]
    exact ⟨H.out, World.grownBy.refl w _⟩

end Meter
end Go.Proofs.Ytfhjboloielbnaa
