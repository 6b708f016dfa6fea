/-
  Contracts towards canon.Fresh: Labels, Plus, Clone of a name; the reference's.
-/
import Derived.Test.YtkeimgamjnpcbaaGreatBlob
import Derived.Test.YtkeimgamjnpcbaaGreatQuiet
import Derived.Deep.RegionWith
namespace Go.Proofs.YtkeimgamjnpcbaaGreat
open Go.RowKit
set_option linter.unusedVariables false
namespace Nm

theorem strV_one (n : List Lab) : ∀ u ∈ n.map strV, u.oneCell' = true := by intro u hu; obtain ⟨y, _, rfl⟩ := List.mem_map.1 hu; rfl
/-- append of texts that lie somewhere to a row of the call's own -/
theorem wpList_names {ops : Array Oper} {rest : List Oper} {o : Oper} {a : Act} {Q : Exit → Act → World → Prop} {w : World} {B : Nat} {v : Value} {n : Nat} {xs : List Lab}
    (hown : w.ownsRow B 9 1 v n (xs.map strV)) (hB : B ≤ w.heap.size) {A : Option Addr} {s : List Lab} {c : Nat} (hs2 : Cs w A (s.map strV)) (hgd : o.guard = none) (sl x : Operand) {t : TypeId} (ht : Tryz.prog.underlying t = some (.slice 9))
    (ho : o.op = .call { callee := .builtin .append, args := #[sl, x], argTypes := #[t, t] }) (hs : a.eval sl = v) (hx : a.eval x = .slice A s.length c) (hn : n + s.length ≤ 1000000000)
    (h : ∀ v' w', w'.ownsRow B 9 1 v' (n + s.length) ((xs ++ s).map strV) → Below B w w' → wpList Tryz.prog ops Q rest (a.put o.dst v') w') : wpList Tryz.prog ops Q (o :: rest) a w := by
  obtain ⟨i0, hi, hz0, hz1, hz2⟩ := info_parts info_str
  cases A with
  | none =>
    have hsn : s = [] := by simpa using hs2.none_nil
    subst hsn
    refine wpList_nothing hgd sl x t ho ht hi hs hown hx ?_
    refine h v w ?_ (Below.refl _ _)
    simpa using hown
  | some b =>
    refine wpList_append_own w hgd sl x t ho B 9 i0 _ 1 16 ht hi hz0 hz1 hz2 rfl (by decide) v n _ hs hown b s.length c (s.map strV) hx (by simp) hs2.cells (strV_one s) (by unfold maxLen; omega) (by omega) hB ?_
    intro v' w' h1 h2 _
    rw [← List.map_append] at h1
    exact h v' w' h1 ((Below.refl _ _).grown h2 hB (fun k hk => (hown.lt k hk).1))
set_option maxHeartbeats 1000000 in
theorem CloneN (A : Option Addr) (n : List Lab) (cap : Nat) (w : World) (hc : Cs w A (n.map strV)) (hn : n.length ≤ 100000000) :
    Calls Tryz.prog 55 #[.slice A n.length cap] w fun e w' => ∃ v, e = .returned v ∧ w'.ownsRow w.heap.size 9 1 v n.length (n.map strV) ∧ Below w.heap.size w w' := by
  cases A with
  | none =>
    have hl : n = [] := by simpa using hc.none_nil
    have hq : ∀ W, (binOp .eql 23 (.slice none n.length cap) (.slice none 0 0)).run Tryz.prog W = .ok (.bool true) W := fun W => Lib.run_eql_slice_nil (P := Tryz.prog) W 23 9 none n.length cap 0 0 Tryz.underlying23
    have HL : Hid (∀ w : World, w.ownsRow w.heap.size 9 1 (.slice none 0 0) n.length (n.map strV)) := Lib.hid (fun w => by rw [hl]; exact World.ownsRow_nil _ _ _ _)
    clear hl
    generalize n.length = m at *
    go_enter Tryz.func55, Tryz.ntmps55
    go_wp2_with fail
    go_ret
    exact ⟨_, rfl, HL.out _, Below.refl _ _⟩
  | some a =>
    have hq : ∀ W, (binOp .eql 23 (.slice (some a) n.length cap) (.slice none 0 0)).run Tryz.prog W = .ok (.bool false) W := fun W => Lib.run_eql_slice_nil (P := Tryz.prog) W 23 9 (some a) n.length cap 0 0 Tryz.underlying23
    have hown : (w.alloc (.cells #[] 9)).ownsRow w.heap.size 9 1 (.slice (some ⟨w.heap.size, 0, none⟩) 0 0) 0 (([] : List Lab).map strV) := own_empty _ _ _ _ _ _ (heap_alloc_new _ _) (Nat.le_refl _) (by unfold maxLen; omega) rfl
    have hb0 : Below w.heap.size w (w.alloc (.cells #[] 9)) := (Below.refl _ _).alloc (Nat.le_refl _) _
    have hc1 := hc.below hb0
    have HO := Lib.hid hown
    clear hown
    go_enter Tryz.func55, Tryz.ntmps55
    go_wp2_with (first | (at_builtin; refine wpList_names HO.out hb0.size hc1 rfl _ _ Tryz.underlying23 rfl rfl rfl (by omega) ?_; intro v4 w4 hown4 hbw4; have hbw5 := hb0.trans hbw4))
    go_ret
    exact ⟨_, rfl, by simpa using hown4, hbw5⟩

/-- how many labels, but for a first star -/
def labels (n : List Lab) : Nat := (if wild n then n.length - 1 else n.length) % 256
set_option maxHeartbeats 1000000 in
theorem Labels (A : Option Addr) (n : List Lab) (cap : Nat) (w : World) (hc : Cs w A (n.map strV)) (hf : n.length ≤ 1000000) (hcap : n.length ≤ cap) (hcap2 : cap ≤ maxLen) :
    Calls Tryz.prog 22 #[.slice A n.length cap] w fun e w' => e = .returned (.int .u8 (labels n)) ∧ w = w' := by
  unfold maxLen at hcap2
  unfold labels
  cases hw : wild n
  · go_enter Tryz.func22, Tryz.ntmps22
    go_wp2_with fail
    refine (Wild A n cap w hc hf).mono ?_
    rintro e w' ⟨rfl, rfl⟩
    go_wp2_with fail
    go_ret
    exact ⟨ret_int (by simp), rfl⟩
  · have hpos : 1 ≤ n.length := by cases n with | nil => cases hw | cons a n => simp
    go_enter Tryz.func22, Tryz.ntmps22
    go_wp2_with fail
    refine (Wild A n cap w hc hf).mono ?_
    rintro e w' ⟨rfl, rfl⟩
    go_wp2_with fail
    all_goals
      go_ret
      exact ⟨ret_int (by first | (simp; done) | (simp; omega)), rfl⟩

set_option maxHeartbeats 1000000 in
theorem RefWild (A : Option Addr) (n : List Lab) (cap : Nat) (w : World) (hc : Cs w A (n.map strV)) (hf : n.length ≤ 1000000) :
    Calls Tryz.prog 93 #[.slice A n.length cap] w fun e w' => e = .returned (.bool (wild n)) ∧ w = w' := by
  cases n with
  | nil =>
    go_enter Tryz.func93, Tryz.ntmps93
    go_wp2_with fail
    go_ret
    exact ⟨rfl, rfl⟩
  | cons l n =>
    obtain ⟨bk, off, rfl, hbl, hc0⟩ := Cs.str hc (i := 0) (by simp)
    rw [Nat.add_zero] at hc0
    simp only [List.getElem_cons_zero] at hc0
    have hpos : (0 : Int) < (((l :: n).length : Nat) : Int) := by simp only [List.length_cons]; omega
    have hw : wild (l :: n) = ((strB l).toList == [42]) := by
      rw [strB_toList]
      unfold wild
      split
      · rename_i h; cases h; rfl
      · rename_i h
        rw [eq_comm, beq_eq_false_iff_ne]
        intro e; subst e; exact h n rfl
    rw [hw]
    clear hw
    generalize (l :: n).length = m at *
    go_enter Tryz.func93, Tryz.ntmps93
    go_wp2_with fail
    go_ret
    exact ⟨rfl, rfl⟩
set_option maxHeartbeats 1000000 in
theorem RefLabels (A : Option Addr) (n : List Lab) (cap : Nat) (w : World) (hc : Cs w A (n.map strV)) (hf : n.length ≤ 1000000) :
    Calls Tryz.prog 56 #[.slice A n.length cap] w fun e w' => e = .returned (.int .u8 (labels n)) ∧ w = w' := by
  unfold labels
  cases hw : wild n
  · go_enter Tryz.func56, Tryz.ntmps56
    go_wp2_with fail
    refine (RefWild A n cap w hc hf).mono ?_
    rintro e w' ⟨rfl, rfl⟩
    go_wp2_with fail
    go_ret
    exact ⟨ret_int (by simp), rfl⟩
  · have hpos : 1 ≤ n.length := by cases n with | nil => cases hw | cons a n => simp
    go_enter Tryz.func56, Tryz.ntmps56
    go_wp2_with fail
    refine (RefWild A n cap w hc hf).mono ?_
    rintro e w' ⟨rfl, rfl⟩
    go_wp2_with fail
    go_ret
    exact ⟨ret_int (by omega), rfl⟩

/-- times don't come round -/
def plus (a b : Int) : Int := min (a + b) 4294967295
set_option maxHeartbeats 1000000 in
theorem Plus (a b : Int) (h1 : 0 ≤ a) (h2 : a ≤ 4294967295) (h3 : 0 ≤ b) (h4 : b ≤ 4294967295) (w : World) : Calls Tryz.prog 54 #[.int .u32 a, .int .u32 b] w fun e w' => e = .returned (.int .u32 (plus a b)) ∧ w = w' := by
  unfold plus
  go_enter Tryz.func54, Tryz.ntmps54
  go_wp2_with fail
  go_ret
  exact ⟨ret_int (by omega), rfl⟩
set_option maxHeartbeats 1000000 in
theorem RefPlus (a b : Int) (h1 : 0 ≤ a) (h2 : a ≤ 4294967295) (h3 : 0 ≤ b) (h4 : b ≤ 4294967295) (w : World) : Calls Tryz.prog 57 #[.int .u32 a, .int .u32 b] w fun e w' => e = .returned (.int .u32 (plus a b)) ∧ w = w' := by
  unfold plus
  go_enter Tryz.func57, Tryz.ntmps57
  go_wp2_with fail
  go_ret
  exact ⟨ret_int (by omega), rfl⟩
end Nm
end Go.Proofs.YtkeimgamjnpcbaaGreat
