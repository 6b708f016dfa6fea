/-
  Contracts of package name, continued: Lower, Wire, Wild.
-/
import Derived.Test.YtkeimgamjnpcbaaGreatName
namespace Go.Proofs.YtkeimgamjnpcbaaGreat
open Go.RowKit
set_option linter.unusedVariables false
namespace Nm


/-- a name of few labels, each short -/
def Few (n : List Lab) : Prop := n.length ≤ 100000 ∧ ∀ l ∈ n, l.length ≤ 100000
theorem Few.lower {n : List Lab} (h : Few n) : Few (lower n) := by
  refine ⟨by rw [lower_len]; exact h.1, ?_⟩
  intro l hl
  obtain ⟨x, hx, rfl⟩ := List.mem_map.1 hl
  rw [low_len]; exact h.2 x hx
theorem Few.drop {n : List Lab} (h : Few n) (k : Nat) : Few (n.drop k) := ⟨by rw [List.length_drop]; have := h.1; omega, fun l hl => h.2 l (List.mem_of_mem_drop hl)⟩

def LowerR (n : List Lab) (w : World) (v i : Value) (wr : World) : Prop :=
  ∃ k : Nat, k ≤ n.length ∧ i = .int .i64 k ∧ wr.ownsRow w.heap.size 9 1 v k ((lower (n.take k)).map strV) ∧ Below w.heap.size w wr
set_option maxHeartbeats 1000000 in
theorem Lower (A : Option Addr) (n : List Lab) (cap : Nat) (w : World) (hc : Cs w A (n.map strV)) (hf : Few n) :
    Calls Tryz.prog 59 #[.slice A n.length cap] w fun e w' => ∃ v, e = .returned v ∧ w'.ownsRow w.heap.size 9 1 v n.length ((lower n).map strV) ∧ Below w.heap.size w w' := by
  obtain ⟨i0, hi, hz0, hz1, hz2⟩ := info_parts info_str
  have hlen := hf.1
  have HF := Lib.hid hf
  clear hf
  go_enter Tryz.func59, Tryz.ntmps59
  go_wp2_with fail
  go_loopw [3, 8] (LowerR n w) (fun _ i _ => n.length - (intOf i).toNat)
  case atStart => exact ⟨0, Nat.zero_le _, rfl, World.ownsRow_nil _ _ _ _, Below.refl _ _⟩
  case round =>
    obtain ⟨k, hk, rfl, hown, hbel⟩ := hrel
    by_cases hlt : k < n.length
    · obtain ⟨bk, off, rfl, hbl, hc0⟩ := Cs.str hc hlt
      have hc1 := (hbel.cell (p := ⟨bk, off + k, none⟩) hbl).trans hc0
      have hl6 : n[k].length ≤ 1000000 := by have := HF.out.2 n[k] (List.getElem_mem hlt); omega
      have HN : Hid ((lower (n.take (k + 1))).map strV = (lower (n.take k)).map strV ++ [strV (low n[k])]) := by
        show _ = _
        unfold lower
        rw [List.take_succ_eq_append_getElem hlt, List.map_append, List.map_append]; rfl
      generalize n[k] = l at *
      go_wp2_with fail
      refine (small l _ hl6).mono ?_
      rintro e w2 ⟨rfl, hb2⟩
      have hown2 := own_below hown hb2
      have hbel2 := hbel.trans (hb2.mono hbel.size)
      go_wp2_with (first | (at_builtin; refine wpList_push2 hown2 hbel2.size [strV (low l)] rfl (by simp [strV, Value.oneCell']) hi hz0 hz1 hz2 rfl (by decide) rfl _ _ 23 Tryz.underlying23 rfl rfl rfl (by unfold maxLen; omega) (by omega) ?_; intro v4 w4 hown4 hbw4; have hbw5 := hbel2.trans hbw4))
      exact ⟨⟨k + 1, by omega, by go_num, by rw [HN.out]; exact hown4, hbw5⟩, by simp [intOf]; omega⟩
    · have hkl : k = n.length := by omega
      rw [hkl, List.take_length] at hown
      clear hkl
      go_wp2_with fail
      go_ret
      exact ⟨_, rfl, hown, hbel⟩

theorem wires_take {n : List Lab} {k : Nat} (h : k < n.length) : wires (n.take (k + 1)) = wires (n.take k) ++ ([UInt8.ofNat n[k].length] ++ n[k]) := by
  unfold wires
  rw [List.take_succ_eq_append_getElem h, List.flatMap_append]
  simp [wire1]
theorem wires_len {n : List Lab} (h : ∀ l ∈ n, l.length ≤ 100000) : (wires n).length ≤ n.length * 100001 := by
  induction n with
  | nil => simp [wires]
  | cons a n ih =>
    have h1 := h a (List.mem_cons_self ..)
    have h2 := ih (fun l hl => h l (List.mem_cons_of_mem _ hl))
    have e : wires (a :: n) = wire1 a ++ wires n := by simp [wires]
    rw [e, List.length_append, List.length_cons]
    have : (wire1 a).length = a.length + 1 := by simp [wire1]
    rw [this, Nat.add_mul]; omega
/-- a name whose bytes are few -/
def Small (n : List Lab) : Prop := n.length ≤ 1000 ∧ ∀ l ∈ n, l.length ≤ 1000
theorem Small.few {n : List Lab} (h : Small n) : Few n := ⟨by have := h.1; omega, fun l hl => by have := h.2 l hl; omega⟩
theorem Small.lower {n : List Lab} (h : Small n) : Small (lower n) := by
  refine ⟨by rw [lower_len]; exact h.1, ?_⟩
  intro l hl
  obtain ⟨x, hx, rfl⟩ := List.mem_map.1 hl
  rw [low_len]; exact h.2 x hx
theorem Small.drop {n : List Lab} (h : Small n) (k : Nat) : Small (n.drop k) := ⟨by rw [List.length_drop]; have := h.1; omega, fun l hl => h.2 l (List.mem_of_mem_drop hl)⟩
theorem Small.take {n : List Lab} (h : Small n) (k : Nat) : Small (n.take k) := ⟨by rw [List.length_take]; have := h.1; omega, fun l hl => h.2 l (List.mem_of_mem_take hl)⟩
theorem wires_few {n : List Lab} (h : Small n) : (wires n).length ≤ 1001000 := by
  obtain ⟨h1, h2⟩ := h
  have : ∀ m : List Lab, (∀ l ∈ m, l.length ≤ 1000) → (wires m).length ≤ m.length * 1001 := by
    intro m
    induction m with
    | nil => intro _; simp [wires]
    | cons a n ih =>
      intro h
      have h1 := h a (List.mem_cons_self ..)
      have h2 := ih (fun l hl => h l (List.mem_cons_of_mem _ hl))
      have e : wires (a :: n) = wire1 a ++ wires n := by simp [wires]
      rw [e, List.length_append, List.length_cons]
      have : (wire1 a).length = a.length + 1 := by simp [wire1]
      rw [this, Nat.add_mul]; omega
  have h3 := this n h2
  have : n.length * 1001 ≤ 1000 * 1001 := Nat.mul_le_mul_right _ h1
  omega

def WireR (n : List Lab) (w : World) (v i : Value) (wr : World) : Prop :=
  ∃ k : Nat, k ≤ n.length ∧ i = .int .i64 k ∧ wr.ownsRow w.heap.size 5 1 v (wires (n.take k)).length ((wires (n.take k)).map byteV) ∧ Below w.heap.size w wr
theorem byte_len (l : Lab) : byteV (UInt8.ofNat l.length) = .int .u8 ((l.length : Int) % 256) := by
  unfold byteV
  rw [UInt8.toNat_ofNat']
  congr 1
set_option maxHeartbeats 1000000 in
theorem Wire (A : Option Addr) (n : List Lab) (cap : Nat) (w : World) (hc : Cs w A (n.map strV)) (hf : Small n) :
    Calls Tryz.prog 61 #[.slice A n.length cap] w fun e w' => ∃ v, e = .returned v ∧ w'.ownsRow w.heap.size 5 1 v (wire n).length ((wire n).map byteV) ∧ Below w.heap.size w w' := by
  obtain ⟨i0, hi, hz0, hz1, hz2⟩ := info_parts info_u8
  have hlen := hf.1
  have HF := Lib.hid hf
  clear hf
  go_enter Tryz.func61, Tryz.ntmps61
  go_wp2_with fail
  go_loopw [3, 8] (WireR n w) (fun _ i _ => n.length - (intOf i).toNat)
  case atStart => exact ⟨0, Nat.zero_le _, rfl, World.ownsRow_nil _ _ _ _, Below.refl _ _⟩
  case round =>
    obtain ⟨k, hk, rfl, hown, hbel⟩ := hrel
    have hw6 : (wires (n.take k)).length ≤ 1001000 := wires_few (HF.out.take k)
    by_cases hlt : k < n.length
    · obtain ⟨bk, off, rfl, hbl, hc0⟩ := Cs.str hc hlt
      have hc1 := (hbel.cell (p := ⟨bk, off + k, none⟩) hbl).trans hc0
      have hl6 : n[k].length ≤ 1000 := HF.out.2 n[k] (List.getElem_mem hlt)
      have HN : Hid (wires (n.take (k + 1)) = wires (n.take k) ++ ([UInt8.ofNat n[k].length] ++ n[k])) := Lib.hid (wires_take hlt)
      have hsz := strB_size n[k]
      have hbv := byte_len n[k]
      generalize n[k] = l at *
      generalize hwk : wires (n.take k) = xs at *
      have HB := Lib.hid hbv
      clear hwk hbv
      go_wp2_with (first
        | (at_builtin; refine wpList_push2 hown hbel.size [.int .u8 ((l.length : Int) % 256)] rfl (by simp [Value.oneCell']) hi hz0 hz1 hz2 rfl (by decide) rfl (.tmp 12) _ 31 Tryz.underlying31 rfl rfl rfl (by unfold maxLen; omega) (by omega) ?_; intro v4 w4 hown4 hbw4; have hbw5 := hbel.trans hbw4; have hown5 : w4.ownsRow w.heap.size 5 1 v4 (xs.length + 1) ((xs ++ [UInt8.ofNat l.length]).map byteV) := (by rw [List.map_append, List.map_cons, HB.out]; exact hown4); clear hown4)
        | (at_builtin; refine wpList_text hown5 hbw5.size l rfl (.tmp 17) (.tmp 18) rfl rfl rfl (by omega) ?_; intro v6 w6 hown6 hbw6; have hbw7 := hbw5.trans hbw6))
      refine ⟨⟨k + 1, by omega, by go_num, ?_, hbw7⟩, by simp [intOf]; omega⟩
      rw [HN.out, ← List.append_assoc, List.length_append, List.length_append]; exact hown6
    · have hkl : k = n.length := by omega
      rw [hkl, List.take_length] at hown hw6
      clear hkl
      have HW : Hid ((wire n).map byteV = (wires n).map byteV ++ [.int .u8 0] ∧ (wire n).length = (wires n).length + 1) := Lib.hid (by unfold wire; rw [List.map_append, List.length_append]; exact ⟨rfl, rfl⟩)
      go_wp2_with (first
        | (at_builtin; refine wpList_push2 hown hbel.size [.int .u8 0] rfl (by simp [Value.oneCell']) hi hz0 hz1 hz2 rfl (by decide) rfl _ _ 31 Tryz.underlying31 rfl rfl rfl (by unfold maxLen; omega) (by omega) ?_; intro v4 w4 hown4 hbw4; have hbw5 := hbel.trans hbw4))
      go_ret
      exact ⟨_, rfl, by rw [HW.out.1, HW.out.2]; exact hown4, hbw5⟩

def wild : List Lab → Bool
  | [42] :: _ => true
  | _ => false
set_option maxHeartbeats 1000000 in
theorem Wild (A : Option Addr) (n : List Lab) (cap : Nat) (w : World) (hc : Cs w A (n.map strV)) (hf : n.length ≤ 1000000) :
    Calls Tryz.prog 64 #[.slice A n.length cap] w fun e w' => e = .returned (.bool (wild n)) ∧ w = w' := by
  cases n with
  | nil =>
    go_enter Tryz.func64, Tryz.ntmps64
    go_wp2_with fail
    go_ret
    exact ⟨rfl, rfl⟩
  | cons l n =>
    obtain ⟨bk, off, rfl, hbl, hc0⟩ := Cs.str hc (i := 0) (by simp)
    rw [Nat.add_zero] at hc0
    simp only [List.getElem_cons_zero] at hc0
    have hpos : (0 : Int) < (((l :: n).length : Nat) : Int) := by simp only [List.length_cons]; omega
    have hw : wild (l :: n) = ((strB l).toList == [42]) := by
      rw [strB_toList]
      unfold wild
      split
      · rename_i h; cases h; rfl
      · rename_i h
        rw [eq_comm, beq_eq_false_iff_ne]
        intro e; subst e; exact h n rfl
    rw [hw]
    clear hw
    generalize (l :: n).length = m at *
    go_enter Tryz.func64, Tryz.ntmps64
    go_wp2_with fail
    go_ret
    exact ⟨rfl, rfl⟩
end Nm
end Go.Proofs.YtkeimgamjnpcbaaGreat
