/-
  Names on the wire, read: plain Lean, no program in sight.
-/
import Derived.Test.YtkeimgamjnpcbaaGreatName
namespace Go.Proofs.YtkeimgamjnpcbaaGreat
open Go.RowKit
set_option linter.unusedVariables false
namespace Nm
/-- a name read from bytes: its labels, how many bytes it takes -/
def openL : Nat → Lab → Option (List Lab × Nat)
  | 0, _ => none
  | _ + 1, [] => none
  | f + 1, c :: r => if c.toNat = 0 then some ([], 1) else if 63 < c.toNat ∨ r.length < c.toNat then none else
      (openL f (r.drop c.toNat)).map fun p => (r.take c.toNat :: p.1, p.2 + (1 + c.toNat))
def parse (b : Lab) : Option (List Lab × Nat) := openL (b.length + 1) b
theorem openL_fuel : ∀ (f g : Nat) (b : Lab), b.length < f → b.length < g → openL f b = openL g b
  | 0, _, b, h, _ => by omega
  | _ + 1, 0, b, _, h => by omega
  | f + 1, g + 1, [], _, _ => rfl
  | f + 1, g + 1, c :: r, h1, h2 => by
    unfold openL
    split
    · rfl
    · split
      · rfl
      · rw [openL_fuel f g (r.drop c.toNat) (by simp at *; omega) (by simp at *; omega)]
theorem parse_nil : parse [] = none := rfl
theorem parse_cons (c : UInt8) (r : Lab) : parse (c :: r) = if c.toNat = 0 then some ([], 1) else if 63 < c.toNat ∨ r.length < c.toNat then none else
    (parse (r.drop c.toNat)).map fun p => (r.take c.toNat :: p.1, p.2 + (1 + c.toNat)) := by
  unfold parse
  rw [show (c :: r).length + 1 = (r.length + 1) + 1 from rfl]
  conv => lhs; unfold openL
  split
  · rfl
  · split
    · rfl
    · rw [openL_fuel (r.length + 1) ((r.drop c.toNat).length + 1) (r.drop c.toNat) (by simp; omega) (by omega)]
/-- what was read so far ahead of what will be -/
def pre (n : List Lab) (k : Nat) (o : Option (List Lab × Nat)) : Option (List Lab × Nat) := o.map fun p => (n ++ p.1, p.2 + k)
theorem pre_nil (o : Option (List Lab × Nat)) : pre [] 0 o = o := by cases o <;> simp [pre]
theorem pre_step {b : Lab} {n : List Lab} {k : Nat} (hk : k < b.length) (h0 : b[k].toNat ≠ 0) (h1 : ¬ 63 < b[k].toNat) (h2 : k + 1 + b[k].toNat ≤ b.length) :
    pre n k (parse (b.drop k)) = pre (n ++ [(b.drop (k + 1)).take b[k].toNat]) (k + 1 + b[k].toNat) (parse (b.drop (k + 1 + b[k].toNat))) := by
  rw [List.drop_eq_getElem_cons hk, parse_cons, if_neg h0, if_neg (by rw [List.length_drop]; omega)]
  rw [List.drop_drop]
  cases parse (b.drop (k + 1 + b[k].toNat)) with
  | none => rfl
  | some p => simp [pre]; omega
theorem pre_end {b : Lab} {n : List Lab} {k : Nat} (hk : k < b.length) (h0 : b[k].toNat = 0) : pre n k (parse (b.drop k)) = some (n, k + 1) := by
  rw [List.drop_eq_getElem_cons hk, parse_cons, if_pos h0]
  simp [pre]; omega
theorem pre_long {b : Lab} {n : List Lab} {k : Nat} (hk : k < b.length) (h1 : 63 < b[k].toNat) : pre n k (parse (b.drop k)) = none := by
  rw [List.drop_eq_getElem_cons hk, parse_cons, if_neg (by omega), if_pos (.inl h1)]
  rfl
theorem pre_short {b : Lab} {n : List Lab} {k : Nat} (hk : k < b.length) (h0 : b[k].toNat ≠ 0) (h2 : ¬ k + 1 + b[k].toNat ≤ b.length) : pre n k (parse (b.drop k)) = none := by
  rw [List.drop_eq_getElem_cons hk, parse_cons, if_neg h0, if_pos (.inr (by rw [List.length_drop]; omega))]
  rfl
theorem pre_out {b : Lab} {n : List Lab} {k : Nat} (hk : ¬ k < b.length) : pre n k (parse (b.drop k)) = none := by
  rw [List.drop_eq_nil_of_le (by omega), parse_nil]
  rfl
/-- what is read: labels of 1 to 63 bytes, whose bytes these are -/
theorem parse_some : ∀ (m : Nat) (b : Lab), b.length ≤ m → ∀ {n k}, parse b = some (n, k) → k ≤ b.length ∧ wire n = b.take k ∧ (∀ l ∈ n, 1 ≤ l.length ∧ l.length ≤ 63) ∧ n.length < k
  | 0, b, hm, n, k, h => by
    have : b = [] := List.length_eq_zero_iff.1 (by omega)
    subst this; cases h
  | m + 1, [], hm, n, k, h => by cases h
  | m + 1, c :: r, hm, n, k, h => by
    rw [parse_cons] at h
    split at h
    · rename_i h0
      cases h
      have : c = 0 := by exact UInt8.toNat_inj.1 (by simpa using h0)
      subst this
      simp [wire, wires]
    · rename_i h0
      split at h
      · cases h
      · rename_i h1
        cases hp : parse (r.drop c.toNat) with
        | none => rw [hp] at h; cases h
        | some p =>
          obtain ⟨n', k'⟩ := p
          rw [hp] at h
          simp at h
          obtain ⟨rfl, rfl⟩ := h
          obtain ⟨g1, g2, g3, g4⟩ := parse_some m (r.drop c.toNat) (by simp at *; omega) hp
          have hlen : (r.take c.toNat).length = c.toNat := by rw [List.length_take]; omega
          refine ⟨by simp at *; omega, ?_, ?_, by simp; omega⟩
          · have e1 : wire (r.take c.toNat :: n') = wire1 (r.take c.toNat) ++ wire n' := by simp [wire, wires]
            rw [e1, g2]
            unfold wire1
            rw [hlen]
            rw [show k' + (1 + c.toNat) = (c.toNat + k') + 1 from by omega, List.take_succ_cons, List.take_add]
            simp
          · intro l hl
            rcases List.mem_cons.1 hl with rfl | hl
            · omega
            · exact g3 l hl
theorem wires_cons (l : Lab) (n : List Lab) : wires (l :: n) = wire1 l ++ wires n := rfl
theorem wire_cons (l : Lab) (n : List Lab) : wire (l :: n) = wire1 l ++ wire n := by simp [wire, wires]
theorem parse_wire : ∀ (n : List Lab) (r : Lab), (∀ l ∈ n, 1 ≤ l.length ∧ l.length ≤ 63) → parse (wire n ++ r) = some (n, (wire n).length)
  | [], r, _ => by
    show parse (0 :: r) = _
    rw [parse_cons]; rfl
  | l :: n, r, h => by
    have h1 := h l (by simp)
    have hc : (UInt8.ofNat l.length).toNat = l.length := by simp; omega
    rw [wire_cons]
    show parse (UInt8.ofNat l.length :: (l ++ wire n ++ r)) = _
    rw [parse_cons, hc, if_neg (by omega), if_neg (by simp; omega), List.append_assoc, List.drop_left, List.take_left,
      parse_wire n r (fun x hx => h x (by simp [hx]))]
    simp [wire1]
    omega
theorem wire_inj {n m : List Lab} (hn : ∀ l ∈ n, 1 ≤ l.length ∧ l.length ≤ 63) (hm : ∀ l ∈ m, 1 ≤ l.length ∧ l.length ≤ 63) (h : wire n = wire m) : n = m := by
  have h1 := parse_wire n [] hn
  have h2 := parse_wire m [] hm
  rw [h] at h1
  rw [h1] at h2
  simpa using h2

/-- the document's check of a name -/
def nameE (n : List Lab) : Int := if n.any (·.isEmpty) then 30 else if n.any (fun l => decide (63 < l.length)) || decide (255 < (wire n).length) then 31 else 0
theorem nameE_zero {n : List Lab} : nameE n = 0 ↔ (∀ l ∈ n, 1 ≤ l.length ∧ l.length ≤ 63) ∧ (wire n).length ≤ 255 := by
  unfold nameE
  constructor
  · intro h
    split at h
    · cases h
    · rename_i h1
      split at h
      · cases h
      · rename_i h2
        simp at h1 h2
        refine ⟨fun l hl => ⟨?_, h2.1 l hl⟩, h2.2⟩
        exact List.length_pos_iff.2 (fun e => h1 (e ▸ hl))
  · intro ⟨h1, h2⟩
    rw [if_neg, if_neg]
    · simp
      exact ⟨fun l hl => (h1 l hl).2, h2⟩
    · simp
      intro hl
      have := (h1 [] hl).1
      simp at this
/-- what name.Open tells -/
def openE (b : Lab) : Int := match parse b with
  | none => 30
  | some (_, k) => if 255 < k then 31 else 0
def openN (b : Lab) : List Lab := match parse b with
  | none => []
  | some (n, k) => if 255 < k then [] else n
def openK (b : Lab) : Nat := match parse b with
  | none => 0
  | some (n, k) => if 255 < k then 0 else k
theorem nameE_parse {b : Lab} {n : List Lab} {k : Nat} (h : parse b = some (n, k)) : nameE n = if 255 < k then 31 else 0 := by
  obtain ⟨h1, h2, h3, _⟩ := parse_some b.length b (Nat.le_refl _) h
  have hk : (wire n).length = k := by rw [h2, List.length_take]; omega
  unfold nameE
  rw [hk, if_neg, ]
  · have : (n.any fun l => decide (63 < l.length)) = false := by
      rw [List.any_eq_false]
      intro l hl
      have := h3 l hl
      simp; omega
    rw [this]
    simp
  · simp
    intro hl
    have := (h3 [] hl).1
    simp at this
end Nm
end Go.Proofs.YtkeimgamjnpcbaaGreat
