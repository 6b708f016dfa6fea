/-
  Plain mathematics of texts of bytes (layer 2): digits of a number to a base, and back; no program in sight.
-/
import Derived.Test.YtlbonlkogelhkaaRows
namespace Go.Proofs.Ytlbonlkogelhkaa
set_option linter.unusedVariables false
namespace BaseM

/-- the last k digits of V to the base B, the greatest first -/
def digs (B : Nat) : Nat → Nat → List Nat
  | 0, _ => []
  | k + 1, V => digs B k (V / B) ++ [V % B]
/-- the number whose digits to the base B these are -/
def num (B : Nat) (l : List Nat) : Nat := l.foldl (fun a d => a * B + d) 0

theorem digs_length (B k V : Nat) : (digs B k V).length = k := by
  induction k generalizing V with
  | zero => rfl
  | succ k ih => simp [digs, ih]
theorem digs_lt {B : Nat} (hB : 0 < B) (k V : Nat) : ∀ d ∈ digs B k V, d < B := by
  induction k generalizing V with
  | zero => simp [digs]
  | succ k ih =>
    intro d hd
    rcases List.mem_append.1 hd with h | h
    · exact ih _ d h
    · simp at h; subst h; exact Nat.mod_lt _ hB
theorem num_nil (B : Nat) : num B [] = 0 := rfl
theorem num_snoc (B : Nat) (l : List Nat) (d : Nat) : num B (l ++ [d]) = num B l * B + d := by simp [num, List.foldl_append]
theorem snoc_cases {α : Type} (l : List α) : l = [] ∨ ∃ l' x, l = l' ++ [x] := by
  rcases List.eq_nil_or_concat l with h | ⟨l', x, h⟩
  · exact .inl h
  · exact .inr ⟨l', x, by simpa using h⟩
theorem snoc_ind {α : Type} {p : List α → Prop} (h0 : p []) (hs : ∀ l x, p l → p (l ++ [x])) (l : List α) : p l := by
  have H : ∀ n, ∀ l : List α, l.length = n → p l := by
    intro n
    induction n with
    | zero => intro l h; rw [List.eq_nil_of_length_eq_zero h]; exact h0
    | succ n ih =>
      intro l h
      rcases snoc_cases l with rfl | ⟨l', x, rfl⟩
      · exact h0
      · exact hs l' x (ih l' (by simpa using h))
  exact H _ l rfl
theorem num_lt {B : Nat} (hB : 0 < B) (l : List Nat) (h : ∀ d ∈ l, d < B) : num B l < B ^ l.length := by
  induction l using snoc_ind with
  | h0 => simp [num]
  | hs l x ih =>
    have i1 := ih (fun d hd => h d (List.mem_append.2 (.inl hd)))
    have i2 := h x (by simp)
    rw [num_snoc, List.length_append, List.length_singleton, Nat.pow_succ]
    calc num B l * B + x < num B l * B + B := by omega
      _ = (num B l + 1) * B := by rw [Nat.add_mul, Nat.one_mul]
      _ ≤ B ^ l.length * B := Nat.mul_le_mul_right _ i1
theorem num_digs (B k V : Nat) : num B (digs B k V) = V % B ^ k := by
  induction k generalizing V with
  | zero => simp [digs, num, Nat.mod_one]
  | succ k ih =>
    rw [digs, num_snoc, ih, Nat.pow_succ, Nat.mul_comm (B ^ k) B, Nat.mod_mul, Nat.mul_comm, Nat.add_comm]
theorem digs_num {B : Nat} (hB : 0 < B) (l : List Nat) (h : ∀ d ∈ l, d < B) : digs B l.length (num B l) = l := by
  induction l using snoc_ind with
  | h0 => rfl
  | hs l x ih =>
    have i1 := ih (fun d hd => h d (List.mem_append.2 (.inl hd)))
    have i2 := h x (by simp)
    rw [num_snoc, List.length_append, List.length_singleton, digs]
    rw [show (num B l * B + x) / B = num B l from by rw [Nat.mul_comm, Nat.mul_add_div hB, Nat.div_eq_of_lt i2, Nat.add_zero], i1]
    rw [show (num B l * B + x) % B = x from by rw [Nat.mul_comm, Nat.mul_add_mod, Nat.mod_eq_of_lt i2]]
theorem digs_inj {B : Nat} {k V W : Nat} (hV : V < B ^ k) (hW : W < B ^ k) (h : digs B k V = digs B k W) : V = W := by
  have h1 := num_digs B k V
  have h2 := num_digs B k W
  rw [h, h2, Nat.mod_eq_of_lt hW, Nat.mod_eq_of_lt hV] at h1
  exact h1.symm

/-- lists of one length, the first that parts decides -/
def lexLt : List Nat → List Nat → Bool
  | [], [] => false
  | [], _ :: _ => true
  | _ :: _, [] => false
  | a :: l, b :: r => decide (a < b) || (decide (a = b) && lexLt l r)

theorem lexLt_snoc : ∀ (l r : List Nat) (a b : Nat), l.length = r.length → lexLt (l ++ [a]) (r ++ [b]) = (lexLt l r || (decide (l = r) && decide (a < b)))
  | [], [], a, b, _ => by simp [lexLt]
  | [], _ :: _, _, _, h => by simp at h
  | _ :: _, [], _, _, h => by simp at h
  | x :: l, y :: r, a, b, h => by
    have ih := lexLt_snoc l r a b (by simpa using h)
    simp only [List.cons_append, lexLt, ih, List.cons.injEq]
    by_cases e : x = y
    · subst e; simp
    · simp [e]
theorem lexLt_num {B : Nat} (hB : 0 < B) : ∀ (l r : List Nat), l.length = r.length → (∀ d ∈ l, d < B) → (∀ d ∈ r, d < B) → lexLt l r = decide (num B l < num B r) := by
  intro l
  induction l using snoc_ind with
  | h0 => intro r h _ _; rw [List.eq_nil_of_length_eq_zero (l := r) (by simpa using h.symm)]; simp [lexLt, num]
  | hs l x ih =>
    intro r h hl hr
    rcases snoc_cases r with rfl | ⟨r', y, rfl⟩
    · simp at h
    · have hlen : l.length = r'.length := by simpa using h
      have ll : ∀ d ∈ l, d < B := fun d hd => hl d (List.mem_append.2 (.inl hd))
      have rr : ∀ d ∈ r', d < B := fun d hd => hr d (List.mem_append.2 (.inl hd))
      have hx := hl x (by simp)
      have hy := hr y (by simp)
      rw [lexLt_snoc _ _ _ _ hlen, ih r' hlen ll rr, num_snoc, num_snoc]
      by_cases e : l = r'
      · subst e
        have e1 : (num B l * B + x < num B l * B + y) = (x < y) := by simp
        simp [e1]
      · have hne : num B l ≠ num B r' := by
          intro he
          have h1 := digs_num hB l ll
          have h2 := digs_num hB r' rr
          rw [he, hlen, h2] at h1
          exact e h1.symm
        have e1 : decide (num B l * B + x < num B r' * B + y) = decide (num B l < num B r') := by
          rw [decide_eq_decide]
          constructor
          · intro h
            rcases Nat.lt_or_ge (num B l) (num B r') with g | g
            · exact g
            · have : (num B r' + 1) * B ≤ num B l * B := Nat.mul_le_mul_right _ (by omega)
              rw [Nat.add_mul] at this; omega
          · intro h
            have : (num B l + 1) * B ≤ num B r' * B := Nat.mul_le_mul_right _ (by omega)
            rw [Nat.add_mul] at this; omega
        simp [e, e1]

/-- a digit's letter -/
def dch (d : Nat) : Nat := if d < 10 then 48 + d else 87 + d
/-- a letter's digit, one of so many -/
def dval (most : Nat) (c : Nat) : Option Nat :=
  let c' := if 65 ≤ c ∧ c ≤ 90 then c + 32 else c
  if 48 ≤ c' ∧ c' ≤ 57 ∧ c' - 48 < most then some (c' - 48) else if 97 ≤ c' ∧ c' ≤ 118 ∧ c' - 87 < most then some (c' - 87) else none

theorem dch_lt {d : Nat} (h : d < 32) : dch d < 128 := by unfold dch; split <;> omega
def low (c : Nat) : Nat := if 65 ≤ c ∧ c ≤ 90 then c + 32 else c
theorem dval_eq (most c : Nat) : dval most c = if 48 ≤ low c ∧ low c ≤ 57 ∧ low c - 48 < most then some (low c - 48) else if 97 ≤ low c ∧ low c ≤ 118 ∧ low c - 87 < most then some (low c - 87) else none := rfl
theorem dval_dch {most d : Nat} (hm : most ≤ 32) (h : d < most) : dval most (dch d) = some d := by
  rw [dval_eq]
  unfold dch
  by_cases h1 : d < 10
  · have e : low (48 + d) = 48 + d := by unfold low; rw [if_neg (by omega)]
    rw [if_pos h1, e, if_pos (by omega)]
    congr 1; omega
  · have e : low (87 + d) = 87 + d := by unfold low; rw [if_neg (by omega)]
    rw [if_neg h1, e, if_neg (by omega), if_pos (by omega)]
    congr 1; omega
theorem dval_lt {most c d : Nat} (h : dval most c = some d) : d < most := by
  rw [dval_eq] at h
  generalize low c = x at h
  by_cases h1 : 48 ≤ x ∧ x ≤ 57 ∧ x - 48 < most
  · rw [if_pos h1] at h; cases h; omega
  · rw [if_neg h1] at h
    by_cases h2 : 97 ≤ x ∧ x ≤ 118 ∧ x - 87 < most
    · rw [if_pos h2] at h; cases h; omega
    · rw [if_neg h2] at h; cases h
theorem dval_some {most k c : Nat} (hm : most ≤ 32) (hk : k < most) (h : dch k = low c) : dval most c = some k := by
  rw [dval_eq, ← h]
  unfold dch
  by_cases h1 : k < 10
  · rw [if_pos h1, if_pos (by omega)]; congr 1; omega
  · rw [if_neg h1, if_neg (by omega), if_pos (by omega)]; congr 1; omega
theorem dval_none {most c : Nat} (hm : most ≤ 32) (h : ∀ j, j < most → dch j ≠ low c) : dval most c = none := by
  rw [dval_eq]
  generalize low c = x at h
  by_cases h1 : 48 ≤ x ∧ x ≤ 57 ∧ x - 48 < most
  · exact absurd (show dch (x - 48) = x by unfold dch; rw [if_pos (by omega)]; omega) (h (x - 48) h1.2.2)
  · rw [if_neg h1]
    by_cases h2 : 97 ≤ x ∧ x ≤ 118 ∧ x - 87 < most
    · exact absurd (show dch (x - 87) = x by unfold dch; rw [if_neg (by omega)]; omega) (h (x - 87) h2.2.2)
    · rw [if_neg h2]
theorem dch_mono {a b : Nat} (ha : a < 32) (hb : b < 32) : (dch a < dch b) = (a < b) := by
  unfold dch; (repeat' split) <;> simp <;> omega
theorem dch_inj {a b : Nat} (ha : a < 32) (hb : b < 32) : (dch a = dch b) = (a = b) := by
  unfold dch; (repeat' split) <;> simp <;> omega

/-- how many digits of s bits -/
def cnt (s n : Nat) : Nat := (8 * n + s - 1) / s
/-- the digits of bytes -/
def encD (s : Nat) (l : List Nat) : List Nat := digs (2 ^ s) (cnt s l.length) (num 256 l * 2 ^ (s * cnt s l.length - 8 * l.length))
/-- the text of bytes -/
def enc (s : Nat) (l : List Nat) : List Nat := (encD s l).map dch
/-- all digits, or none -/
def vals (most : Nat) : List Nat → Option (List Nat)
  | [] => some []
  | c :: r => match dval most c with
    | none => none
    | some d => match vals most r with
      | none => none
      | some ds => some (d :: ds)
/-- the bytes of digits -/
def decD (s : Nat) (ds : List Nat) : Option (List Nat) :=
  if s ≤ s * ds.length % 8 ∨ num (2 ^ s) ds % 2 ^ (s * ds.length % 8) ≠ 0 then none
  else some (digs 256 (s * ds.length / 8) (num (2 ^ s) ds / 2 ^ (s * ds.length % 8)))
/-- a text read -/
def dec (s : Nat) (l : List Nat) : Option (List Nat) := (vals (2 ^ s) l).bind (decD s)

theorem vals_map {most : Nat} (hm : most ≤ 32) (ds : List Nat) (h : ∀ d ∈ ds, d < most) : vals most (ds.map dch) = some ds := by
  induction ds with
  | nil => rfl
  | cons d r ih => simp [vals, dval_dch hm (h d (by simp)), ih (fun x hx => h x (by simp [hx]))]
theorem vals_lt {most : Nat} {l ds : List Nat} (h : vals most l = some ds) : ∀ d ∈ ds, d < most := by
  induction l generalizing ds with
  | nil => simp [vals] at h; subst h; simp
  | cons c r ih =>
    simp only [vals] at h
    cases hd : dval most c with
    | none => simp [hd] at h
    | some d =>
      cases hr : vals most r with
      | none => simp [hd, hr] at h
      | some ds' =>
        simp [hd, hr] at h
        subst h
        intro x hx
        rcases List.mem_cons.1 hx with rfl | hx
        · exact dval_lt hd
        · exact ih hr x hx
theorem vals_length {most : Nat} {l ds : List Nat} (h : vals most l = some ds) : ds.length = l.length := by
  induction l generalizing ds with
  | nil => simp [vals] at h; subst h; simp
  | cons c r ih =>
    simp only [vals] at h
    cases hd : dval most c with
    | none => simp [hd] at h
    | some d =>
      cases hr : vals most r with
      | none => simp [hd, hr] at h
      | some ds' =>
        simp [hd, hr] at h
        subst h
        simp [ih hr]
theorem vals_snoc (most : Nat) (l : List Nat) (c : Nat) : vals most (l ++ [c]) = (vals most l).bind fun ds => (dval most c).map fun d => ds ++ [d] := by
  induction l with
  | nil => simp [vals]; cases dval most c <;> simp
  | cons x r ih =>
    simp only [List.cons_append, vals, ih]
    cases dval most x with
    | none => simp
    | some d =>
      cases vals most r with
      | none => simp
      | some ds => cases dval most c <;> simp

theorem vals_none {most : Nat} (l r : List Nat) (h : vals most l = none) : vals most (l ++ r) = none := by
  induction l with
  | nil => simp [vals] at h
  | cons c l ih =>
    simp only [List.cons_append, vals] at h ⊢
    cases hd : dval most c with
    | none => simp
    | some d =>
      cases hr : vals most l with
      | none => simp [ih hr]
      | some ds => simp [hd, hr] at h
theorem dec_none {s : Nat} {l : List Nat} (k : Nat) (h : vals (2 ^ s) (l.take k) = none) : dec s l = none := by
  unfold dec
  rw [← List.take_append_drop k l, vals_none _ _ h]
  rfl
theorem dval_high {most c : Nat} (hm : most ≤ 32) (h : 128 ≤ c) : dval most c = none := by
  apply dval_none hm
  intro j hj
  have := dch_lt (show j < 32 by omega)
  unfold low
  rw [if_neg (by omega)]; omega

/-- for s = 4 and s = 5: the digits of bytes are read as the bytes -/
theorem decD_encD {s : Nat} (hs : s = 4 ∨ s = 5) (l : List Nat) (hl : ∀ d ∈ l, d < 256) : decD s (encD s l) = some l := by
  have hlen : (encD s l).length = cnt s l.length := digs_length _ _ _
  have hN := num_lt (B := 256) (by omega) l hl
  have hn : num (2 ^ s) (encD s l) = num 256 l * 2 ^ (s * cnt s l.length - 8 * l.length) := by
    unfold encD
    rw [num_digs]
    apply Nat.mod_eq_of_lt
    rw [← Nat.pow_mul]
    have e : s * cnt s l.length = 8 * l.length + (s * cnt s l.length - 8 * l.length) := by
      unfold cnt; rcases hs with rfl | rfl <;> omega
    rw [e, Nat.pow_add]
    have e8 : (256 : Nat) ^ l.length = 2 ^ (8 * l.length) := by rw [Nat.pow_mul]
    rw [e8] at hN
    have e0 : 8 * l.length + (s * cnt s l.length - 8 * l.length) - 8 * l.length = s * cnt s l.length - 8 * l.length := by omega
    rw [e0]
    exact Nat.mul_lt_mul_of_pos_right hN (Nat.pow_pos (by omega))
  have hr : s * cnt s l.length % 8 = s * cnt s l.length - 8 * l.length := by unfold cnt; rcases hs with rfl | rfl <;> omega
  have hr2 : s * cnt s l.length / 8 = l.length := by unfold cnt; rcases hs with rfl | rfl <;> omega
  have hr3 : s * cnt s l.length - 8 * l.length < s := by unfold cnt; rcases hs with rfl | rfl <;> omega
  unfold decD
  rw [hlen, hn, hr, hr2, if_neg]
  · rw [Nat.mul_div_cancel _ (Nat.pow_pos (by omega)), digs_num (by omega) l hl]
  · rw [Nat.mul_mod_left]; omega
theorem encD_lt {s : Nat} (l : List Nat) : ∀ d ∈ encD s l, d < 2 ^ s := digs_lt (Nat.pow_pos (by omega)) _ _
theorem dec_enc {s : Nat} (hs : s = 4 ∨ s = 5) (l : List Nat) (hl : ∀ d ∈ l, d < 256) : dec s (enc s l) = some l := by
  unfold dec enc
  rw [vals_map (by rcases hs with rfl | rfl <;> omega) _ (encD_lt l)]
  exact decD_encD hs l hl
theorem enc_length (s : Nat) (l : List Nat) : (enc s l).length = cnt s l.length := by simp [enc, encD, digs_length]
theorem lexLt_map (l r : List Nat) (hl : ∀ d ∈ l, d < 32) (hr : ∀ d ∈ r, d < 32) : lexLt (l.map dch) (r.map dch) = lexLt l r := by
  induction l generalizing r with
  | nil => cases r <;> rfl
  | cons a l ih =>
    cases r with
    | nil => rfl
    | cons b r =>
      simp only [List.map_cons, lexLt, ih r (fun d hd => hl d (by simp [hd])) (fun d hd => hr d (by simp [hd])), dch_mono (hl a (by simp)) (hr b (by simp)), dch_inj (hl a (by simp)) (hr b (by simp))]
/-- texts of bytes of one length stand in their order -/
theorem lexLt_enc {s : Nat} (hs : s = 4 ∨ s = 5) (l r : List Nat) (h : l.length = r.length) (hl : ∀ d ∈ l, d < 256) (hr : ∀ d ∈ r, d < 256) : lexLt (enc s l) (enc s r) = lexLt l r := by
  have b1 : ∀ d ∈ encD s l, d < 32 := fun d hd => by have := encD_lt l d hd; rcases hs with rfl | rfl <;> omega
  have b2 : ∀ d ∈ encD s r, d < 32 := fun d hd => by have := encD_lt r d hd; rcases hs with rfl | rfl <;> omega
  unfold enc
  rw [lexLt_map _ _ b1 b2, lexLt_num (B := 2 ^ s) (Nat.pow_pos (by omega)) _ _ (by simp [encD, digs_length, h]) (encD_lt l) (encD_lt r), lexLt_num (B := 256) (by omega) l r h hl hr]
  have key : ∀ (l : List Nat), (∀ d ∈ l, d < 256) → num (2 ^ s) (encD s l) = num 256 l * 2 ^ (s * cnt s l.length - 8 * l.length) := by
    intro l hl
    have hN := num_lt (B := 256) (by omega) l hl
    unfold encD
    rw [num_digs]
    apply Nat.mod_eq_of_lt
    rw [← Nat.pow_mul]
    have e : s * cnt s l.length = 8 * l.length + (s * cnt s l.length - 8 * l.length) := by
      unfold cnt; rcases hs with rfl | rfl <;> omega
    rw [e, Nat.pow_add]
    have e8 : (256 : Nat) ^ l.length = 2 ^ (8 * l.length) := by rw [Nat.pow_mul]
    rw [e8] at hN
    have e0 : 8 * l.length + (s * cnt s l.length - 8 * l.length) - 8 * l.length = s * cnt s l.length - 8 * l.length := by omega
    rw [e0]
    exact Nat.mul_lt_mul_of_pos_right hN (Nat.pow_pos (by omega))
  rw [key l hl, key r hr, h, decide_eq_decide]
  exact Nat.mul_lt_mul_right (Nat.pow_pos (by omega))

end BaseM
end Go.Proofs.Ytlbonlkogelhkaa
