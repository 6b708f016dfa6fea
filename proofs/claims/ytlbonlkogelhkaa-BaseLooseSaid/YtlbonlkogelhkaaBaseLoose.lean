/-
  The walk of the law BaseLoose (signetlaw2): it returns true.
-/
import Derived.Test.YtlbonlkogelhkaaBaseLengths
import Derived.Deep.RegionWith
namespace Go.Proofs.Ytlbonlkogelhkaa
open Go.RowKit
set_option linter.unusedVariables false
namespace Base

/-- the bytes of a text, laid in a block of their own -/
theorem bytes_of (w : World) (l : List UInt8) : ∃ (w' : World) (cap : Nat) (cs : Array Value) (fr : Nat × Nat), (convert 9 33 (.string ⟨l.toArray⟩)).run Try.prog w = .ok (.slice (some ⟨w.heap.size, 0, none⟩) l.length cap) w' ∧ l.length ≤ cap ∧
    Below w.heap.size w w' ∧ w.heap.size < w'.heap.size ∧ w'.heap[w.heap.size]? = some (.cells cs 5 fr) ∧ cs.toList.take l.length = l.map byteV ∧ l.length ≤ fr.1 := by
  have h := run_bytes_of_string (P := Try.prog) w 9 33 5 ⟨l.toArray⟩ Try.underlying9 Try.underlying33 Try.underlying5
  have hs : (⟨l.toArray⟩ : ByteArray).size = l.length := by simp [ByteArray.size]
  rw [hs] at h
  refine ⟨_, _, _, _, h, grownCap_ge _ _ _ _, ?_, by simp, heap_alloc_new _ _, ?_, ?_⟩
  · exact ((Below.refl w.heap.size w).drew).alloc (Nat.le_refl _) _
  · simp [bytesRow, byteV]
  · simp [bytesRow, hs]
theorem blk_cell {w : World} {g i : Nat} {cs : Array Value} {e : TypeId} {fr : Nat × Nat} {l : List UInt8} (h : w.heap[g]? = some (.cells cs e fr)) (ht : cs.toList.take l.length = l.map byteV) (hi : i < l.length) :
    w.cell? ⟨g, i, none⟩ = some (.int .u8 (l[i].toNat)) := by
  rw [cell_of_row w g i cs e fr h]
  have h1 : (cs.toList.take l.length)[i]? = (l.map byteV)[i]? := by rw [ht]
  rw [List.getElem?_take, if_pos hi] at h1
  simp [byteV, hi] at h1
  exact h1
theorem blk_cs {w : World} {g : Nat} {cs : Array Value} {e : TypeId} {fr : Nat × Nat} {l : List UInt8} (h : w.heap[g]? = some (.cells cs e fr)) (ht : cs.toList.take l.length = l.map byteV) : Cs w (some ⟨g, 0, none⟩) (l.map byteV) := by
  intro i u hu
  have hi : i < l.length := by
    rcases Nat.lt_or_ge i l.length with h1 | h1
    · exact h1
    · rw [List.getElem?_eq_none (by simpa using h1)] at hu; cases hu
  refine ⟨g, 0, rfl, lt_block h, ?_⟩
  rw [Nat.zero_add, blk_cell h ht hi]
  simpa [byteV, hi] using hu
theorem blk_frozen {w : World} {g i : Nat} {cs : Array Value} {e : TypeId} {fr : Nat × Nat} (h : w.heap[g]? = some (.cells cs e fr)) (hi : i < fr.1) : w.frozen? ⟨g, i, none⟩ = false := by
  obtain ⟨lo, hi'⟩ := fr
  simp only at hi
  simp only [World.frozen?, h, Bool.and_eq_false_iff, decide_eq_false_iff_not]
  left; omega
theorem blk_set {w : World} {g i : Nat} {cs : Array Value} {e : TypeId} {fr : Nat × Nat} {l : List UInt8} (h : w.heap[g]? = some (.cells cs e fr)) (ht : cs.toList.take l.length = l.map byteV) (c : UInt8) :
    (w.setCell ⟨g, i, none⟩ (byteV c)).heap[g]? = some (.cells (cs.setIfInBounds i (byteV c)) e fr) ∧ (cs.setIfInBounds i (byteV c)).toList.take (l.set i c).length = (l.set i c).map byteV := by
  constructor
  · simp [World.setCell, Array.getElem?_modify, h]
  · rw [Array.toList_setIfInBounds, List.length_set, List.take_set, ht, List.map_set]

theorem cs_take {w : World} {A : Option Addr} {xs : List Value} (h : Cs w A xs) (k : Nat) : Cs w A (xs.take k) := by
  intro i u hu
  rw [List.getElem?_take] at hu
  split at hu
  · exact h i u hu
  · cases hu
/-- a digit's worth in the texts that are read -/
theorem vals_get {most : Nat} {l ds : List Nat} (h : BaseM.vals most l = some ds) : ∀ i, (h1 : i < l.length) → (h2 : i < ds.length) → BaseM.dval most l[i] = some ds[i] := by
  induction l generalizing ds with
  | nil => intro i h1; simp at h1
  | cons c r ih =>
    simp only [BaseM.vals] at h
    cases hd : BaseM.dval most c with
    | none => simp [hd] at h
    | some d =>
      cases hr : BaseM.vals most r with
      | none => simp [hd, hr] at h
      | some ds' =>
        simp [hd, hr] at h
        subst h
        intro i h1 h2
        cases i with
        | zero => simpa using hd
        | succ i => simpa using ih hr i (by simpa using h1) (by simpa using h2)
theorem vals_of {most : Nat} : ∀ (l ds : List Nat), l.length = ds.length → (∀ i, (h1 : i < l.length) → (h2 : i < ds.length) → BaseM.dval most l[i] = some ds[i]) → BaseM.vals most l = some ds
  | [], [], _, _ => rfl
  | [], _ :: _, h, _ => by simp at h
  | _ :: _, [], h, _ => by simp at h
  | c :: l, d :: ds, h, hh => by
    have h0 := hh 0 (by simp) (by simp)
    have ih := vals_of l ds (by simpa using h) (fun i h1 h2 => hh (i + 1) (by simpa using h1) (by simpa using h2))
    simp only [List.getElem_cons_zero] at h0
    simp [BaseM.vals, h0, ih]
theorem dval_cap {most c : Nat} (h1 : 97 ≤ c) (h2 : c ≤ 118) : BaseM.dval most (c - 32) = BaseM.dval most c := by
  rw [BaseM.dval_eq, BaseM.dval_eq]
  have e1 : BaseM.low (c - 32) = c := by unfold BaseM.low; rw [if_pos (by omega)]; omega
  have e2 : BaseM.low c = c := by unfold BaseM.low; rw [if_neg (by omega)]
  rw [e1, e2]
/-- a capital in the place of a small letter -/
theorem vals_cap {most : Nat} {l ds : List Nat} (h : BaseM.vals most l = some ds) (i : Nat) (hi : i < l.length) (h1 : 97 ≤ l[i]) (h2 : l[i] ≤ 118) : BaseM.vals most (l.set i (l[i] - 32)) = some ds := by
  have hl := BaseM.vals_length h
  refine vals_of _ _ (by simp [hl]) fun j g1 g2 => ?_
  have hj := vals_get h j (by simpa using g1) g2
  rw [List.getElem_set]
  split
  · rename_i e; subst e
    rw [dval_cap h1 h2]; exact hj
  · exact hj
theorem vals_take {most : Nat} {l ds : List Nat} (h : BaseM.vals most l = some ds) (k : Nat) : BaseM.vals most (l.take k) = some (ds.take k) := by
  have hl := BaseM.vals_length h
  refine vals_of _ _ (by simp [hl]) fun j g1 g2 => ?_
  rw [List.getElem_take, List.getElem_take]
  exact vals_get h j _ _

/-- the digits of a text, and what is so of them -/
theorem digits5 (l : List UInt8) : ∃ D : List Nat, D.length = (8 * l.length + 4) / 5 ∧ (∀ d ∈ D, d < 32) ∧ encB 5 l = ⟨(D.map digB).toArray⟩ ∧
    BaseM.num 32 D = numB l * 2 ^ (5 * D.length - 8 * l.length) ∧ BaseM.decD 5 D = some (l.map UInt8.toNat) := by
  refine ⟨BaseM.encD 5 (l.map UInt8.toNat), ?_, BaseM.encD_lt _, ?_, ?_, BaseM.decD_encD (.inr rfl) _ (bytes_lt l)⟩
  · unfold BaseM.encD; rw [BaseM.digs_length, List.length_map]; rfl
  · unfold encB BaseM.enc; rw [List.map_map]; rfl
  · have hl : (BaseM.encD 5 (l.map UInt8.toNat)).length = BaseM.cnt 5 l.length := by unfold BaseM.encD; rw [BaseM.digs_length, List.length_map]
    rw [hl]
    have hN := BaseM.num_lt (B := 256) (by omega) (l.map UInt8.toNat) (bytes_lt l)
    unfold BaseM.encD
    rw [BaseM.num_digs, List.length_map]
    apply Nat.mod_eq_of_lt
    rw [List.length_map] at hN
    have e : 5 * BaseM.cnt 5 l.length = 8 * l.length + (5 * BaseM.cnt 5 l.length - 8 * l.length) := by unfold BaseM.cnt; omega
    have e8 : (256 : Nat) ^ l.length = 2 ^ (8 * l.length) := by rw [Nat.pow_mul]
    rw [e8] at hN
    rw [show (32 : Nat) ^ BaseM.cnt 5 l.length = 2 ^ (5 * BaseM.cnt 5 l.length) from by rw [Nat.pow_mul], e, Nat.pow_add]
    have e0 : 8 * l.length + (5 * BaseM.cnt 5 l.length - 8 * l.length) - 8 * l.length = 5 * BaseM.cnt 5 l.length - 8 * l.length := by omega
    rw [e0]
    exact Nat.mul_lt_mul_of_pos_right hN (Nat.pow_pos (by omega))
theorem vals_digs (D : List Nat) (h : ∀ d ∈ D, d < 32) : BaseM.vals 32 ((D.map digB).map UInt8.toNat) = some D := by
  have e : (D.map digB).map UInt8.toNat = D.map BaseM.dch := by
    rw [List.map_map]
    apply List.map_congr_left
    intro d hd
    exact digB_toNat (h d hd)
  rw [e]
  exact BaseM.vals_map (by omega) D h
theorem strN_mk (l : List UInt8) : strN ⟨l.toArray⟩ = l.map UInt8.toNat := by simp [strN]
theorem xorI64 (a p : Nat) (ha : a < 32) (hp : p < 5) : bits .xor .i64 (a : Int) (wrap64 (2 ^ p)) = ((a ^^^ 2 ^ p : Nat) : Int) := by
  have h1 : 1 ≤ 2 ^ p ∧ 2 ^ p ≤ 16 := ⟨Nat.pow_pos (by omega), pow_le (by omega : p ≤ 4)⟩
  have hx : a ^^^ 2 ^ p < 2 ^ 5 := Nat.xor_lt_two_pow (by omega) (by omega)
  rw [show ((2 : Int) ^ p) = ((2 ^ p : Nat) : Int) from by simp, show wrap64 ((2 ^ p : Nat) : Int) = ((2 ^ p : Nat) : Int) from IntWalk.wrap64_in _ ⟨by omega, by omega⟩]
  show IntKind.i64.wrap ((BitVec.ofInt 64 (a : Int) ^^^ BitVec.ofInt 64 ((2 ^ p : Nat) : Int)).toNat : Int) = _
  rw [BitVec.toNat_xor, ofInt64 a (by omega), ofInt64 (2 ^ p) (by omega), IntKind.wrap_i64]
  omega
/-- a bit that is left over is turned -/
theorem turned {D : List Nat} {dl r p N n : Nat} (hn : BaseM.num 32 (D ++ [dl]) = N * 2 ^ r) (hd : ∀ d ∈ D ++ [dl], d < 32) (hl : 5 * (D.length + 1) = 8 * n + r) (hr : r < 5) (hp : p < r) :
    dl ^^^ 2 ^ p < 32 ∧ BaseM.decD 5 (D ++ [dl ^^^ 2 ^ p]) = none := by
  have hdl : dl < 32 := hd dl (by simp)
  have hp2 : (2 : Nat) ^ p < 2 ^ 5 := Nat.pow_lt_pow_right (by omega) (by omega)
  have hx : dl ^^^ 2 ^ p < 2 ^ 5 := Nat.xor_lt_two_pow (by omega) hp2
  refine ⟨hx, ?_⟩
  have h32 : (32 : Nat) = 2 ^ r * 2 ^ (5 - r) := by rw [← Nat.pow_add, show r + (5 - r) = 5 from by omega]
  have hm0 : dl % 2 ^ r = 0 := by
    have h1 : BaseM.num 32 (D ++ [dl]) % 2 ^ r = 0 := by rw [hn, Nat.mul_mod_left]
    rw [BaseM.num_snoc] at h1
    have h2 : (BaseM.num 32 D * 32 + dl) % 2 ^ r = dl % 2 ^ r := by
      rw [h32, ← Nat.mul_assoc, Nat.mul_right_comm, Nat.add_comm, Nat.add_mul_mod_self_right]
    rw [h2] at h1
    exact h1
  have hv : BaseM.num (2 ^ 5) (D ++ [dl ^^^ 2 ^ p]) % 2 ^ r = 2 ^ p := by
    rw [BaseM.num_snoc, show 2 ^ 5 = 32 from rfl]
    have h2 : (BaseM.num 32 D * 32 + (dl ^^^ 2 ^ p)) % 2 ^ r = (dl ^^^ 2 ^ p) % 2 ^ r := by
      rw [show BaseM.num 32 D * 32 = BaseM.num 32 D * 2 ^ (5 - r) * 2 ^ r from by rw [Nat.mul_assoc, ← Nat.pow_add, show 5 - r + r = 5 from by omega], Nat.add_comm, Nat.add_mul_mod_self_right]
    rw [h2, Nat.xor_mod_two_pow, hm0, Nat.mod_eq_of_lt (Nat.pow_lt_pow_right (by omega) hp), Nat.zero_xor]
  refine decD_bad (k := D.length + 1) (m := n) (r := r) (by simp) hl (by omega) rfl (.inr ?_)
  rw [hv]
  exact Nat.pos_iff_ne_zero.1 (Nat.pow_pos (by omega))

set_option maxHeartbeats 2000000 in
theorem loose_core (A : Option Addr) (l : List UInt8) (cap : Nat) (at_ bit : Int) (w : World) (hc : Cs w A (l.map byteV))
    (ha : -9223372036854775808 ≤ at_ ∧ at_ ≤ 9223372036854775807) (hb : -9223372036854775808 ≤ bit ∧ bit ≤ 9223372036854775807) :
    Calls Try.prog 10 #[.slice A l.length cap, .int .i64 at_, .int .i64 bit] w fun e w' => e = .returned (.bool true) ∧ Below w.heap.size w w' := by
  by_cases hz : l.length = 0
  · have hz' : ((l.length : Int) == 0) = true := by rw [beq_iff_eq]; omega
    clear hz
    go_enter Try.func10, Try.ntmps10
    go_wp2_with (go_at_call 22; refine (known _).mono ?_; rintro e w1 ⟨rfl, hb1⟩)
    go_ret
    exact ⟨rfl, hb1⟩
  have hz' : ((l.length : Int) == 0) = false := by rw [beq_eq_false_iff_ne]; omega
  by_cases hlen : 200 < l.length
  · have hlen' : (200 : Int) < (l.length : Int) := by omega
    clear hz
    go_enter Try.func10, Try.ntmps10
    go_wp2_with (go_at_call 22; refine (known _).mono ?_; rintro e w1 ⟨rfl, hb1⟩)
    go_ret
    exact ⟨rfl, hb1⟩
  have hlen' : (l.length : Int) ≤ 200 := by omega
  obtain ⟨D, hD1, hD2, hD3, hD4, hD5⟩ := digits5 l
  obtain ⟨T, hT⟩ : ∃ T, T = D.map digB := ⟨_, rfl⟩
  have hTl : T.length = D.length := by rw [hT]; simp
  have hTv : BaseM.vals 32 (T.map UInt8.toNat) = some D := by rw [hT]; exact vals_digs D hD2
  obtain ⟨ha1, ha2⟩ := ha
  obtain ⟨hb1', hb2'⟩ := hb
  obtain ⟨m, hm⟩ : ∃ m, m = T.length := ⟨_, rfl⟩
  have hm1 : m = (8 * l.length + 4) / 5 := by omega
  have hm2 : 2 ≤ m := by omega
  have hm3 : m ≤ 1000 := by omega
  have hm0 : ((m : Int) == 0) = false := by simp; omega
  have hpl := placeI_bd at_ m (by omega)
  obtain ⟨i0, hi0⟩ : ∃ i0 : Nat, PlaceI at_ m = (i0 : Int) := ⟨(PlaceI at_ m).toNat, by omega⟩
  have hi1 : i0 < m := by omega
  have hi1' : (i0 : Int) < (m : Int) := by omega
  obtain ⟨D0, dl, hDD⟩ : ∃ D0 dl, D = D0 ++ [dl] := by
    rcases BaseM.snoc_cases D with h | ⟨D0, dl, h⟩
    · rw [h] at hD1; simp at hD1; omega
    · exact ⟨D0, dl, h⟩
  have hdl : dl < 32 := hD2 dl (by rw [hDD]; simp)
  have hmT : m ≤ T.length := by omega
  have hTm : T.length ≤ m := by omega
  have hD0l : D0.length = m - 1 := by rw [hDD] at hTl; simp at hTl; omega
  have hex : (⟨T.toArray⟩ : ByteArray).extract (m - 1) T.length = ⟨#[digB dl]⟩ := by
    rw [hT, hDD]
    apply ByteArray.ext
    simp [← hD0l]
  have HDD := Lib.hid hDD
  have HD0 := Lib.hid hD0l
  clear hDD hD0l
  have HT := Lib.hid hT
  have HTL := Lib.hid hTl
  have HTV := Lib.hid hTv
  have HM := Lib.hid hm
  have HM1 := Lib.hid hm1
  have HD1 := Lib.hid hD1
  have HD2 := Lib.hid hD2
  have HD3 : Hid (encB 5 l = ⟨T.toArray⟩) := by show _ = _; rw [hT]; exact hD3
  have HD4 := Lib.hid hD4
  have HD5 := Lib.hid hD5
  have hll : l.length ≤ 1000000 := by omega
  have hlz : 1 ≤ l.length := by omega
  clear hT hTl hTv hm hm1 hD1 hD2 hD3 hD4 hD5 hpl hz
  go_enter Try.func10, Try.ntmps10
  go_wp2_with (go_at_call 22; refine (known _).mono ?_; rintro e w1 ⟨rfl, hb1⟩)
  have hc1 := hc.below hb1
  go_wp2_with fail
  refine (Hex32 _ _ _ _ hc1 hll).mono ?_
  rintro e w2 ⟨rfl, hb2⟩
  rw [HD3.out]
  obtain ⟨w3, cap3, cs, fr, hcv, hcap3, hb3, hlt3, hblk, htk, hfr⟩ := bytes_of w2 T
  rw [← HM.out] at hcv hcap3 hfr
  have b1 := hb1.trans (hb2.mono hb1.size)
  have b2 := b1.trans (hb3.mono b1.size)
  have hc3 := (hc1.below hb2).below hb3
  have hBg := b1.size
  have HTK := Lib.hid htk
  clear htk hb2 hb3 hb1 hc1
  go_wp2_with fail
  refine (place at_ m ha1 ha2 (by omega) (by omega) _).mono ?_
  rintro e w4 ⟨rfl, rfl⟩
  rw [hi0]
  have hcell : w3.cell? ⟨w2.heap.size, i0, none⟩ = some (.int .u8 ((T[i0]'(by have := HM.out; omega)).toNat)) := blk_cell hblk HTK.out (by have := HM.out; omega)
  have hfz := blk_frozen (i := i0) hblk (by omega)
  have hle : (T[i0]'(by have := HM.out; omega)).toNat ≤ 118 := by
    have hx := HT.out
    subst hx
    simp only [List.getElem_map]
    have h32 := HD2.out _ (List.getElem_mem (show i0 < D.length by have := HM.out; have := HTL.out; omega))
    rw [digB_toNat h32]
    unfold BaseM.dch; split <;> omega
  obtain ⟨c0, hc0⟩ : ∃ c0, c0 = T[i0]'(by have := HM.out; omega) := ⟨_, rfl⟩
  rw [← hc0] at hcell hle
  have HC0 := Lib.hid hc0
  clear hc0
  by_cases h97 : 97 ≤ c0.toNat
  · have h97' : (97 : Int) ≤ (c0.toNat : Int) := by omega
    have hle' : (c0.toNat : Int) ≤ 118 := by omega
    obtain ⟨c1, hc1, hc1'⟩ : ∃ c1 : UInt8, c1.toNat = c0.toNat - 32 ∧ (c0.toNat : Int) - 32 = (c1.toNat : Int) := ⟨UInt8.ofNat (c0.toNat - 32), by simp; omega, by simp; omega⟩
    have hset := blk_set (i := i0) hblk HTK.out c1
    have HC1 := Lib.hid hc1
    clear hc1
    obtain ⟨W0, hW0⟩ : ∃ W0, W0 = w3.setCell ⟨w2.heap.size, i0, none⟩ (.int .u8 (c1.toNat : Int)) := ⟨_, rfl⟩
    have hset1 : W0.heap[w2.heap.size]? = some (.cells (cs.setIfInBounds i0 (byteV c1)) 5 fr) := by rw [hW0]; exact hset.1
    obtain ⟨T', hT'⟩ : ∃ T', T' = T.set i0 c1 := ⟨_, rfl⟩
    have hcs0 : Cs W0 (some ⟨w2.heap.size, 0, none⟩) (T'.map byteV) := by rw [hT']; exact blk_cs hset1 hset.2
    have bW : Below w.heap.size w W0 := by rw [hW0]; exact b2.setCell (p := ⟨w2.heap.size, i0, none⟩) hBg _
    have hcW : Cs W0 A (l.map byteV) := by
      intro i u hu
      obtain ⟨b, off, e, hlt, hcc⟩ := hc i u hu
      exact ⟨b, off, e, Nat.lt_of_lt_of_le hlt bW.size, (bW.cell (p := ⟨b, off + i, none⟩) hlt).trans hcc⟩
    have hTV' : BaseM.vals 32 (T'.map UInt8.toNat) = some D := by
      have hi2 : i0 < (T.map UInt8.toNat).length := by rw [List.length_map, ← HM.out]; exact hi1
      have e0 : (T.map UInt8.toNat)[i0] = c0.toNat := by rw [List.getElem_map, HC0.out]
      have := vals_cap HTV.out i0 hi2 (by rw [e0]; exact h97) (by rw [e0]; exact hle)
      rw [e0, ← HC1.out] at this
      rw [hT', List.map_set]
      exact this
    have hTl' : T'.length = m := by rw [hT', List.length_set]; exact HM.out.symm
    subst hW0
    clear hset hset1 hT' hblk hc3 hlt3 b2 hfr
    have HTV' := Lib.hid hTV'
    clear hTV'
    have HSp : Sp 5 ⟨T'.toArray⟩ l 0 := .inr ⟨by rw [strN_mk, dec_vals HTV'.out]; exact HD5.out, rfl⟩
    have HS := Lib.hid HSp
    clear HSp
    have hcvS := run_str (P := Try.prog) _ Try.underlying33 Try.underlying5 Try.underlying9 cap3 hcs0
    rw [hTl'] at hcvS
    have hszT : (⟨T'.toArray⟩ : ByteArray).size ≤ 1000000 := by simp [ByteArray.size]; omega
    have HL := Lib.hid hTl'
    clear hTl'
    go_wp2_with fail
    refine (OpenHex32 _ _ _ _ HS.out hszT).mono ?_
    rintro e w5 ⟨A5, cap5, rfl, hd5, hb5⟩
    have hcW5 := hcW.below hb5
    have hcs5 := hcs0.below hb5
    have b5 := bW.trans (hb5.mono bW.size)
    clear hcvS hcs0 hcW bW hb5
    go_wp2_with fail
    refine (bytesEqn _ _ l l _ _ _ _ _ hd5 hcW5 rfl rfl).mono ?_
    rintro e w6 ⟨rfl, rfl⟩
    obtain ⟨r, hr⟩ : ∃ r, 5 * m = 8 * l.length + r := ⟨5 * m - 8 * l.length, by have := HM1.out; omega⟩
    have hr5 : r < 5 := by have := HM1.out; omega
    have hri : 5 * (m : Int) - 8 * (l.length : Int) = (r : Int) := by omega
    have HR := Lib.hid hr
    clear hr
    by_cases hr0 : r = 0
    · have hr0' : ((r : Int) == 0) = true := by rw [beq_iff_eq]; omega
      clear hr0
      go_wp2_with fail
      go_ret
      exact ⟨rfl, b5⟩
    · have hr0' : ((r : Int) == 0) = false := by rw [beq_eq_false_iff_ne]; omega
      have HR0 := Lib.hid hr0
      clear hr0
      go_wp2_with fail
      refine (Hex32 _ _ _ _ hcW5 hll).mono ?_
      rintro e w7 ⟨rfl, hb7⟩
      rw [HD3.out]
      go_wp2_with fail
      go_loop [12] (fun v => ∃ j : Nat, j ≤ dl ∧ v = .int .i64 j) (fun v => 31 - (intOf v).toNat)
      case atStart => exact ⟨0, Nat.zero_le _, rfl⟩
      case round =>
        obtain ⟨j, hj, rfl⟩ := hrel
        have hje := dig_ext j (by omega)
        by_cases hjl : j = dl
        · subst hjl
          have hrp : 0 < r := by have := HR0.out; omega
          obtain ⟨p, hp⟩ : ∃ p : Nat, PlaceI bit r = (p : Int) := ⟨(PlaceI bit r).toNat, by have := placeI_bd bit r (by omega); omega⟩
          have hpr : p < r := by have := placeI_bd bit r (by omega); omega
          obtain ⟨hv1, hv2⟩ := turned (D := D0) (dl := j) (r := r) (p := p) (N := numB l) (n := l.length) (by rw [← HDD.out, HD4.out]; congr 2; have := HTL.out; have := HM.out; have := HR.out; omega) (by rw [← HDD.out]; exact HD2.out) (by rw [HD0.out]; have := HR.out; omega) hr5 hpr
          have fx := xorI64 j p hdl (by omega)
          obtain ⟨v, hv⟩ : ∃ v, v = j ^^^ 2 ^ p := ⟨_, rfl⟩
          rw [← hv] at hv1 hv2 fx
          have HV := Lib.hid hv
          have HV2 := Lib.hid hv2
          clear hv hv2
          have s1 : IntKind.i64.wrap ((m : Int) - 1) = (m : Int) - 1 := IntWalk.i64_in _ (by omega)
          have s2 : 0 ≤ (m : Int) - 1 := by omega
          have s3 : ((m : Int) - 1).toNat = m - 1 := by omega
          have s4 : (m : Int) - 1 ≤ (cap3 : Int) := by omega
          have s5 : IntKind.i64.wrap ((v : Int) + 1) = (v : Int) + 1 := IntWalk.i64_in _ (by omega)
          have s6 : ((v : Int) + 1).toNat = v + 1 := by omega
          have s7 : (v : Int) + 1 ≤ 32 := by omega
          have hcut := cs_take (hcs5.below hb7) (m - 1)
          rw [← List.map_take] at hcut
          have hcvT := run_str (P := Try.prog) w7.drew Try.underlying33 Try.underlying5 Try.underlying9 cap3 (show Cs w7.drew _ ((T'.take (m - 1)).map byteV) from hcut)
          rw [List.length_take, HL.out, Nat.min_eq_left (show m - 1 ≤ m by omega)] at hcvT
          have hszc : (⟨(T'.take (m - 1)).toArray⟩ : ByteArray).size ≤ 1000000 := by simp [ByteArray.size]; omega
          obtain ⟨Z, hZ⟩ : ∃ Z : ByteArray, Z = ⟨(T'.take (m - 1)).toArray⟩ ++ ⟨#[digB v]⟩ := ⟨_, rfl⟩
          have hszx : Z.size ≤ 1000000 := by
            rw [hZ, ByteArray.size_append]
            have h1 : (⟨#[digB v]⟩ : ByteArray).size = 1 := rfl
            have h2 : (⟨(T'.take (m - 1)).toArray⟩ : ByteArray).size ≤ 1000 := by simp [ByteArray.size]; omega
            omega
          have HSX : Hid (Sp 5 Z [] 20) := by
            refine .inl ⟨?_, rfl, rfl⟩
            have e : strN Z = (T'.map UInt8.toNat).take (m - 1) ++ [BaseM.dch v] := by
              rw [hZ, ← digB_toNat hv1, ← List.map_take]
              simp [strN]
            have hv5 : BaseM.vals (2 ^ 5) (strN Z) = some (D0 ++ [v]) := by
              rw [e, BaseM.vals_snoc, show (2 : Nat) ^ 5 = 32 from rfl, vals_take HTV'.out, BaseM.dval_dch (by omega) hv1, HDD.out, ← HD0.out, List.take_left]
              rfl
            rw [dec_vals hv5]
            exact HV2.out
          have hZ' := hZ.symm
          clear hZ
          have hcases : (j : Int) < 31 ∨ 31 ≤ (j : Int) := by omega
          have hvx := dig_ext v hv1
          have hv1' : (v : Int) < 32 := by omega
          rcases hcases with h31 | h31
          all_goals
            go_wp2_with fail
            refine (place bit r hb1' hb2' (by omega) (by omega) _).mono ?_
            rintro e w8 ⟨rfl, rfl⟩
            rw [hp]
            go_wp2_with fail
            go_region_with (go_at_call 25; refine (OpenHex32 _ _ _ _ HSX.out hszx).mono ?_; rintro e w9 ⟨A9, cap9, rfl, hd9, hb9⟩)
            all_goals
              go_wp2
              go_ret
              exact ⟨rfl, (Below.drew (b5.trans (hb7.mono b5.size))).trans (Below.mono hb9 (b5.trans (hb7.mono b5.size)).size)⟩
        · have hji : (j : Int) < 31 := by omega
          have hne : (digB j == digB dl) = false := by
            rw [beq_eq_false_iff_ne]
            intro h
            have h1 := congrArg UInt8.toNat h
            rw [digB_toNat (by omega), digB_toNat (by omega), BaseM.dch_inj (by omega) (by omega)] at h1
            exact hjl h1
          go_wp2_with fail
          exact ⟨⟨j + 1, by omega, by go_num⟩, by simp [intOf]; omega⟩
  · have h97' : (c0.toNat : Int) < 97 := by omega
    have hcs0 : Cs w3 (some ⟨w2.heap.size, 0, none⟩) (T.map byteV) := blk_cs hblk HTK.out
    have hTl' : T.length = m := HM.out.symm
    have hTV' := HTV.out
    obtain ⟨T', hT'⟩ : ∃ T', T' = T := ⟨_, rfl⟩
    rw [← hT'] at hcs0 hTl' hTV'
    have HT' := Lib.hid hT'
    clear hT'
    have bW := b2
    have hcW := hc3
    clear hblk hc3 hlt3 b2 hfr
    have HTV' := Lib.hid hTV'
    clear hTV'
    have HSp : Sp 5 ⟨T'.toArray⟩ l 0 := .inr ⟨by rw [strN_mk, dec_vals HTV'.out]; exact HD5.out, rfl⟩
    have HS := Lib.hid HSp
    clear HSp
    have hcvS := run_str (P := Try.prog) _ Try.underlying33 Try.underlying5 Try.underlying9 cap3 hcs0
    rw [hTl'] at hcvS
    have hszT : (⟨T'.toArray⟩ : ByteArray).size ≤ 1000000 := by simp [ByteArray.size]; omega
    have HL := Lib.hid hTl'
    clear hTl'
    go_wp2_with fail
    refine (OpenHex32 _ _ _ _ HS.out hszT).mono ?_
    rintro e w5 ⟨A5, cap5, rfl, hd5, hb5⟩
    have hcW5 := hcW.below hb5
    have hcs5 := hcs0.below hb5
    have b5 := bW.trans (hb5.mono bW.size)
    clear hcvS hcs0 hcW bW hb5
    go_wp2_with fail
    refine (bytesEqn _ _ l l _ _ _ _ _ hd5 hcW5 rfl rfl).mono ?_
    rintro e w6 ⟨rfl, rfl⟩
    obtain ⟨r, hr⟩ : ∃ r, 5 * m = 8 * l.length + r := ⟨5 * m - 8 * l.length, by have := HM1.out; omega⟩
    have hr5 : r < 5 := by have := HM1.out; omega
    have hri : 5 * (m : Int) - 8 * (l.length : Int) = (r : Int) := by omega
    have HR := Lib.hid hr
    clear hr
    by_cases hr0 : r = 0
    · have hr0' : ((r : Int) == 0) = true := by rw [beq_iff_eq]; omega
      clear hr0
      go_wp2_with fail
      go_ret
      exact ⟨rfl, b5⟩
    · have hr0' : ((r : Int) == 0) = false := by rw [beq_eq_false_iff_ne]; omega
      have HR0 := Lib.hid hr0
      clear hr0
      go_wp2_with fail
      refine (Hex32 _ _ _ _ hcW5 hll).mono ?_
      rintro e w7 ⟨rfl, hb7⟩
      rw [HD3.out]
      go_wp2_with fail
      go_loop [12] (fun v => ∃ j : Nat, j ≤ dl ∧ v = .int .i64 j) (fun v => 31 - (intOf v).toNat)
      case atStart => exact ⟨0, Nat.zero_le _, rfl⟩
      case round =>
        obtain ⟨j, hj, rfl⟩ := hrel
        have hje := dig_ext j (by omega)
        by_cases hjl : j = dl
        · subst hjl
          have hrp : 0 < r := by have := HR0.out; omega
          obtain ⟨p, hp⟩ : ∃ p : Nat, PlaceI bit r = (p : Int) := ⟨(PlaceI bit r).toNat, by have := placeI_bd bit r (by omega); omega⟩
          have hpr : p < r := by have := placeI_bd bit r (by omega); omega
          obtain ⟨hv1, hv2⟩ := turned (D := D0) (dl := j) (r := r) (p := p) (N := numB l) (n := l.length) (by rw [← HDD.out, HD4.out]; congr 2; have := HTL.out; have := HM.out; have := HR.out; omega) (by rw [← HDD.out]; exact HD2.out) (by rw [HD0.out]; have := HR.out; omega) hr5 hpr
          have fx := xorI64 j p hdl (by omega)
          obtain ⟨v, hv⟩ : ∃ v, v = j ^^^ 2 ^ p := ⟨_, rfl⟩
          rw [← hv] at hv1 hv2 fx
          have HV := Lib.hid hv
          have HV2 := Lib.hid hv2
          clear hv hv2
          have s1 : IntKind.i64.wrap ((m : Int) - 1) = (m : Int) - 1 := IntWalk.i64_in _ (by omega)
          have s2 : 0 ≤ (m : Int) - 1 := by omega
          have s3 : ((m : Int) - 1).toNat = m - 1 := by omega
          have s4 : (m : Int) - 1 ≤ (cap3 : Int) := by omega
          have s5 : IntKind.i64.wrap ((v : Int) + 1) = (v : Int) + 1 := IntWalk.i64_in _ (by omega)
          have s6 : ((v : Int) + 1).toNat = v + 1 := by omega
          have s7 : (v : Int) + 1 ≤ 32 := by omega
          have hcut := cs_take (hcs5.below hb7) (m - 1)
          rw [← List.map_take] at hcut
          have hcvT := run_str (P := Try.prog) w7.drew Try.underlying33 Try.underlying5 Try.underlying9 cap3 (show Cs w7.drew _ ((T'.take (m - 1)).map byteV) from hcut)
          rw [List.length_take, HL.out, Nat.min_eq_left (show m - 1 ≤ m by omega)] at hcvT
          have hszc : (⟨(T'.take (m - 1)).toArray⟩ : ByteArray).size ≤ 1000000 := by simp [ByteArray.size]; omega
          obtain ⟨Z, hZ⟩ : ∃ Z : ByteArray, Z = ⟨(T'.take (m - 1)).toArray⟩ ++ ⟨#[digB v]⟩ := ⟨_, rfl⟩
          have hszx : Z.size ≤ 1000000 := by
            rw [hZ, ByteArray.size_append]
            have h1 : (⟨#[digB v]⟩ : ByteArray).size = 1 := rfl
            have h2 : (⟨(T'.take (m - 1)).toArray⟩ : ByteArray).size ≤ 1000 := by simp [ByteArray.size]; omega
            omega
          have HSX : Hid (Sp 5 Z [] 20) := by
            refine .inl ⟨?_, rfl, rfl⟩
            have e : strN Z = (T'.map UInt8.toNat).take (m - 1) ++ [BaseM.dch v] := by
              rw [hZ, ← digB_toNat hv1, ← List.map_take]
              simp [strN]
            have hv5 : BaseM.vals (2 ^ 5) (strN Z) = some (D0 ++ [v]) := by
              rw [e, BaseM.vals_snoc, show (2 : Nat) ^ 5 = 32 from rfl, vals_take HTV'.out, BaseM.dval_dch (by omega) hv1, HDD.out, ← HD0.out, List.take_left]
              rfl
            rw [dec_vals hv5]
            exact HV2.out
          have hZ' := hZ.symm
          clear hZ
          have hcases : (j : Int) < 31 ∨ 31 ≤ (j : Int) := by omega
          have hvx := dig_ext v hv1
          have hv1' : (v : Int) < 32 := by omega
          rcases hcases with h31 | h31
          all_goals
            go_wp2_with fail
            refine (place bit r hb1' hb2' (by omega) (by omega) _).mono ?_
            rintro e w8 ⟨rfl, rfl⟩
            rw [hp]
            go_wp2_with fail
            go_region_with (go_at_call 25; refine (OpenHex32 _ _ _ _ HSX.out hszx).mono ?_; rintro e w9 ⟨A9, cap9, rfl, hd9, hb9⟩)
            all_goals
              go_wp2
              go_ret
              exact ⟨rfl, (Below.drew (b5.trans (hb7.mono b5.size))).trans (Below.mono hb9 (b5.trans (hb7.mono b5.size)).size)⟩
        · have hji : (j : Int) < 31 := by omega
          have hne : (digB j == digB dl) = false := by
            rw [beq_eq_false_iff_ne]
            intro h
            have h1 := congrArg UInt8.toNat h
            rw [digB_toNat (by omega), digB_toNat (by omega), BaseM.dch_inj (by omega) (by omega)] at h1
            exact hjl h1
          go_wp2_with fail
          exact ⟨⟨j + 1, by omega, by go_num⟩, by simp [intOf]; omega⟩

end Base
end Go.Proofs.Ytlbonlkogelhkaa
