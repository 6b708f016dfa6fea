/-
  Contracts of slices.Clone, Grow, Concat at bytes; rows of rows of bytes.
-/
import Derived.Test.YtkeimgamjnpcbaaGreatName2
import Derived.Test.YtkeimgamjnpcbaaGreatShelf
import Derived.Shelf.Spec.SlicesGrow
import Derived.Lib.SliceRun
import Derived.Outline
namespace Go.Proofs.YtkeimgamjnpcbaaGreat
open Go.RowKit Go.Shelf
set_option linter.unusedVariables false

/-- bytes that lie somewhere -/
structure Blob where
  A : Option Addr
  l : Lab
  cap : Nat
instance : Inhabited Blob := ⟨⟨none, [], 0⟩⟩
def Blob.v (b : Blob) : Value := .slice b.A b.l.length b.cap
def Blob.ok (w : World) (b : Blob) : Prop := Cs w b.A (b.l.map byteV)
def Blobs (w : World) (bs : List Blob) : Prop := ∀ b ∈ bs, b.ok w
def join (bs : List Blob) : Lab := bs.flatMap (·.l)
theorem Blobs.below {w w' : World} {bs : List Blob} (h : Blobs w bs) (hb : Below w.heap.size w w') : Blobs w' bs := fun b hb2 => Cs.below (h b hb2) hb
theorem Blobs.drewN {w : World} {bs : List Blob} (h : Blobs w bs) (k : Nat) : Blobs (w.drewN k) bs := h
theorem join_take {bs : List Blob} {k : Nat} (h : k < bs.length) : join (bs.take (k + 1)) = join (bs.take k) ++ bs[k].l := by
  unfold join
  rw [List.take_succ_eq_append_getElem h, List.flatMap_append]
  simp
theorem join_take_le (bs : List Blob) (k : Nat) : (join (bs.take k)).length ≤ (join bs).length := by
  unfold join
  conv => rhs; rw [← List.take_append_drop k bs, List.flatMap_append, List.length_append]
  omega
theorem Cs.blob {w : World} {A : Option Addr} {bs : List Blob} (h : Cs w A (bs.map Blob.v)) {i : Nat} (hi : i < bs.length) :
    ∃ b off, A = some ⟨b, off, none⟩ ∧ b < w.heap.size ∧ w.cell? ⟨b, off + i, none⟩ = some (.slice bs[i].A bs[i].l.length bs[i].cap) := by
  refine h i _ ?_
  simp [Blob.v, hi]
theorem own_empty (w : World) (B g cap : Nat) (e : TypeId) (cs : Array Value) (h : w.heap[g]? = some (.cells cs e (0, 0))) (hB : B ≤ g) (hc : cap ≤ maxLen) (hs : cs.size = cap) : w.ownsRow B e 1 (.slice (some ⟨g, 0, none⟩) 0 cap) 0 [] :=
  ⟨by simp, .inr ⟨g, cap, cs, rfl, hB, h, Nat.zero_le _, hc, by omega, by simp⟩⟩

theorem GrowNil (n : Nat) (w : World) (hn : n ≤ 1000000000) : Calls Tryz.prog 102 #[.slice none 0 0, .int .i64 n] w fun e w' => ∃ v, e = .returned v ∧ w'.ownsRow w.heap.size 5 1 v 0 [] ∧ Below w.heap.size w w' := by
  obtain ⟨i0, hi, hz0, hz1, hz2⟩ := info_parts info_u8
  by_cases h0 : n = 0
  · subst h0
    have h := Any8.slices_Grow_room Tryz.growB none 0 0 0 w (Nat.le_refl _) (by omega) (by omega) (by omega)
    change Calls Tryz.prog 102 _ _ _ at h
    refine h.mono fun e w' ⟨he, hw⟩ => ?_
    subst hw
    exact ⟨_, he, World.ownsRow_nil _ _ _ _, Below.refl _ _⟩
  · have h := Any8.slices_Grow_grow Tryz.growB i0 (.int .u8 0) hi hz0 (by omega) none 0 0 n [] w (Nat.le_refl _) (by omega) (by rw [hz2]; omega) (by omega) (by simp) (fun _ => rfl) (fun a ha => by cases ha)
    change Calls Tryz.prog 102 _ _ _ at h
    refine h.mono fun e w' ⟨he, hw⟩ => ?_
    subst hw
    refine ⟨_, he, own_empty _ _ _ _ _ _ (heap_alloc_new _ _) (Nat.le_refl _) (grownCap_le_maxLen _ _ _ _ (by unfold maxLen; omega)) ?_, ?_⟩
    · have hge := grownCap_ge w (0 + n) 0 5
      have hg : ∀ (a b : Nat), (Builtin.zeroCells (Value.int .u8 0).cells a).size = a := fun a b => by simp [Builtin.zeroCells, Value.cells]
      show (((#[] : Array Value) ++ Builtin.zeroCells (Value.int .u8 0).cells (0 + n - 0)) ++ Builtin.zeroCells (Value.int .u8 0).cells (grownCap w (0 + n) 0 5 - (0 + n))).size = grownCap w (0 + n) 0 5
      rw [Array.size_append, Array.size_append, hg _ 0, hg _ 0]
      generalize grownCap w (0 + n) 0 5 = q at *
      show 0 + (0 + n - 0) + (q - (0 + n)) = q
      omega
    · exact ((Below.refl w.heap.size w).drew).alloc (Nat.le_refl _) _

def ConcR1 (bs : List Blob) (w : World) (s i : Value) (wr : World) : Prop :=
  ∃ k : Nat, k ≤ bs.length ∧ i = .int .i64 k ∧ s = .int .i64 (join (bs.take k)).length ∧ Below w.heap.size w wr
def ConcR2 (bs : List Blob) (w : World) (v i : Value) (wr : World) : Prop :=
  ∃ k : Nat, k ≤ bs.length ∧ i = .int .i64 k ∧ wr.ownsRow w.heap.size 5 1 v (join (bs.take k)).length ((join (bs.take k)).map byteV) ∧ Below w.heap.size w wr
set_option maxHeartbeats 1000000 in
theorem Concat (A : Option Addr) (bs : List Blob) (cap : Nat) (w : World) (hc : Cs w A (bs.map Blob.v)) (hb : Blobs w bs) (hn : bs.length ≤ 1000000) (hj : (join bs).length ≤ 100000000) :
    Calls Tryz.prog 63 #[.slice A bs.length cap] w fun e w' => ∃ v, e = .returned v ∧ w'.ownsRow w.heap.size 5 1 v (join bs).length ((join bs).map byteV) ∧ Below w.heap.size w w' := by
  have HB := Lib.hid hb
  clear hb
  go_enter Tryz.func63, Tryz.ntmps63
  go_wp2_with fail
  go_loopw [3, 11] (ConcR1 bs w) (fun _ i _ => bs.length - (intOf i).toNat)
  case atStart => exact ⟨0, Nat.zero_le _, rfl, rfl, Below.refl _ _⟩
  case round =>
    obtain ⟨k, hk, rfl, rfl, hbel⟩ := hrel
    have hjk := join_take_le bs k
    have hjk1 := join_take_le bs (k + 1)
    by_cases hlt : k < bs.length
    · obtain ⟨bk, off, rfl, hbl, hc0⟩ := Cs.blob hc hlt
      have hc1 := (hbel.cell (p := ⟨bk, off + k, none⟩) hbl).trans hc0
      have hjt := join_take hlt
      rw [hjt, List.length_append] at hjk1
      have HN : Hid ((join (bs.take (k + 1))).length = (join (bs.take k)).length + bs[k].l.length) := Lib.hid (by rw [hjt, List.length_append])
      clear hjt
      generalize bs[k] = b at *
      generalize (join (bs.take k)).length = s at *
      generalize (join bs).length = tot at *
      generalize b.l.length = bl at *
      go_wp2_with fail
      exact ⟨⟨k + 1, by omega, by go_num, by rw [HN.out]; go_num, hbel⟩, by simp [intOf]; omega⟩
    · have hkl : k = bs.length := by omega
      subst hkl
      rw [List.take_length]
      clear hjk hjk1
      go_wp2_with fail
      refine (GrowNil (join bs).length _ (by omega)).mono ?_
      rintro e w2 ⟨v2, rfl, hown2, hb2⟩
      have hown2' : w2.ownsRow w.heap.size 5 1 v2 0 [] := ⟨hown2.1, by
        rcases hown2.2 with h | ⟨g, c, cur, h1, h2, h3⟩
        · exact .inl h
        · exact .inr ⟨g, c, cur, h1, Nat.le_trans hbel.size h2, h3⟩⟩
      have hbel2 := hbel.trans (hb2.mono hbel.size)
      clear hown2 hb2 hbel
      go_wp2_with fail
      go_loopw [6, 27] (ConcR2 bs w) (fun _ i _ => bs.length - (intOf i).toNat)
      case atStart => exact ⟨0, Nat.zero_le _, rfl, hown2', hbel2⟩
      case round =>
        obtain ⟨k, hk, rfl, hown, hbel⟩ := hrel
        have hjk := join_take_le bs k
        have hjk1 := join_take_le bs (k + 1)
        by_cases hlt : k < bs.length
        · obtain ⟨bk, off, rfl, hbl, hc0⟩ := Cs.blob hc hlt
          have hc1 := (hbel.cell (p := ⟨bk, off + k, none⟩) hbl).trans hc0
          have hjt := join_take hlt
          rw [hjt, List.length_append] at hjk1
          have HN := Lib.hid hjt
          have hok : Cs wr bs[k].A (bs[k].l.map byteV) := Cs.below (HB.out bs[k] (List.getElem_mem hlt)) hbel
          clear hjt
          generalize bs[k] = b at *
          generalize join (bs.take k) = xs at *
          generalize (join bs).length = tot at *
          go_wp2_with (first | (at_builtin; refine wpList_bytes hown hbel.size hok rfl (.tmp 31) (.tmp 32) Tryz.underlying31 rfl rfl rfl (by omega) ?_; intro v4 w4 hown4 hbw4; have hbw5 := hbel.trans hbw4))
          exact ⟨⟨k + 1, by omega, by go_num, by rw [HN.out, List.length_append]; exact hown4, hbw5⟩, by simp [intOf]; omega⟩
        · have hkl : k = bs.length := by omega
          subst hkl
          rw [List.take_length] at hown
          clear hjk hjk1
          go_wp2_with fail
          go_ret
          exact ⟨_, rfl, hown, hbel⟩

set_option maxHeartbeats 1000000 in
theorem CloneB (A : Option Addr) (l : Lab) (cap : Nat) (w : World) (hc : Cs w A (l.map byteV)) (hn : l.length ≤ 100000000) :
    Calls Tryz.prog 74 #[.slice A l.length cap] w fun e w' => ∃ v, e = .returned v ∧ w'.ownsRow w.heap.size 5 1 v l.length (l.map byteV) ∧ Below w.heap.size w w' := by
  cases A with
  | none =>
    have hl : l = [] := by simpa using hc.none_nil
    have hq : ∀ W, (binOp .eql 31 (.slice none l.length cap) (.slice none 0 0)).run Tryz.prog W = .ok (.bool true) W := fun W => Lib.run_eql_slice_nil (P := Tryz.prog) W 31 5 none l.length cap 0 0 Tryz.underlying31
    have HL : Hid (∀ w : World, w.ownsRow w.heap.size 5 1 (.slice none 0 0) l.length (l.map byteV)) := Lib.hid (fun w => by rw [hl]; exact World.ownsRow_nil _ _ _ _)
    clear hl
    generalize l.length = m at *
    go_enter Tryz.func74, Tryz.ntmps74
    go_wp2_with fail
    go_ret
    exact ⟨_, rfl, HL.out _, Below.refl _ _⟩
  | some a =>
    have hq : ∀ W, (binOp .eql 31 (.slice (some a) l.length cap) (.slice none 0 0)).run Tryz.prog W = .ok (.bool false) W := fun W => Lib.run_eql_slice_nil (P := Tryz.prog) W 31 5 (some a) l.length cap 0 0 Tryz.underlying31
    have hown : (w.alloc (.cells #[] 5)).ownsRow w.heap.size 5 1 (.slice (some ⟨w.heap.size, 0, none⟩) 0 0) 0 (([] : Lab).map byteV) := own_empty _ _ _ _ _ _ (heap_alloc_new _ _) (Nat.le_refl _) (by unfold maxLen; omega) rfl
    have hb0 : Below w.heap.size w (w.alloc (.cells #[] 5)) := (Below.refl _ _).alloc (Nat.le_refl _) _
    have hc1 := hc.below hb0
    have HO := Lib.hid hown
    clear hown
    go_enter Tryz.func74, Tryz.ntmps74
    go_wp2_with (first | (at_builtin; refine wpList_bytes HO.out hb0.size hc1 rfl _ _ Tryz.underlying31 rfl rfl rfl (by omega) ?_; intro v4 w4 hown4 hbw4; have hbw5 := hb0.trans hbw4))
    go_ret
    exact ⟨_, rfl, by simpa using hown4, hbw5⟩
end Go.Proofs.YtkeimgamjnpcbaaGreat
