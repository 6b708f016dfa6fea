/-
  Words for memory: a slice that reads as a list of cells; bytes. No condition, no claim of its own.
-/
import Derived.Test.YtkeimgamjnpcbaaGreatProg
import Derived.WalkKit
import Derived.WalkSpells
import Derived.WalkLawsBesides
import Derived.OpenShut
namespace Go.Proofs.YtkeimgamjnpcbaaGreat
open Go.RowKit
set_option linter.unusedVariables false

theorem lt_block {w : World} {g : Nat} {o : Obj} (h : w.heap[g]? = some o) : g < w.heap.size := by
  rcases Nat.lt_or_ge g w.heap.size with h1 | h1
  · exact h1
  · rw [Array.getElem?_eq_none h1] at h; cases h
theorem ret_int {k : IntKind} {a b : Int} (h : a = b) : Ending.returned (.int k a) = .returned (.int k b) := by rw [h]
theorem ret_bool {a b : Bool} (h : a = b) : Ending.returned (.bool a) = .returned (.bool b) := by rw [h]
theorem ret_str {a b : ByteArray} (h : a = b) : Ending.returned (.string a) = .returned (.string b) := by rw [h]

/-- the address A leads to these cells, one behind the other -/
def Cs (w : World) (A : Option Addr) (xs : List Value) : Prop :=
  ∀ i u, xs[i]? = some u → ∃ b off, A = some ⟨b, off, none⟩ ∧ b < w.heap.size ∧ w.cell? ⟨b, off + i, none⟩ = some u

theorem Cs.below {w w' : World} {A : Option Addr} {xs : List Value} (h : Cs w A xs) (hb : Below w.heap.size w w') : Cs w' A xs := by
  intro i u hu
  obtain ⟨b, off, e, hlt, hc⟩ := h i u hu
  exact ⟨b, off, e, Nat.lt_of_lt_of_le hlt hb.size, (hb.cell (p := ⟨b, off + i, none⟩) hlt).trans hc⟩
theorem Cs.nil (w : World) (A : Option Addr) : Cs w A [] := by intro i u hu; simp at hu
theorem Cs.of_own {w : World} {base : Nat} {e : TypeId} {v : Value} {n : Nat} {xs : List Value} (h : w.ownsRow base e 1 v n xs) :
    ∃ A cap, v = .slice A n cap ∧ xs.length = n ∧ Cs w A xs := by
  obtain ⟨hl, h2⟩ := h
  have hl' : xs.length = n := by simpa using hl
  rcases h2 with ⟨rfl, rfl⟩ | ⟨g, cap, cur, rfl, hg, hh, hn, hcap, hsz, htake⟩
  · exact ⟨none, 0, rfl, hl', by rw [List.eq_nil_of_length_eq_zero hl']; exact Cs.nil _ _⟩
  · refine ⟨some ⟨g, 0, none⟩, cap, rfl, hl', fun i u hu => ⟨g, 0, rfl, ?_, ?_⟩⟩
    · rcases Nat.lt_or_ge g w.heap.size with hlt | hge
      · exact hlt
      · rw [Array.getElem?_eq_none hge] at hh; cases hh
    · have hi : i < n := by rcases Nat.lt_or_ge i xs.length with h | h; omega; rw [List.getElem?_eq_none h] at hu; cases hu
      rw [Nat.zero_add, cell_of_row w g i cur e (0, 0) hh]
      rw [← htake, List.getElem?_take, if_pos (by simpa using hi)] at hu
      simpa using hu

theorem own_below {w w' : World} {B : Nat} {e : TypeId} {size : Nat} {v : Value} {n : Nat} {xs : List Value} (h : w.ownsRow B e size v n xs) (hb : Below w.heap.size w w') : w'.ownsRow B e size v n xs := by
  refine ⟨h.1, ?_⟩
  rcases h.2 with hn | ⟨g, cap, cur, rfl, hg, hh, rest⟩
  · exact .inl hn
  · refine .inr ⟨g, cap, cur, rfl, hg, ?_, rest⟩
    rw [hb.block g (by rcases Nat.lt_or_ge g w.heap.size with h1 | h1; exact h1; rw [Array.getElem?_eq_none h1] at hh; cases hh)]
    exact hh

/-- a byte as the model has it -/
def byteV (c : UInt8) : Value := .int .u8 c.toNat
theorem Cs.byte {w : World} {A : Option Addr} {l : List UInt8} (h : Cs w A (l.map byteV)) {i : Nat} (hi : i < l.length) :
    ∃ b off, A = some ⟨b, off, none⟩ ∧ b < w.heap.size ∧ w.cell? ⟨b, off + i, none⟩ = some (.int .u8 (l[i].toNat)) := by
  refine h i _ ?_
  simp [byteV, hi]

theorem add_plain (b off j : Nat) : (⟨b, off, none⟩ : Addr).add j = ⟨b, off + j, none⟩ := by unfold Addr.add; split <;> simp_all
theorem Cs.cells {w : World} {a : Addr} {xs : List Value} (h : Cs w (some a) xs) : ∀ j v, xs[j]? = some v → w.cell? (a.add j) = some v := by
  intro j v hj
  obtain ⟨b, off, e, _, hc⟩ := h j v hj
  cases e
  rw [add_plain]; exact hc
theorem Cs.none_nil {w : World} {xs : List Value} (h : Cs w none xs) : xs = [] := by
  cases xs with
  | nil => rfl
  | cons x r => obtain ⟨b, off, e, _⟩ := h 0 x rfl; cases e

/-- string(b): the bytes -/
theorem run_str {P : Program} (w : World) {src dst e : TypeId} (hs : P.underlying src = some (.slice e)) (he : P.underlying e = some (.int .u8)) (hd : P.underlying dst = some .string)
    {A : Option Addr} {l : List UInt8} (cap : Nat) (h : Cs w A (l.map byteV)) : (convert src dst (.slice A l.length cap)).run P w = .ok (.string ⟨l.toArray⟩) w := by
  cases A with
  | none =>
    have hl : l = [] := by simpa using h.none_nil
    subst hl
    exact run_convert_bytes_nil w src e hs he _ _ dst hd
  | some a =>
    have hl : (loadCells a l.length).run P w = .ok ((l.map fun c => (c.toNat : Int)).map (Value.int .u8)).toArray w := by
      have := run_loadCells_list (P := P) w a (l.map byteV) h.cells
      rw [List.length_map] at this
      rw [this, List.map_map]
      rfl
    rw [run_convert_bytes_string w src dst e _ l.length cap hs he hd, run_bytesToString w a l.length cap _ hl, foldl_push_bytes, List.map_map]
    have e1 : l.map ((fun n : Int => UInt8.ofNat n.toNat) ∘ fun c : UInt8 => (c.toNat : Int)) = l := by
      conv => rhs; rw [← List.map_id l]
      apply List.map_congr_left
      intro c _
      simp
    rw [e1]
    simp [ByteArray.empty, ByteArray.emptyWithCapacity]
    rfl
/-- string(b) of a row that the call owns -/
theorem run_str_own {P : Program} (w : World) {src dst e : TypeId} (hs : P.underlying src = some (.slice e)) (he : P.underlying e = some (.int .u8)) (hd : P.underlying dst = some .string)
    {base : Nat} {v : Value} {n : Nat} {l : List UInt8} (h : w.ownsRow base e 1 v n (l.map byteV)) : (convert src dst v).run P w = .ok (.string ⟨l.toArray⟩) w := by
  obtain ⟨A, cap, rfl, hl, hc⟩ := Cs.of_own h
  have e : n = l.length := by simpa using hl.symm
  subst e
  exact run_str w hs he hd cap hc

/-- append of one element (of so many cells), laid in a block of its own just before, to a row that the call owns from block B on -/
theorem wpList_push2 {P : Program} {ops : Array Oper} {rest : List Oper} {o : Oper} {a : Act} {Q : Exit → Act → World → Prop}
    {w : World} {B : Nat} {v : Value} {n : Nat} {xs : List Value} {e : TypeId} {size : Nat} (hown : w.ownsRow B e size v n xs) (hB : B ≤ w.heap.size)
    (us : List Value) (hus : us.length = size) (h1 : ∀ u ∈ us, u.oneCell' = true)
    {i : TypeInfo} {z : Value} {bytes : Nat} (hi : P.info? e = some i) (hz : i.zero = some z)
    (hsize : i.size = size) (hby : i.bytes = bytes) (hzs : z.cells.size = size) (hsz : 0 < size)
    (hgd : o.guard = none) (s x : Operand) (t : TypeId) (ht : P.underlying t = some (.slice e))
    (ho : o.op = .call { callee := .builtin .append, args := #[s, x], argTypes := #[t, t] })
    (hs : a.eval s = v) (hx : a.eval x = .slice (some ⟨w.heap.size, 0, none⟩) 1 1)
    (h63 : n + 1 ≤ maxLen) (hbytes : (n + 1) * bytes ≤ 140737488355328)
    (h : ∀ v' w', w'.ownsRow B e size v' (n + 1) (xs ++ us) → Below B w w' → wpList P ops Q rest (a.put o.dst v') w') :
    wpList P ops Q (o :: rest) a (w.alloc (.cells us.toArray e)) := by
  refine wpList_append_own _ hgd s x t ho B e i z size bytes ht hi hz hsize hby hzs hsz v n xs hs (hown.alloc _) ⟨w.heap.size, 0, none⟩ 1 1 us hx (by omega) ?_ h1 h63 hbytes
    (by simp; omega) ?_
  · intro j u hu
    have hadd : (⟨w.heap.size, 0, none⟩ : Addr).add j = ⟨w.heap.size, j, none⟩ := by unfold Addr.add; split <;> simp_all
    rw [hadd, cell_of_row _ _ j us.toArray e (0, 0) (heap_alloc_new w _)]
    simpa using hu
  · intro v' w' h2 h3 _
    refine h v' w' h2 ?_
    have hb1 : Below B w (w.alloc (.cells us.toArray e)) := (Below.refl _ _).alloc hB _
    refine hb1.grown h3 (by simp; omega) fun k hk => ?_
    exact (hown.lt k hk).1

/-- append of one element (of so many cells), laid in a block of its own just before, to a row that the call owns -/
theorem wpList_push {P : Program} {ops : Array Oper} {rest : List Oper} {o : Oper} {a : Act} {Q : Exit → Act → World → Prop}
    {w0 w : World} {v : Value} {n : Nat} {xs : List Value} {e : TypeId} {size : Nat} (hown : w.ownsRow w0.heap.size e size v n xs) (hbel : Below w0.heap.size w0 w)
    (us : List Value) (hus : us.length = size) (h1 : ∀ u ∈ us, u.oneCell' = true)
    {i : TypeInfo} {z : Value} {bytes : Nat} (hi : P.info? e = some i) (hz : i.zero = some z)
    (hsize : i.size = size) (hby : i.bytes = bytes) (hzs : z.cells.size = size) (hsz : 0 < size)
    (hgd : o.guard = none) (s x : Operand) (t : TypeId) (ht : P.underlying t = some (.slice e))
    (ho : o.op = .call { callee := .builtin .append, args := #[s, x], argTypes := #[t, t] })
    (hs : a.eval s = v) (hx : a.eval x = .slice (some ⟨w.heap.size, 0, none⟩) 1 1)
    (h63 : n + 1 ≤ maxLen) (hbytes : (n + 1) * bytes ≤ 140737488355328)
    (h : ∀ v' w', w'.ownsRow w0.heap.size e size v' (n + 1) (xs ++ us) → Below w0.heap.size w0 w' → wpList P ops Q rest (a.put o.dst v') w') :
    wpList P ops Q (o :: rest) a (w.alloc (.cells us.toArray e)) := by
  refine wpList_append_own _ hgd s x t ho w0.heap.size e i z size bytes ht hi hz hsize hby hzs hsz v n xs hs (hown.alloc _) ⟨w.heap.size, 0, none⟩ 1 1 us hx (by omega) ?_ h1 h63 hbytes
    (by have := hbel.size; simp; omega) ?_
  · intro j u hu
    have hadd : (⟨w.heap.size, 0, none⟩ : Addr).add j = ⟨w.heap.size, j, none⟩ := by unfold Addr.add; split <;> simp_all
    rw [hadd, cell_of_row _ _ j us.toArray e (0, 0) (heap_alloc_new w _)]
    simpa using hu
  · intro v' w' h2 h3 _
    refine h v' w' h2 ?_
    have hb1 : Below w0.heap.size w0 (w.alloc (.cells us.toArray e)) := hbel.alloc hbel.size _
    refine hb1.grown h3 (by have := hbel.size; simp; omega) fun k hk => ?_
    exact (hown.lt k hk).1

end Go.Proofs.YtkeimgamjnpcbaaGreat
