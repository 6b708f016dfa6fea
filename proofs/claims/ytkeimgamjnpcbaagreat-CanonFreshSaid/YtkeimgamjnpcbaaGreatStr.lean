/-
  Words for texts and for lists of texts; []byte(s), append onto a row of the call's own. No claim of its own.
-/
import Derived.Test.YtkeimgamjnpcbaaGreatMem
import Derived.StillTailTactics
import Derived.Lib.Hide
import Derived.Lib.SlBytesConst
import Derived.Lib.AppendStr
namespace Go.Proofs.YtkeimgamjnpcbaaGreat
open Go.RowKit
set_option linter.unusedVariables false

abbrev Lab := List UInt8
/-- a text by its bytes -/
def strB (l : Lab) : ByteArray := ⟨l.toArray⟩
def strV (l : Lab) : Value := .string (strB l)
theorem strB_size (l : Lab) : (strB l).size = l.length := by simp [strB, ByteArray.size]
theorem strB_toList (l : Lab) : (strB l).toList = l := by unfold strB; rw [ByteArray.toList_mk]
theorem strB_data (l : Lab) : (strB l).data.toList = l := by simp [strB]
theorem strB_inj {a b : Lab} (h : strB a = strB b) : a = b := by have := congrArg (fun s => s.data.toList) h; simpa [strB] using this
theorem strB_of (s : ByteArray) : strB s.data.toList = s := by cases s; simp [strB]
theorem strB_getElem (l : Lab) (i : Nat) (h : i < (strB l).size) : (strB l)[i] = l[i]'(by rw [strB_size] at h; exact h) := by
  show (strB l).data[i]'h = _
  simp [strB]

theorem own_drewN {w : World} {B : Nat} {e : TypeId} {size : Nat} {v : Value} {n : Nat} {xs : List Value} (h : w.ownsRow B e size v n xs) (k : Nat) : (w.drewN k).ownsRow B e size v n xs := h
theorem Cs.drewN' {w : World} {A : Option Addr} {us : List Value} (h : Cs w A us) (n : Nat) : Cs (w.drewN n) A us := h
theorem Cs.str {w : World} {A : Option Addr} {n : List Lab} (h : Cs w A (n.map strV)) {i : Nat} (hi : i < n.length) :
    ∃ b off, A = some ⟨b, off, none⟩ ∧ b < w.heap.size ∧ w.cell? ⟨b, off + i, none⟩ = some (.string (strB n[i])) := by
  refine h i _ ?_
  simp [strV, hi]
theorem Cs.drop' {w : World} {A : Option Addr} {us : List Value} (h : Cs w A us) (t cap : Nat) (hc : us.length ≤ cap) : Cs w (if cap = t then A else A.map (fun x => x.add t)) (us.drop t) := by
  intro i u hu
  rw [List.getElem?_drop] at hu
  have hlt : t + i < us.length := by
    rcases Nat.lt_or_ge (t + i) us.length with h1 | h1
    · exact h1
    · rw [List.getElem?_eq_none h1] at hu; cases hu
  obtain ⟨b, off, e, hb, hcell⟩ := h _ _ hu
  rw [if_neg (by omega), e]
  refine ⟨b, off + t, by rw [Option.map_some, add_plain], hb, ?_⟩
  rw [Nat.add_assoc]; exact hcell
theorem Cs.take' {w : World} {A : Option Addr} {us : List Value} (h : Cs w A us) (t : Nat) : Cs w A (us.take t) := by
  intro i u hu
  rw [List.getElem?_take] at hu
  split at hu
  · exact h i u hu
  · cases hu
theorem cs_new (w : World) (T : TypeId) (xs : List Value) (q : Nat × Nat) : Cs (w.alloc (.cells xs.toArray T q)) (some ⟨w.heap.size, 0, none⟩) xs := by
  intro i u hu
  refine ⟨w.heap.size, 0, rfl, by simp, ?_⟩
  rw [Nat.zero_add, cell_of_row _ w.heap.size i _ T q (heap_alloc_new w _)]
  simpa using hu

/-- the bytes of a text, laid in a block of their own -/
theorem bytes_of (w : World) (l : Lab) : ∃ (w' : World) (cap : Nat) (cs : Array Value) (fr : Nat × Nat), (convert 9 31 (.string (strB l))).run Tryz.prog w = .ok (.slice (some ⟨w.heap.size, 0, none⟩) l.length cap) w' ∧ l.length ≤ cap ∧
    Below w.heap.size w w' ∧ w.heap.size < w'.heap.size ∧ w'.heap[w.heap.size]? = some (.cells cs 5 fr) ∧ cs.toList.take l.length = l.map byteV ∧ l.length ≤ fr.1 := by
  have h := run_bytes_of_string (P := Tryz.prog) w 9 31 5 (strB l) Tryz.underlying9 Tryz.underlying31 Tryz.underlying5
  rw [strB_size] at h
  refine ⟨_, _, _, _, h, grownCap_ge _ _ _ _, ?_, by simp, heap_alloc_new _ _, ?_, ?_⟩
  · exact ((Below.refl w.heap.size w).drew).alloc (Nat.le_refl _) _
  · simp [bytesRow, byteV, strB]
  · simp [bytesRow, strB_size]
theorem blk_cell {w : World} {g i : Nat} {cs : Array Value} {e : TypeId} {fr : Nat × Nat} {l : List UInt8} (h : w.heap[g]? = some (.cells cs e fr)) (ht : cs.toList.take l.length = l.map byteV) (hi : i < l.length) :
    w.cell? ⟨g, i, none⟩ = some (.int .u8 (l[i].toNat)) := by
  rw [cell_of_row w g i cs e fr h]
  have h1 : (cs.toList.take l.length)[i]? = (l.map byteV)[i]? := by rw [ht]
  rw [List.getElem?_take, if_pos hi] at h1
  simp [byteV, hi] at h1
  exact h1
theorem blk_cs {w : World} {g : Nat} {cs : Array Value} {e : TypeId} {fr : Nat × Nat} {l : List UInt8} (h : w.heap[g]? = some (.cells cs e fr)) (ht : cs.toList.take l.length = l.map byteV) : Cs w (some ⟨g, 0, none⟩) (l.map byteV) := by
  intro i u hu
  have hi : i < l.length := by
    rcases Nat.lt_or_ge i l.length with h1 | h1
    · exact h1
    · rw [List.getElem?_eq_none (by simpa using h1)] at hu; cases hu
  refine ⟨g, 0, rfl, lt_block h, ?_⟩
  rw [Nat.zero_add, blk_cell h ht hi]
  simpa [byteV, hi] using hu
theorem blk_frozen {w : World} {g i : Nat} {cs : Array Value} {e : TypeId} {fr : Nat × Nat} (h : w.heap[g]? = some (.cells cs e fr)) (hi : i < fr.1) : w.frozen? ⟨g, i, none⟩ = false := by
  obtain ⟨lo, hi'⟩ := fr
  simp only at hi
  simp only [World.frozen?, h, Bool.and_eq_false_iff, decide_eq_false_iff_not]
  left; omega
theorem blk_set {w : World} {g i : Nat} {cs : Array Value} {e : TypeId} {fr : Nat × Nat} {l : List UInt8} (h : w.heap[g]? = some (.cells cs e fr)) (ht : cs.toList.take l.length = l.map byteV) (c : UInt8) :
    (w.setCell ⟨g, i, none⟩ (byteV c)).heap[g]? = some (.cells (cs.setIfInBounds i (byteV c)) e fr) ∧ (cs.setIfInBounds i (byteV c)).toList.take (l.set i c).length = (l.set i c).map byteV := by
  constructor
  · simp [World.setCell, Array.getElem?_modify, h]
  · rw [Array.toList_setIfInBounds, List.length_set, List.take_set, ht, List.map_set]

theorem info_str : (Tryz.prog.info? 9).map (fun i => (i.zero, i.size, i.bytes)) = some (some (.string ByteArray.empty), 1, 16) := by kernel_rfl
theorem info_u8 : (Tryz.prog.info? 5).map (fun i => (i.zero, i.size, i.bytes)) = some (some (.int .u8 0), 1, 1) := by kernel_rfl
theorem byteV_one (l : Lab) : ∀ u ∈ l.map byteV, u.oneCell' = true := by intro u hu; obtain ⟨y, _, rfl⟩ := List.mem_map.1 hu; rfl
/-- append of a text to a row of the call's own -/
theorem wpList_text {ops : Array Oper} {rest : List Oper} {o : Oper} {a : Act} {Q : Exit → Act → World → Prop} {w : World} {B : Nat} {v : Value} {n : Nat} {xs : Lab}
    (hown : w.ownsRow B 5 1 v n (xs.map byteV)) (hB : B ≤ w.heap.size) (s : Lab) (hgd : o.guard = none) (sl x : Operand)
    (ho : o.op = .call { callee := .builtin .append, args := #[sl, x], argTypes := #[31, 9] }) (hs : a.eval sl = v) (hx : a.eval x = .string (strB s)) (hn : n + s.length ≤ 1000000000)
    (h : ∀ v' w', w'.ownsRow B 5 1 v' (n + s.length) ((xs ++ s).map byteV) → Below B w w' → wpList Tryz.prog ops Q rest (a.put o.dst v') w') : wpList Tryz.prog ops Q (o :: rest) a w := by
  obtain ⟨i0, hi, hz0, hz1, hz2⟩ := info_parts info_u8
  refine Lib.wpList_append_own_string w hgd sl x 31 9 ho B 5 i0 Tryz.underlying31 Tryz.underlying9 hi hz0 hz1 hz2 v n _ hs hown (strB s) hx (by rw [strB_size]; unfold maxLen; omega) (by rw [strB_size]; omega) hB ?_
  intro v' w' h1 h2 _
  rw [strB_size] at h1
  have e : xs.map byteV ++ Lib.strCells (strB s) = (xs ++ s).map byteV := by
    rw [List.map_append]
    unfold Lib.strCells
    simp [strB, byteV]
  rw [e] at h1
  exact h v' w' h1 ((Below.refl _ _).grown h2 hB (fun k hk => (hown.lt k hk).1))
theorem run_nothing {P : Program} {w : World} {B : Nat} {t ty e : TypeId} {i : TypeInfo} {size : Nat} (ht : P.underlying t = some (.slice e)) (hi : P.info? e = some i) {v : Value} {n : Nat} {xs : List Value}
    (hown : w.ownsRow B e size v n xs) (c : Nat) : (Builtin.append_ #[t, t] ty #[v, .slice none 0 c]).run P w = .ok v w := by
  rcases hown.2 with ⟨rfl, _⟩ | ⟨g, cap, cur, rfl, _, _, hnc, _⟩
  · simp [Builtin.append_, run_underlying ht, sizeOf, typeInfo, hi, Builtin.lenOf, Builtin.firstCells]
  · simp [Builtin.append_, run_underlying ht, sizeOf, typeInfo, hi, Builtin.lenOf, Builtin.firstCells, hnc, storeCells]
theorem wpList_nothing {P : Program} {w : World} {ops : Array Oper} {rest : List Oper} {o : Oper} {a : Act} {Q : Exit → Act → World → Prop} (hgd : o.guard = none) (sl x : Operand) (t : TypeId)
    (ho : o.op = .call { callee := .builtin .append, args := #[sl, x], argTypes := #[t, t] })
    {B : Nat} {e : TypeId} {i : TypeInfo} {size : Nat} (ht : P.underlying t = some (.slice e)) (hi : P.info? e = some i)
    {v : Value} {n : Nat} {xs : List Value} (hs : a.eval sl = v) (hown : w.ownsRow B e size v n xs) {c : Nat} (hx : a.eval x = .slice none 0 c)
    (h : wpList P ops Q rest (a.put o.dst v) w) : wpList P ops Q (o :: rest) a w := by
  refine wpList_plain hgd fun K hK => ?_
  have hrun := run_nothing (P := P) (w := w) (ty := o.type) ht hi hown c
  unfold Oper.wp execOp
  simp only [ho, resolve, invoke, builtin, Sem.run_bind, Sem.run_pure, Result.andThen_ok, List.map_toArray, List.map_cons, List.map_nil, hs, hx, hrun]
  exact hK _ _ h
/-- append of bytes that lie somewhere to a row of the call's own -/
theorem wpList_bytes {ops : Array Oper} {rest : List Oper} {o : Oper} {a : Act} {Q : Exit → Act → World → Prop} {w : World} {B : Nat} {v : Value} {n : Nat} {xs : Lab}
    (hown : w.ownsRow B 5 1 v n (xs.map byteV)) (hB : B ≤ w.heap.size) {A : Option Addr} {s : Lab} {c : Nat} (hs2 : Cs w A (s.map byteV)) (hgd : o.guard = none) (sl x : Operand) {t : TypeId} (ht : Tryz.prog.underlying t = some (.slice 5))
    (ho : o.op = .call { callee := .builtin .append, args := #[sl, x], argTypes := #[t, t] }) (hs : a.eval sl = v) (hx : a.eval x = .slice A s.length c) (hn : n + s.length ≤ 1000000000)
    (h : ∀ v' w', w'.ownsRow B 5 1 v' (n + s.length) ((xs ++ s).map byteV) → Below B w w' → wpList Tryz.prog ops Q rest (a.put o.dst v') w') : wpList Tryz.prog ops Q (o :: rest) a w := by
  obtain ⟨i0, hi, hz0, hz1, hz2⟩ := info_parts info_u8
  cases A with
  | none =>
    have hsn : s = [] := by simpa using hs2.none_nil
    subst hsn
    refine wpList_nothing hgd sl x t ho ht hi hs hown hx ?_
    refine h v w ?_ (Below.refl _ _)
    simpa using hown
  | some b =>
    refine wpList_append_own w hgd sl x t ho B 5 i0 _ 1 1 ht hi hz0 hz1 hz2 rfl (by decide) v n _ hs hown b s.length c (s.map byteV) hx (by simp) hs2.cells (byteV_one s) (by unfold maxLen; omega) (by omega) hB ?_
    intro v' w' h1 h2 _
    rw [← List.map_append] at h1
    exact h v' w' h1 ((Below.refl _ _).grown h2 hB (fun k hk => (hown.lt k hk).1))
end Go.Proofs.YtkeimgamjnpcbaaGreat
