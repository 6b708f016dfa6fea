/-
  Contracts of the laws' settings: Apex, Owner.
-/
import Derived.Test.YtkeimgamjnpcbaaGreatCanon1
import Derived.Test.YtkeimgamjnpcbaaGreatKept
namespace Go.Proofs.YtkeimgamjnpcbaaGreat
open Go.RowKit
set_option linter.unusedVariables false
namespace Nm
def exL : Lab := [101, 120, 97, 109, 112, 108, 101]
theorem own_row (w : World) (B : Nat) (e : TypeId) (xs : List Value) (hB : B ≤ w.heap.size) (hl : xs.length ≤ 1000) : (w.alloc (.cells xs.toArray e)).ownsRow B e 1 (.slice (some ⟨w.heap.size, 0, none⟩) xs.length xs.length) xs.length xs :=
  ⟨by simp, .inr ⟨w.heap.size, xs.length, xs.toArray, rfl, hB, heap_alloc_new w _, Nat.le_refl _, by unfold maxLen; omega, by simp, by simp⟩⟩
theorem Apex (w : World) : Calls Tryz.prog 25 #[] w fun e w' => ∃ v, e = .returned v ∧ w'.ownsRow w.heap.size 9 1 v 1 ([exL].map strV) ∧ Below w.heap.size w w' := by
  go_enter Tryz.func25, Tryz.ntmps25
  go_wp2_with fail
  go_ret
  exact ⟨_, rfl, own_row w w.heap.size 9 ([exL].map strV) (Nat.le_refl _) (by simp), (Below.refl _ _).alloc (Nat.le_refl _) _⟩
/-- the owners of few numbers -/
def ownL : Nat → List Lab
  | 0 => []
  | 1 => [[97]]
  | 2 => [[98]]
  | 3 => [[99], [98]]
  | 4 => [[42], [119]]
  | 5 => [[120], [119]]
  | 6 => [[101], [102], [103]]
  | 7 => [[115, 117, 98]]
  | 8 => [[110, 115], [115, 117, 98]]
  | 9 => [[65]]
  | 10 => [[100, 101, 101, 112], [120], [119]]
  | 11 => [[122]]
  | _ => [[42]]
theorem ownL_len (m : Nat) : (ownL m).length ≤ 3 := by unfold ownL; split <;> decide
def owner (k : Nat) : List Lab := ownL (k % 13) ++ [exL]
theorem allocs_below : ∀ (os : List Obj) (w : World), Below w.heap.size w (os.foldl World.alloc w) ∧ (os.foldl World.alloc w).heap.size = w.heap.size + os.length
  | [], w => ⟨Below.refl _ _, rfl⟩
  | o :: os, w => by
    obtain ⟨h1, h2⟩ := allocs_below os (w.alloc o)
    rw [World.size_alloc] at h1 h2
    exact ⟨((Below.refl _ _).alloc (Nat.le_refl _) o).trans (h1.mono (by omega)), by rw [List.foldl_cons, h2, List.length_cons]; omega⟩
theorem allocs_cs : ∀ (os : List Obj) (w : World) (i : Nat) (xs : List Value) (T : TypeId), os[i]? = some (.cells xs.toArray T) → Cs (os.foldl World.alloc w) (some ⟨w.heap.size + i, 0, none⟩) xs
  | [], w, i, xs, T, h => by simp at h
  | o :: os, w, 0, xs, T, h => by
    simp at h
    subst h
    have := cs_new w T xs (0, 0)
    exact this.below (allocs_below os _).1
  | o :: os, w, i + 1, xs, T, h => by
    have := allocs_cs os (w.alloc o) i xs T (by simpa using h)
    rw [World.size_alloc, Nat.add_assoc, Nat.add_comm 1 i] at this
    exact this
set_option maxRecDepth 100000 in
set_option maxHeartbeats 4000000 in
theorem Owner (k : Nat) (hk : k < 256) (w : World) : Calls Tryz.prog 26 #[.int .u8 k] w fun e w' => ∃ v, e = .returned v ∧ w'.ownsRow w.heap.size 9 1 v (owner k).length ((owner k).map strV) ∧ Below w.heap.size w w' := by
  unfold owner
  obtain ⟨m, hm, hm2⟩ : ∃ m, k % 13 = m ∧ m < 13 := ⟨_, rfl, Nat.mod_lt _ (by omega)⟩
  have hrem : ((k : Int).tmod 13) = m := by rw [Int.tmod_eq_emod_of_nonneg (by omega)]; omega
  rw [hm]
  have HM := Lib.hid hm
  clear hm
  have htab : ([Value.slice (some ⟨w.heap.size, 0, none⟩) 0 0, Value.slice (some ⟨w.heap.size + 1, 0, none⟩) 1 1, Value.slice (some ⟨w.heap.size + 1 + 1, 0, none⟩) 1 1, Value.slice (some ⟨w.heap.size + 1 + 1 + 1, 0, none⟩) 2 2, Value.slice (some ⟨w.heap.size + 1 + 1 + 1 + 1, 0, none⟩) 2 2, Value.slice (some ⟨w.heap.size + 1 + 1 + 1 + 1 + 1, 0, none⟩) 2 2, Value.slice (some ⟨w.heap.size + 1 + 1 + 1 + 1 + 1 + 1, 0, none⟩) 3 3, Value.slice (some ⟨w.heap.size + 1 + 1 + 1 + 1 + 1 + 1 + 1, 0, none⟩) 1 1, Value.slice (some ⟨w.heap.size + 1 + 1 + 1 + 1 + 1 + 1 + 1 + 1, 0, none⟩) 2 2, Value.slice (some ⟨w.heap.size + 1 + 1 + 1 + 1 + 1 + 1 + 1 + 1 + 1, 0, none⟩) 1 1, Value.slice (some ⟨w.heap.size + 1 + 1 + 1 + 1 + 1 + 1 + 1 + 1 + 1 + 1, 0, none⟩) 3 3, Value.slice (some ⟨w.heap.size + 1 + 1 + 1 + 1 + 1 + 1 + 1 + 1 + 1 + 1 + 1, 0, none⟩) 1 1, Value.slice (some ⟨w.heap.size + 1 + 1 + 1 + 1 + 1 + 1 + 1 + 1 + 1 + 1 + 1 + 1, 0, none⟩) 1 1] : List Value)[m]'(by simpa using hm2) = .slice (some ⟨w.heap.size + m, 0, none⟩) (ownL m).length (ownL m).length := by
    match m, hm2 with
    | 0, _ => rfl
    | 1, _ => rfl
    | 2, _ => rfl
    | 3, _ => rfl
    | 4, _ => rfl
    | 5, _ => rfl
    | 6, _ => rfl
    | 7, _ => rfl
    | 8, _ => rfl
    | 9, _ => rfl
    | 10, _ => rfl
    | 11, _ => rfl
    | 12, _ => rfl
  have hcs := allocs_cs [Obj.cells #[] 9, Obj.cells #[Value.string { data := #[97] }] 9, Obj.cells #[Value.string { data := #[98] }] 9, Obj.cells #[Value.string { data := #[99] }, Value.string { data := #[98] }] 9, Obj.cells #[Value.string { data := #[42] }, Value.string { data := #[119] }] 9, Obj.cells #[Value.string { data := #[120] }, Value.string { data := #[119] }] 9, Obj.cells #[Value.string { data := #[101] }, Value.string { data := #[102] }, Value.string { data := #[103] }] 9, Obj.cells #[Value.string { data := #[115, 117, 98] }] 9, Obj.cells #[Value.string { data := #[110, 115] }, Value.string { data := #[115, 117, 98] }] 9, Obj.cells #[Value.string { data := #[65] }] 9, Obj.cells #[Value.string { data := #[100, 101, 101, 112] }, Value.string { data := #[120] }, Value.string { data := #[119] }] 9, Obj.cells #[Value.string { data := #[122] }] 9, Obj.cells #[Value.string { data := #[42] }] 9, .cells #[Value.slice (some ⟨w.heap.size, 0, none⟩) 0 0, Value.slice (some ⟨w.heap.size + 1, 0, none⟩) 1 1, Value.slice (some ⟨w.heap.size + 1 + 1, 0, none⟩) 1 1, Value.slice (some ⟨w.heap.size + 1 + 1 + 1, 0, none⟩) 2 2, Value.slice (some ⟨w.heap.size + 1 + 1 + 1 + 1, 0, none⟩) 2 2, Value.slice (some ⟨w.heap.size + 1 + 1 + 1 + 1 + 1, 0, none⟩) 2 2, Value.slice (some ⟨w.heap.size + 1 + 1 + 1 + 1 + 1 + 1, 0, none⟩) 3 3, Value.slice (some ⟨w.heap.size + 1 + 1 + 1 + 1 + 1 + 1 + 1, 0, none⟩) 1 1, Value.slice (some ⟨w.heap.size + 1 + 1 + 1 + 1 + 1 + 1 + 1 + 1, 0, none⟩) 2 2, Value.slice (some ⟨w.heap.size + 1 + 1 + 1 + 1 + 1 + 1 + 1 + 1 + 1, 0, none⟩) 1 1, Value.slice (some ⟨w.heap.size + 1 + 1 + 1 + 1 + 1 + 1 + 1 + 1 + 1 + 1, 0, none⟩) 3 3, Value.slice (some ⟨w.heap.size + 1 + 1 + 1 + 1 + 1 + 1 + 1 + 1 + 1 + 1 + 1, 0, none⟩) 1 1, Value.slice (some ⟨w.heap.size + 1 + 1 + 1 + 1 + 1 + 1 + 1 + 1 + 1 + 1 + 1 + 1, 0, none⟩) 1 1] 23] w m ((ownL m).map strV) 9 (by
    match m, hm2 with
    | 0, _ => rfl
    | 1, _ => rfl
    | 2, _ => rfl
    | 3, _ => rfl
    | 4, _ => rfl
    | 5, _ => rfl
    | 6, _ => rfl
    | 7, _ => rfl
    | 8, _ => rfl
    | 9, _ => rfl
    | 10, _ => rfl
    | 11, _ => rfl
    | 12, _ => rfl)
  have hbw := allocs_below [Obj.cells #[] 9, Obj.cells #[Value.string { data := #[97] }] 9, Obj.cells #[Value.string { data := #[98] }] 9, Obj.cells #[Value.string { data := #[99] }, Value.string { data := #[98] }] 9, Obj.cells #[Value.string { data := #[42] }, Value.string { data := #[119] }] 9, Obj.cells #[Value.string { data := #[120] }, Value.string { data := #[119] }] 9, Obj.cells #[Value.string { data := #[101] }, Value.string { data := #[102] }, Value.string { data := #[103] }] 9, Obj.cells #[Value.string { data := #[115, 117, 98] }] 9, Obj.cells #[Value.string { data := #[110, 115] }, Value.string { data := #[115, 117, 98] }] 9, Obj.cells #[Value.string { data := #[65] }] 9, Obj.cells #[Value.string { data := #[100, 101, 101, 112] }, Value.string { data := #[120] }, Value.string { data := #[119] }] 9, Obj.cells #[Value.string { data := #[122] }] 9, Obj.cells #[Value.string { data := #[42] }] 9, .cells #[Value.slice (some ⟨w.heap.size, 0, none⟩) 0 0, Value.slice (some ⟨w.heap.size + 1, 0, none⟩) 1 1, Value.slice (some ⟨w.heap.size + 1 + 1, 0, none⟩) 1 1, Value.slice (some ⟨w.heap.size + 1 + 1 + 1, 0, none⟩) 2 2, Value.slice (some ⟨w.heap.size + 1 + 1 + 1 + 1, 0, none⟩) 2 2, Value.slice (some ⟨w.heap.size + 1 + 1 + 1 + 1 + 1, 0, none⟩) 2 2, Value.slice (some ⟨w.heap.size + 1 + 1 + 1 + 1 + 1 + 1, 0, none⟩) 3 3, Value.slice (some ⟨w.heap.size + 1 + 1 + 1 + 1 + 1 + 1 + 1, 0, none⟩) 1 1, Value.slice (some ⟨w.heap.size + 1 + 1 + 1 + 1 + 1 + 1 + 1 + 1, 0, none⟩) 2 2, Value.slice (some ⟨w.heap.size + 1 + 1 + 1 + 1 + 1 + 1 + 1 + 1 + 1, 0, none⟩) 1 1, Value.slice (some ⟨w.heap.size + 1 + 1 + 1 + 1 + 1 + 1 + 1 + 1 + 1 + 1, 0, none⟩) 3 3, Value.slice (some ⟨w.heap.size + 1 + 1 + 1 + 1 + 1 + 1 + 1 + 1 + 1 + 1 + 1, 0, none⟩) 1 1, Value.slice (some ⟨w.heap.size + 1 + 1 + 1 + 1 + 1 + 1 + 1 + 1 + 1 + 1 + 1 + 1, 0, none⟩) 1 1] 23] w
  simp only [List.foldl_cons, List.foldl_nil] at hcs hbw
  have hbw1 := hbw.1
  have hol := ownL_len m
  have HCS := Lib.hid hcs
  have HBW := Lib.hid hbw1
  have HBZ := Lib.hid hbw1.size
  clear hcs hbw hbw1
  have HAP : Hid (∀ W, Calls Tryz.prog 25 #[] W fun e w' => ∃ v, e = .returned v ∧ w'.ownsRow W.heap.size 9 1 v 1 ([exL].map strV) ∧ Below W.heap.size W w') := Lib.hid Apex
  go_enter Tryz.func26, Tryz.ntmps26
  go_wp2_with (first | (at_builtin; refine wpList_names (B := w.heap.size) (v := .slice none 0 0) (n := 0) (xs := []) (World.ownsRow_nil _ _ _ _) HBZ.out HCS.out rfl _ _ Tryz.underlying23 rfl rfl rfl (by omega) ?_; intro v1 w1 hown1 hb1))
  rw [Nat.zero_add, List.nil_append] at hown1
  have hbw1 := HBW.out.trans hb1
  clear htab HCS
  generalize hol2 : ownL m = l at *
  have HO := Lib.hid hol2
  clear hol2
  clear hb1 HBW HBZ
  refine (HAP.out _).mono ?_
  rintro e w2 ⟨v2, rfl, hown2, hb2⟩
  obtain ⟨A2, c2, rfl, _, hcs2⟩ := Cs.of_own hown2
  have hown12 := own_below hown1 hb2
  have hb12 := hbw1.trans (hb2.mono hbw1.size)
  have HC2 := Lib.hid hcs2
  clear hown2 hcs2 hown1
  go_wp2_with (first | (at_builtin; refine wpList_names hown12 hb12.size (s := [exL]) HC2.out rfl _ _ Tryz.underlying23 rfl rfl rfl (by simp; omega) ?_; intro v3 w3 hown3 hb3))
  go_ret
  refine ⟨_, rfl, ?_, hb12.trans hb3⟩
  rw [HO.out, List.length_append]
  exact hown3
end Nm
end Go.Proofs.YtkeimgamjnpcbaaGreat
