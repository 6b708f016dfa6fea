/-
  Texts merged by a program (Seat2, Rec, K15, ZFull).
-/
import Derived.Test.YtkeimgamjnpcbaaGreatPk2
import Derived.Test.YtkeimgamjnpcbaaGreatPk6
import Derived.Test.YtkeimgamjnpcbaaGreatPk7
import Derived.Test.YtkeimgamjnpcbaaGreatPk8
set_option linter.unusedSimpArgs false
set_option linter.unusedVariables false
/- Contracts of the laws' settings: Type, Data of type A. -/
namespace Go.Proofs.YtkeimgamjnpcbaaGreat
open Go.RowKit
set_option linter.unusedVariables false
set_option linter.unusedSimpArgs false
namespace Nm
def typeK : Nat → Nat
  | 0 => 1
  | 1 => 1
  | 2 => 28
  | 3 => 15
  | 4 => 16
  | 5 => 2
  | 6 => 5
  | 7 => 43
  | 8 => 6
  | _ => 99
set_option maxRecDepth 100000 in
set_option maxHeartbeats 4000000 in
theorem TypeC (k : Nat) (hk : k < 256) (w : World) : Calls Tryz.prog 43 #[.int .u8 k] w fun e w' => e = .returned (.int .u16 (typeK (k % 10))) ∧ Below w.heap.size w w' := by
  obtain ⟨m, hm, hm2⟩ : ∃ m, k % 10 = m ∧ m < 10 := ⟨_, rfl, Nat.mod_lt _ (by omega)⟩
  have hrem : ((k : Int).tmod 10) = m := by rw [Int.tmod_eq_emod_of_nonneg (by omega)]; omega
  rw [hm]
  clear hm
  have hcase : m = 0 ∨ m = 1 ∨ m = 2 ∨ m = 3 ∨ m = 4 ∨ m = 5 ∨ m = 6 ∨ m = 7 ∨ m = 8 ∨ m = 9 := by omega
  rcases hcase with rfl | rfl | rfl | rfl | rfl | rfl | rfl | rfl | rfl | rfl
  all_goals
    go_enter Tryz.func43, Tryz.ntmps43
    go_wp2_with fail
    go_ret
    exact ⟨rfl, (Below.refl _ _).alloc (Nat.le_refl _) _⟩
def b8 (n : Nat) : UInt8 := UInt8.ofNat n
/-- data of the types that hold no name -/
def dataP : Nat → Nat → Lab
  | 1, k => [10, 0, 0, b8 (k % 4)]
  | 16, k => [2, 104, b8 (97 + k % 4)]
  | 43, k => [0, b8 (k % 3), 253, 2, 1, 2, 3]
  | _, k => [b8 k]
theorem byte8 {n : Nat} (h : n < 256) : byteV (b8 n) = .int .u8 n := byteV_lt h
set_option maxRecDepth 100000 in
set_option maxHeartbeats 4000000 in
theorem Data1 (k : Nat) (hk : k < 256) (w : World) : Calls Tryz.prog 75 #[.int .u16 1, .int .u8 k] w fun e w' => ∃ v, e = .returned v ∧ w'.ownsRow w.heap.size 5 1 v 4 ((dataP 1 k).map byteV) ∧ Below w.heap.size w w' := by
  obtain ⟨m, hm, hm2⟩ : ∃ m, k % 4 = m ∧ m < 4 := ⟨_, rfl, Nat.mod_lt _ (by omega)⟩
  have hrem : ((k : Int).tmod 4) = m := by rw [Int.tmod_eq_emod_of_nonneg (by omega)]; omega
  have HD : Hid ((dataP 1 k).map byteV = [.int .u8 10, .int .u8 0, .int .u8 0, .int .u8 m]) := Lib.hid (by
    show List.map byteV [10, 0, 0, b8 (k % 4)] = _
    rw [hm]
    have := byte8 (n := m) (by omega)
    simp only [List.map_cons, List.map_nil, this]
    rfl)
  clear hm
  go_enter Tryz.func75, Tryz.ntmps75
  go_wp2_with fail
  go_ret
  refine ⟨_, rfl, ?_, (Below.refl _ _).alloc (Nat.le_refl _) _⟩
  rw [HD.out]
  exact own_rowC w w.heap.size 5 _ (Nat.le_refl _) (by simp)
set_option maxRecDepth 100000 in
set_option maxHeartbeats 4000000 in
theorem Data16 (k : Nat) (hk : k < 256) (w : World) : Calls Tryz.prog 75 #[.int .u16 16, .int .u8 k] w fun e w' => ∃ v, e = .returned v ∧ w'.ownsRow w.heap.size 5 1 v 3 ((dataP 16 k).map byteV) ∧ Below w.heap.size w w' := by
  obtain ⟨m, hm, hm2⟩ : ∃ m, k % 4 = m ∧ m < 4 := ⟨_, rfl, Nat.mod_lt _ (by omega)⟩
  have hrem : ((k : Int).tmod 4) = m := by rw [Int.tmod_eq_emod_of_nonneg (by omega)]; omega
  have HD : Hid ((dataP 16 k).map byteV = [.int .u8 2, .int .u8 104, .int .u8 (97 + (m : Int))]) := Lib.hid (by
    show List.map byteV [2, 104, b8 (97 + k % 4)] = _
    rw [hm]
    have := byte8 (n := 97 + m) (by omega)
    simp only [List.map_cons, List.map_nil, this]
    rfl)
  clear hm
  go_enter Tryz.func75, Tryz.ntmps75
  go_wp2_with fail
  go_ret
  refine ⟨_, rfl, ?_, (Below.refl _ _).alloc (Nat.le_refl _) _⟩
  rw [HD.out]
  exact own_rowC w w.heap.size 5 _ (Nat.le_refl _) (by simp)
set_option maxRecDepth 100000 in
set_option maxHeartbeats 4000000 in
theorem Data43 (k : Nat) (hk : k < 256) (w : World) : Calls Tryz.prog 75 #[.int .u16 43, .int .u8 k] w fun e w' => ∃ v, e = .returned v ∧ w'.ownsRow w.heap.size 5 1 v 7 ((dataP 43 k).map byteV) ∧ Below w.heap.size w w' := by
  obtain ⟨m, hm, hm2⟩ : ∃ m, k % 3 = m ∧ m < 3 := ⟨_, rfl, Nat.mod_lt _ (by omega)⟩
  have hrem : ((k : Int).tmod 3) = m := by rw [Int.tmod_eq_emod_of_nonneg (by omega)]; omega
  have HD : Hid ((dataP 43 k).map byteV = [.int .u8 0, .int .u8 m, .int .u8 253, .int .u8 2, .int .u8 1, .int .u8 2, .int .u8 3]) := Lib.hid (by
    show List.map byteV [0, b8 (k % 3), 253, 2, 1, 2, 3] = _
    rw [hm]
    have := byte8 (n := m) (by omega)
    simp only [List.map_cons, List.map_nil, this]
    rfl)
  clear hm
  go_enter Tryz.func75, Tryz.ntmps75
  go_wp2_with fail
  go_ret
  refine ⟨_, rfl, ?_, (Below.refl _ _).alloc (Nat.le_refl _) _⟩
  rw [HD.out]
  exact own_rowC w w.heap.size 5 _ (Nat.le_refl _) (by simp)
set_option maxRecDepth 100000 in
set_option maxHeartbeats 4000000 in
theorem Data99 (k : Nat) (hk : k < 256) (w : World) : Calls Tryz.prog 75 #[.int .u16 99, .int .u8 k] w fun e w' => ∃ v, e = .returned v ∧ w'.ownsRow w.heap.size 5 1 v 1 ((dataP 99 k).map byteV) ∧ Below w.heap.size w w' := by
  have HD : Hid ((dataP 99 k).map byteV = [.int .u8 k]) := Lib.hid (by
    have := byte8 hk
    show [byteV (b8 k)] = _
    rw [this])
  go_enter Tryz.func75, Tryz.ntmps75
  go_wp2_with fail
  go_ret
  refine ⟨_, rfl, ?_, (Below.refl _ _).alloc (Nat.le_refl _) _⟩
  rw [HD.out]
  exact own_rowC w w.heap.size 5 _ (Nat.le_refl _) (by simp)
end Nm
end Go.Proofs.YtkeimgamjnpcbaaGreat

/- Contracts of the laws' settings: Record. -/
namespace Go.Proofs.YtkeimgamjnpcbaaGreat
open Go.RowKit
set_option linter.unusedVariables false
set_option linter.unusedSimpArgs false
namespace Nm
def ttlN : Nat → Nat
  | 0 => 30
  | 1 => 30
  | 2 => 60
  | _ => 5
def ttlK (k : Nat) : Nat := ttlN (k / 16777216 % 4)
theorem bits_and3 (a : Nat) (ha : a < 4294967296) : bits .and .u32 (a : Int) 3 = ((a % 4 : Nat) : Int) := by
  have h1 : (BitVec.ofInt 32 (a : Int)).toNat = a := by
    rw [BitVec.ofInt_natCast, BitVec.toNat_ofNat]; exact Nat.mod_eq_of_lt (by omega)
  show IntKind.u32.wrap ((BitVec.ofInt 32 (a : Int) &&& BitVec.ofInt 32 3).toNat : Int) = _
  rw [BitVec.toNat_and, h1, show (BitVec.ofInt 32 3).toNat = 2 ^ 2 - 1 from by decide, Nat.and_two_pow_sub_one_eq_mod]
  simp [IntKind.wrap, IntKind.signed, IntKind.bits]
  omega
theorem wrap8 (a : Int) : IntKind.u8.wrap a = a % 256 := by simp [IntKind.wrap, IntKind.signed, IntKind.bits]
/-- a record's value -/
def RecV (w : World) (B : Nat) (v : Value) (n : List Lab) (t : Nat) (ttl : Nat) (d : Lab) : Prop :=
  ∃ An cn Ad cd, v = .agg #[.slice An n.length cn, .int .u16 t, .int .u16 1, .int .u32 ttl, .slice Ad d.length cd] ∧ w.ownsRow B 9 1 (.slice An n.length cn) n.length (n.map strV) ∧ w.ownsRow B 5 1 (.slice Ad d.length cd) d.length (d.map byteV)
set_option maxRecDepth 100000 in
set_option maxHeartbeats 20000000 in
theorem RecordG (k : Nat) (hk : k < 4294967296) (d : Lab) (w : World) (hD : ∀ W, Below w.heap.size w W → Calls Tryz.prog 75 #[.int .u16 (typeK (k / 256 % 256 % 10)), .int .u8 ((k / 65536 % 256 : Nat) : Int)] W fun e w' => ∃ v, e = .returned v ∧ w'.ownsRow W.heap.size 5 1 v d.length (d.map byteV) ∧ Below W.heap.size W w') :
    Calls Tryz.prog 30 #[.int .u32 k] w fun e w' => ∃ v, e = .returned v ∧ RecV w' w.heap.size v (owner (k % 256)) (typeK (k / 256 % 256 % 10)) (ttlK k) d ∧ Below w.heap.size w w' := by
  have HD := Lib.hid hD
  clear hD
  have HT : Hid (∀ W, Calls Tryz.prog 43 #[.int .u8 ((k / 256 % 256 : Nat) : Int)] W fun e w' => e = .returned (.int .u16 (typeK (k / 256 % 256 % 10))) ∧ Below W.heap.size W w') := Lib.hid fun W => TypeC (k / 256 % 256) (Nat.mod_lt _ (by omega)) W
  have HO : Hid (∀ W, Calls Tryz.prog 26 #[.int .u8 ((k % 256 : Nat) : Int)] W fun e w' => ∃ v, e = .returned v ∧ w'.ownsRow W.heap.size 9 1 v (owner (k % 256)).length ((owner (k % 256)).map strV) ∧ Below W.heap.size W w') := Lib.hid fun W => Owner (k % 256) (Nat.mod_lt _ (by omega)) W
  have e1 : ((k / 256 % 256 : Nat) : Int) = (k : Int) / 256 % 256 := by omega
  have e2 : ((k % 256 : Nat) : Int) = (k : Int) % 256 := by omega
  have e3 : ((k / 65536 % 256 : Nat) : Int) = (k : Int) / 65536 % 256 := by omega
  rw [e1] at HT
  rw [e2] at HO
  rw [e3] at HD
  generalize typeK (k / 256 % 256 % 10) = t at *
  have hkm : ttlK k = ttlN (k / 16777216 % 4) := rfl
  obtain ⟨m, hm, hm4⟩ : ∃ m, k / 16777216 % 4 = m ∧ m < 4 := ⟨_, rfl, Nat.mod_lt _ (by omega)⟩
  rw [hm] at hkm
  rw [hkm]
  have HM := Lib.hid hm
  clear hkm hm
  have hb1 : Below w.heap.size w (w.alloc (.cells #[.slice none 0 0, .int .u16 0, .int .u16 0, .int .u32 0, .slice none 0 0] 51)) := (Below.refl _ _).alloc (Nat.le_refl _) _
  have hR1 := heap_alloc_new w (.cells #[.slice none 0 0, .int .u16 0, .int .u16 0, .int .u32 0, .slice none 0 0] 51)
  clear e1 e2 e3
  go_enter Tryz.func30, Tryz.ntmps30
  go_wp2_with fail
  generalize w.alloc (.cells #[.slice none 0 0, .int .u16 0, .int .u16 0, .int .u32 0, .slice none 0 0] 51) = w1 at *
  refine (HT.out w1).mono ?_
  rintro e w2 ⟨rfl, hb2⟩
  have hE2 := hb1.trans (hb2.mono hb1.size)
  have hR2 := (hb2.block _ (lt_block hR1)).trans hR1
  clear hb2 hb1 hR1 HT
  go_wp2_with fail
  have hs2 := hE2.size
  have hr2 := lt_block hR2
  refine wp_region_dep mixed0 (by kernel_rfl) (fun i j => i == 16 && j == 100) (by kernel_rfl)
    (fun i W W' => if i = 16 then Kept (fun k => k = w.heap.size) W W' else Ext W W')
    (fun W => Kept (fun k => k = w.heap.size) w2 W)
    (fun i vals W => match i with
      | 0 => vals 0 = .int .u32 k
      | 1 => vals 1 = .int .u8 ((k : Int) % 256)
      | 2 => ∃ A c, vals 2 = .slice A (owner (k % 256)).length c ∧ W.ownsRow w2.heap.size 9 1 (.slice A (owner (k % 256)).length c) (owner (k % 256)).length ((owner (k % 256)).map strV)
      | 3 => vals 3 = .int .u16 t
      | 4 => ∃ q, vals 4 = .slice (some ⟨q, 0, none⟩) 4 4 ∧ w2.heap.size ≤ q ∧ W.heap[q]? = some (.cells #[.int .u32 30, .int .u32 30, .int .u32 60, .int .u32 5] 25 (0, 0))
      | 5 => vals 5 = .int .u32 k
      | 6 => vals 6 = .int .u32 ((k : Int) / 16777216)
      | 7 => vals 7 = .int .u32 (m : Int)
      | 8 => ∃ q, vals 8 = .pointer (some ⟨q, m, none⟩) ∧ w2.heap.size ≤ q ∧ W.heap[q]? = some (.cells #[.int .u32 30, .int .u32 30, .int .u32 60, .int .u32 5] 25 (0, 0))
      | 9 => vals 9 = .int .u32 (ttlN m)
      | 10 => vals 10 = .int .u16 t
      | 11 => vals 11 = .int .u32 k
      | 12 => vals 12 = .int .u32 ((k : Int) / 65536)
      | 13 => vals 13 = .int .u8 ((k : Int) / 65536 % 256)
      | 14 => ∃ A c, vals 14 = .slice A d.length c ∧ W.ownsRow w2.heap.size 5 1 (.slice A d.length c) d.length (d.map byteV)
      | 15 => ∃ A c A' c', vals 15 = .agg #[.slice A (owner (k % 256)).length c, .int .u16 t, .int .u16 1, .int .u32 (ttlN m), .slice A' d.length c'] ∧ W.ownsRow w2.heap.size 9 1 (.slice A (owner (k % 256)).length c) (owner (k % 256)).length ((owner (k % 256)).map strV) ∧ W.ownsRow w2.heap.size 5 1 (.slice A' d.length c') d.length (d.map byteV)
      | 16 => ∃ A c A' c', W.heap[w.heap.size]? = some (.cells #[.slice A (owner (k % 256)).length c, .int .u16 t, .int .u16 1, .int .u32 (ttlN m), .slice A' d.length c'] 51 (0, 0)) ∧ W.ownsRow w2.heap.size 9 1 (.slice A (owner (k % 256)).length c) (owner (k % 256)).length ((owner (k % 256)).map strV) ∧ W.ownsRow w2.heap.size 5 1 (.slice A' d.length c') d.length (d.map byteV)
      | _ => True) ?_ (fun W => W.heap[w.heap.size]? = some (.cells #[.slice none 0 0, .int .u16 0, .int .u16 0, .int .u32 0, .slice none 0 0] 51 (0, 0))) (fun i => i == 16) hR2 ?_ ?_ ?_ ?_ ?_ ?_
  · intro j vals i v W hij hw hR
    rcases j with _ | _ | _ | _ | _ | _ | _ | _ | _ | _ | _ | _ | _ | _ | _ | _ | _ | j
    all_goals first
      | exact trivial
      | exact hR
      | (simpa [hij, Ne.symm hij] using hR)
  · intro i W W' hk hC hI hT
    by_cases h : i = 16
    · subst h; cases hk
    · simp only [h, if_false] at hT
      exact (hT.block _ (lt_block hI)).trans hI
  · exact (Kept.refl _ w2).drew
  · intro i W W' hC hT
    by_cases h : i = 16
    · simp only [h, if_true] at hT
      exact hC.trans hT
    · simp only [h, if_false] at hT
      exact hC.trans (Kept.mono (Kept.of_ext hT) (fun _ _ h => h.elim))
  · intro i j vals W W' hij hk hw hC hR hT
    have hKR : (∀ {e : TypeId} {size : Nat} {u : Value} {m : Nat} {xs : List Value}, W.ownsRow w2.heap.size e size u m xs → W'.ownsRow w2.heap.size e size u m xs) ∧ (∀ q o, w2.heap.size ≤ q → W.heap[q]? = some o → W'.heap[q]? = some o) ∧ (i ≠ 16 → W.heap[w.heap.size]? = W'.heap[w.heap.size]?) := by
      by_cases h : i = 16
      · simp only [h, if_true] at hT
        exact ⟨fun hr => Kept.row hr hT (fun k hk2 e => by have := (hr.lt k hk2).1; omega), fun q o hq ho => (hT.block q (lt_block ho) (by omega)).trans ho, fun h2 => absurd h h2⟩
      · simp only [h, if_false] at hT
        exact ⟨fun hr => own_below hr hT, fun q o hq ho => (hT.block q (lt_block ho)).trans ho, fun _ => (hT.block _ (by have := hC.size; omega)).symm⟩
    obtain ⟨hK1, hK2, hK3⟩ := hKR
    rcases j with _ | _ | _ | _ | _ | _ | _ | _ | _ | _ | _ | _ | _ | _ | _ | _ | _ | j
    all_goals first
      | exact trivial
      | exact hR
      | skip
    · obtain ⟨A, c, h1, h2⟩ := hR
      exact ⟨A, c, h1, hK1 h2⟩
    · obtain ⟨q, h1, h2, h3⟩ := hR
      exact ⟨q, h1, h2, hK2 _ _ h2 h3⟩
    · obtain ⟨q, h1, h2, h3⟩ := hR
      exact ⟨q, h1, h2, hK2 _ _ h2 h3⟩
    · obtain ⟨A, c, h1, h2⟩ := hR
      exact ⟨A, c, h1, hK1 h2⟩
    · obtain ⟨A, c, A', c', h1, h2, h3⟩ := hR
      exact ⟨A, c, A', c', h1, hK1 h2, hK1 h3⟩
    · obtain ⟨A, c, A', c', h1, h2, h3⟩ := hR
      exact ⟨A, c, A', c', (hK3 hij) ▸ h1, hK1 h2, hK1 h3⟩
  · intro i o hio vals W hC haf hI0
    rcases i with _ | _ | _ | _ | _ | _ | _ | _ | _ | _ | _ | _ | _ | _ | _ | _ | _ | i
    all_goals first
      | (exfalso; simp at hio; done)
      | skip
    all_goals
      simp at hio
      subst hio
      simp [bindD, rdB, Region.binds] at haf
    all_goals first
      | (simp [opYield_def, yieldUpon, relAct, dstAt, Act.put, Region.wanted, go_sem, haf, Ext.refl]; done)
      | skip
    · simp [opYield_def, yieldUpon, relAct, dstAt, Act.put, Region.wanted, go_sem, haf, Ext.refl]
      exact wrap8 _
    · simp [opYield_def, yieldUpon, relAct, dstAt, Act.put, Region.wanted, go_sem, haf]
      refine (HO.out W).mono fun e W' h => ?_
      obtain ⟨v, he, ho, hb⟩ := h
      obtain ⟨A, c, rfl, _⟩ := own_form ho
      exact ⟨_, he, hb, A, c, rfl, own_base ho hC.size⟩
    · simp [opYield_def, yieldUpon, relAct, dstAt, Act.put, Region.wanted, go_sem]
      exact ⟨(Below.refl _ _).alloc (Nat.le_refl _) _, hC.size, by simp only [World.alloc, Array.getElem_push_eq]⟩
    · simp [opYield_def, yieldUpon, relAct, dstAt, Act.put, Region.wanted, go_sem, haf, Ext.refl]
      have hb := bits_and3 (k / 16777216) (by omega)
      rw [HM.out, show ((k / 16777216 : Nat) : Int) = (k : Int) / 16777216 from by omega] at hb
      exact hb
    · obtain ⟨⟨q, h1, h2, h3⟩, h7⟩ := haf
      have hc : (0 : Int) ≤ (m : Int) ∧ (m : Int) < 4 := by omega
      simp [opYield_def, yieldUpon, relAct, dstAt, Act.put, Region.wanted, go_sem, h1, h7, hm4, hc, Ext.refl]
      exact ⟨h2, h3⟩
    · obtain ⟨q, h1, h2, h3⟩ := haf
      have hc : W.cell? ⟨q, m, none⟩ = some (.int .u32 (ttlN m)) := by
        rw [cell_of_row _ _ _ _ _ _ h3]
        have h : m = 0 ∨ m = 1 ∨ m = 2 ∨ m = 3 := by omega
        rcases h with rfl | rfl | rfl | rfl <;> rfl
      simp [opYield_def, yieldUpon, relAct, dstAt, Act.put, Region.wanted, go_sem, h1, hc, Ext.refl]
    · simp [opYield_def, yieldUpon, relAct, dstAt, Act.put, Region.wanted, go_sem, haf, Ext.refl]
      exact wrap8 _
    · simp [opYield_def, yieldUpon, relAct, dstAt, Act.put, Region.wanted, go_sem, haf]
      refine (HD.out W (hE2.trans (hC.below hs2 (fun k hk e => by omega)))).mono fun e W' h => ?_
      obtain ⟨v, he, ho, hb⟩ := h
      obtain ⟨A, c, rfl, _⟩ := own_form ho
      exact ⟨_, he, hb, A, c, rfl, own_base ho hC.size⟩
    · obtain ⟨⟨A, c, h2, h2r⟩, h3, h9, A', c', h14, h14r⟩ := haf
      simp [opYield_def, yieldUpon, relAct, dstAt, Act.put, Region.wanted, go_sem, h2, h3, h9, h14, Ext.refl]
      exact ⟨A, c, A', c', ⟨⟨rfl, rfl⟩, rfl, rfl⟩, h2r, h14r⟩
    · obtain ⟨A, c, A', c', h15, h15a, h15b⟩ := haf
      have hI := hI0 (fun k hk hk2 => .inl (by simpa using hk2))
      refine yield_store (g := w.heap.size) (cells := #[.slice A (owner (k % 256)).length c, .int .u16 t, .int .u16 1, .int .u32 (ttlN m), .slice A' d.length c']) rfl rfl (by simp [relAct, dstAt, Act.put, Act.eval]) (by simp [relAct, dstAt, Act.put, Act.eval, h15]) hI (by kernel_rfl) rfl (by simp [Value.oneCell']) ?_
      have hblk := setRow_block W w.heap.size #[.slice A (owner (k % 256)).length c, .int .u16 t, .int .u16 1, .int .u32 (ttlN m), .slice A' d.length c'] _ _ _ hI
      have hgr := setRow_grown W w.heap.size #[.slice A (owner (k % 256)).length c, .int .u16 t, .int .u16 1, .int .u32 (ttlN m), .slice A' d.length c']
      have hkk : Kept (fun k => k = w.heap.size) W (W.setRow w.heap.size #[.slice A (owner (k % 256)).length c, .int .u16 t, .int .u16 1, .int .u32 (ttlN m), .slice A' d.length c']) := (Kept.of_grown hgr).mono (fun k _ h => by cases h; rfl)
      exact ⟨hkk, A, c, A', c', hblk, Kept.row h15a hkk (fun k hk2 e => by have := (h15a.lt k hk2).1; omega), Kept.row h15b hkk (fun k hk2 e => by have := (h15b.lt k hk2).1; omega)⟩
  · intro vals W hC hR
    have h16 := hR 16 (by show 16 < 17; omega) (fun i _ => by simp)
    obtain ⟨A, c, A', c', g1, g2, g3⟩ := h16
    obtain ⟨f0, f1, f2, f3, f4, _⟩ := cells5 g1
    have hbW := hE2.trans (hC.below hs2 (fun k hk e => by omega))
    simp [relAct, dstAt, Act.put]
    go_wp2_with fail
    refine bodyPost_ret (v := .agg #[.slice A (owner (k % 256)).length c, .int .u16 t, .int .u16 1, .int .u32 (ttlN m), .slice A' d.length c']) ?_ rfl ⟨_, rfl, ⟨A, c, A', c', rfl, own_base g2 hs2, own_base g3 hs2⟩, hbW⟩
    simp [results, Tryz.results30, go_sem, f0, f1, f2, f3, f4]
end Nm
end Go.Proofs.YtkeimgamjnpcbaaGreat

/- The zone laws' known answer. -/
namespace Go.Proofs.YtkeimgamjnpcbaaGreat
open Go.RowKit
set_option linter.unusedVariables false
set_option linter.unusedSimpArgs false
namespace Nm
theorem find_one (d : Blob × Blob) (m : Lab) (h : d.2.l = m) : FindAt [d] m 0 ∧ hitB [d] m 0 = true := by
  subst h
  refine ⟨⟨Nat.zero_le _, fun j h1 h2 => absurd h2 (by omega), fun j h1 h2 => ?_⟩, ?_⟩
  · have : j = 0 := by simpa using h1
    subst this
    simp [(cb_zero d.2.l d.2.l).2 rfl]
  · simp [hitB, (cb_zero d.2.l d.2.l).2 rfl]
theorem rec_of {n ap : List Lab} {t : Int} {d : Lab} {cn cd : Nat} (h1 : Small n) (h2 : nameE n = 0) (h3 : within n ap = true) (h4 : easyT t) (h5 : (Lit.int .u16 t).wf = true) (h6 : chk t d = true) (h7 : d.length ≤ 100000) (h8 : n.length ≤ cn) (h9 : cn ≤ maxLen) (h10 : d.length ≤ cd) (h11 : cd ≤ maxLen) : Rec n ap t d cn cd :=
  ⟨h1, h2, h3, h4, h5, by rw [h6]; rfl, h7, h8, h9, h10, h11⟩
theorem known_rec {cn cd : Nat} (h8 : (owner 1).length ≤ cn) (h9 : cn ≤ maxLen) (h10 : (dataP 1 0).length ≤ cd) (h11 : cd ≤ maxLen) : Rec (owner 1) [exL] 1 (dataP 1 0) cn cd :=
  rec_of (by unfold Small; decide) (by decide) (by decide) (by unfold easyT; decide) (by decide) (by decide) (by decide) h8 h9 h10 h11
theorem far_facts : Small [[102, 97, 114]] ∧ nameE [[102, 97, 114]] = 0 ∧ within [[102, 97, 114]] [exL] = false := by unfold Small; decide
theorem lower_ex : lower [exL] = [exL] := by decide
theorem k15_seen : 0 < cnt (fun _ => 0) (lower (owner 1)) 1 ((owner 1).length - [exL].length + 1) (zkey [exL]) := by
  have := occ_pos (lower (owner 1)) ((owner 1).length - [exL].length + 1) 1 (zkey [exL]) (by decide) (by decide)
  unfold cnt
  simpa using this
theorem Record1 (w : World) : Calls Tryz.prog 30 #[.int .u32 1] w fun e w' => ∃ An cn Ad cd, e = .returned (.agg #[.slice An 2 cn, .int .u16 1, .int .u16 1, .int .u32 30, .slice Ad 4 cd]) ∧ w'.ownsRow w.heap.size 9 1 (.slice An 2 cn) 2 ((owner 1).map strV) ∧ w'.ownsRow w.heap.size 5 1 (.slice Ad 4 cd) 4 ((dataP 1 0).map byteV) ∧ Below w.heap.size w w' := by
  refine (RecordG 1 (by omega) (dataP 1 0) w (fun W _ => Data1 0 (by omega) W)).mono ?_
  rintro e w' ⟨v, rfl, ⟨An, cn, Ad, cd, rfl, h1, h2⟩, hb⟩
  exact ⟨An, cn, Ad, cd, rfl, h1, h2, hb⟩
theorem own_caps {w : World} {B : Nat} {e : TypeId} {size : Nat} {A : Option Addr} {m c n : Nat} {xs : List Value} (h : w.ownsRow B e size (.slice A m c) n xs) : n ≤ c ∧ c ≤ maxLen := by
  obtain ⟨A', c', h1, h2⟩ := own_form h
  cases h1
  exact h2
/-- a record's block -/
theorem rec_turn {B : Nat} {w w' : World} {r : Nat} {cs : Array Value} (hT : Turn B w w') (h : w.heap[r]? = some (.cells cs 51 (0, 0))) : w'.heap[r]? = some (.cells cs 51 (0, 0)) := hT.rest _ _ _ _ h zT_rec
theorem PutNewL (w : World) (B z bn bb : Nat) (ap n : List Lab) (t : Int) (f : Lab → Int) (N : Nat) (h : Zn w B z bn bb ap 0 (.map []) f N) (An : Option Addr) (cn : Nat) (Ad : Option Addr) (d : Lab) (cd : Nat) (ttl2 : Int) (ln ld : Nat) (hln : n.length = ln) (hld : d.length = ld)
    (hAn : Cs w An (n.map strV)) (hAd : w.ownsRow 0 5 1 (.slice Ad ld cd) ld (d.map byteV)) (hr : Rec n ap t d cn cd) (hap : Small ap) (hap1 : 1 ≤ ap.length) (hN : N ≤ 100000) (hf : ∀ m, -1000000 ≤ f m ∧ f m ≤ 1000000) :
    Calls Tryz.prog 27 #[.pointer (some ⟨z, 0, none⟩), .agg #[.slice An ln cn, .int .u16 t, .int .u16 1, .int .u32 ttl2, .slice Ad ld cd]] w fun e w' => e = .returned (.tuple #[.bool true, .int .i64 0]) ∧ (∃ x bs s v2 b1 b2 N', b1.l = d ∧ b2.l = canonD t d ∧ N' ≤ N + 2000 ∧ One w' B z bn bb x bs s ap n t ttl2 v2 [(b1, b2)] (cnt f (lower n) 1 (n.length - ap.length + 1)) N') ∧ Turn B w w' := by
  subst hln; subst hld
  exact PutNew w B z bn bb ap n t f N h An cn Ad d cd ttl2 hAn hAd hr hap hap1 hN hf
theorem PutSameL (w : World) (B z bn bb x bs s : Nat) (ap n : List Lab) (t ttl : Int) (v : Value) (ds : List (Blob × Blob)) (f : Lab → Int) (N : Nat) (h : One w B z bn bb x bs s ap n t ttl v ds f N) (An : Option Addr) (cn : Nat) (Ad : Option Addr) (d : Lab) (cd : Nat) (ln ld : Nat) (hln : n.length = ln) (hld : d.length = ld) (hAn : Cs w An (n.map strV)) (hAd : w.ownsRow 0 5 1 (.slice Ad ld cd) ld (d.map byteV)) (hr : Rec n ap t d cn cd) (hap : Small ap) (p : Nat) (hp : FindAt ds (canonD t d) p) (hds : ds.length ≤ 1000000) (hhit : hitB ds (canonD t d) p = true) :
    Calls Tryz.prog 27 #[.pointer (some ⟨z, 0, none⟩), .agg #[.slice An ln cn, .int .u16 t, .int .u16 1, .int .u32 ttl, .slice Ad ld cd]] w fun e w' => e = .returned (.tuple #[.bool false, .int .i64 0]) ∧ One w' B z bn bb x bs s ap n t ttl v ds f N ∧ Turn B w w' := by
  subst hln; subst hld
  exact PutSame w B z bn bb x bs s ap n t ttl v ds f N h An cn Ad d cd ttl hAn hAd hr hap p hp hds hhit rfl
theorem PutOutL (w : World) (B z bn bb : Nat) (ap n : List Lab) (t cl ttl2 c : Int) (DD : DataW Unit) (f : Lab → Int) (N : Nat) (h : Zn w B z bn bb ap c DD f N) (An : Option Addr) (cn ln : Nat) (hln : n.length = ln) (hAn : Cs w An (n.map strV)) (hr1 : Small n) (hr2 : nameE n = 0) (hr3 : within n ap = false) (hr8 : ln ≤ cn) (hr9 : cn ≤ maxLen) (hap : Small ap) :
    Calls Tryz.prog 27 #[.pointer (some ⟨z, 0, none⟩), .agg #[.slice An ln cn, .int .u16 t, .int .u16 cl, .int .u32 ttl2, .slice none 0 0]] w fun e w' => e = .returned (.tuple #[.bool false, .int .i64 110]) ∧ Below w.heap.size w w' := by
  subst hln
  exact PutOut w B z bn bb ap n t cl ttl2 c DD f N h An cn hAn hr1 hr2 hr3 hr8 hr9 hap
theorem ZSetL (w : World) (B z bn bb x bs s : Nat) (ap n : List Lab) (t ttl : Int) (v : Value) (ds : List (Blob × Blob)) (f : Lab → Int) (N : Nat) (h : One w B z bn bb x bs s ap n t ttl v ds f N) (An : Option Addr) (cn ln : Nat) (hln : n.length = ln) (hAn : Cs w An (n.map strV)) (hn : Small n) (hwt : (Lit.int .u16 t).wf = true)
    (hds : ds.length ≤ 100000) (hdl : ∀ d ∈ ds, d.1.l.length ≤ 100000) :
    Calls Tryz.prog 28 #[.pointer (some ⟨z, 0, none⟩), .slice An ln cn, .int .u16 t] w fun e w' => Below w.heap.size w w' ∧ ∃ Am m cm Ad cd xs, e = .returned (.tuple #[.agg #[.slice Am m cm, .int .u16 t, .int .u32 ttl, .slice Ad ds.length cd], .bool true]) ∧ w'.ownsRow w.heap.size 31 1 (.slice Ad ds.length cd) ds.length xs ∧ ∀ y ∈ xs, IsSl y := by
  subst hln
  exact ZSet w B z bn bb x bs s ap n t ttl v ds f N h An cn hAn hn hwt hds hdl
theorem low1 : lower (owner 1) = owner 1 := by decide
set_option maxRecDepth 100000 in
set_option maxHeartbeats 20000000 in
theorem Known15 (w : World) : Calls Tryz.prog 23 #[] w fun e w' => e = .returned (.bool true) ∧ Below w.heap.size w w' := by
  go_enter Tryz.func23, Tryz.ntmps23
  go_wp2_with fail
  refine (Apex w).mono ?_
  rintro e w1 ⟨v1, rfl, hown1, hb1⟩
  obtain ⟨A1, c1, rfl, _, hcs1⟩ := Cs.of_own hown1
  clear hown1
  go_wp2_with fail
  refine (ZNew A1 [exL] c1 w1 hcs1 (by unfold Few; decide)).mono ?_
  rintro e w2 ⟨z, bn, bb, rfl, hm, hb2⟩
  rw [lower_ex] at hm
  have HE := Lib.hid (Emp.of_made hm)
  have hb12 := hb1.trans (hb2.mono hb1.size)
  have hB2 := hb12.size
  have hB1 := hb1.size
  clear hm hcs1 hb1 hb2
  go_wp2_with fail
  refine (Record1 w2).mono ?_
  rintro e w3 ⟨An, cn, Ad, cd, rfl, hn3, hd3, hb3⟩
  have hb13 := hb12.trans (hb3.mono hB2)
  go_wp2_with fail
  have hq4 := heap_alloc_new w3 (.cells #[.slice An 2 cn, .int .u16 1, .int .u16 1, .int .u32 30, .slice Ad 4 cd] 51)
  have hb34 : Below w3.heap.size w3 (w3.alloc (.cells #[.slice An 2 cn, .int .u16 1, .int .u16 1, .int .u32 30, .slice Ad 4 cd] 51)) := (Below.refl _ _).alloc (Nat.le_refl _) _
  have hb24 := hb3.trans (hb34.mono hb3.size)
  have hE4 := Zn.ext HE.out hb24
  have hn4 := own_below hn3 hb34
  have hd4 := own_base (own_below hd3 hb34) (Nat.zero_le _)
  obtain ⟨hcn1, hcn2⟩ := own_caps hn4
  obtain ⟨hcd1, hcd2⟩ := own_caps hd4
  have hcs4 := (cs_own hn4).2
  have HR := Lib.hid (known_rec hcn1 hcn2 hcd1 hcd2)
  have hb14 := hb13.trans (hb34.mono hb13.size)
  clear HE hb24 hb34 hn3 hd3 hb3 hb13 hb12
  generalize w3.alloc (.cells #[.slice An 2 cn, .int .u16 1, .int .u16 1, .int .u32 30, .slice Ad 4 cd] 51) = w4 at *
  refine (PutNewL w4 w1.heap.size z bn bb [exL] (owner 1) 1 (fun _ => 0) 0 hE4 An cn Ad (dataP 1 0) cd 30 2 4 rfl rfl hcs4 hd4 HR.out (by unfold Small; decide) (by decide) (by omega) (fun _ => by omega)).mono ?_
  rintro e w5 ⟨rfl, ⟨x, bs, s, v5, b1, b2, N5, hl1, hl2, hN5, hO5⟩, hT5⟩
  have hq5 := rec_turn hT5 hq4
  have hn5 := hT5.row hn4 zT_str
  have hd5 := hT5.row hd4 zT_u8
  have hcs5 := (cs_own hn5).2
  have hb15 := hb14.trans (hT5.below.mono hB1)
  clear hE4 hn4 hd4 hcs4 hq4 hT5 hb14
  obtain ⟨k0, k1, k2, k3, k4, _⟩ := cells5 hq5
  have hdl1 : b1.l.length ≤ 100000 := by rw [hl1]; decide
  have hF1 := find_one (b1, b2) _ hl2
  have HS5 := Lib.hid (PutSameL w5 w1.heap.size z bn bb x bs s [exL] (owner 1) 1 30 v5 _ _ N5 hO5 An cn Ad (dataP 1 0) cd 2 4 rfl rfl hcs5 hd5 HR.out (by unfold Small; decide) 0 hF1.1 (by simp) hF1.2)
  clear hF1 hl1 hl2 hO5
  go_wp2_with fail
  refine HS5.out.mono ?_
  rintro e w6 ⟨rfl, hO6, hT6⟩
  have hq6 := rec_turn hT6 hq5
  have hn6 := hT6.row hn5 zT_str
  have hcs6 := (cs_own hn6).2
  clear k0 k1 k2 k3 k4 hn5 hd5 hcs5 hq5 HS5
  go_wp2_with fail
  have hb67 : Below w6.heap.size w6 (w6.alloc (.cells #[.string ⟨#[102, 97, 114]⟩] 9)) := (Below.refl _ _).alloc (Nat.le_refl _) _
  have hcf : Cs (w6.alloc (.cells #[.string ⟨#[102, 97, 114]⟩] 9)) (some ⟨w6.heap.size, 0, none⟩) ([[102, 97, 114]].map strV) := cs_new w6 9 [.string ⟨#[102, 97, 114]⟩] (0, 0)
  have hb16 := hb15.trans (hT6.below.mono hB1)
  have hz6 := hb16.size
  have hb17 := hb16.trans (hb67.mono hz6)
  have hO7 := hO6.ext hb67
  have hn7 := own_below hn6 hb67
  have hq7 := (hb67.block _ (lt_block hq6)).trans hq6
  clear hT6 hb15 hb16 hO6 hn6 hcs6 hq6 hb67
  generalize w6.alloc (.cells #[.string ⟨#[102, 97, 114]⟩] 9) = w7 at *
  refine (PutOutL w7 w1.heap.size z bn bb [exL] [[102, 97, 114]] 0 1 0 _ _ _ _ hO7.zn (some ⟨w6.heap.size, 0, none⟩) 1 1 rfl hcf far_facts.1 far_facts.2.1 far_facts.2.2 (Nat.le_refl _) (by unfold maxLen; omega) (by unfold Small; decide)).mono ?_
  rintro e w8 ⟨rfl, hb78⟩
  have hO8 := hO7.ext hb78
  have hn8 := own_below hn7 hb78
  have hcs8 := (cs_own hn8).2
  have hq8 := (hb78.block _ (lt_block hq7)).trans hq7
  have hb18 := hb17.trans (hb78.mono hb17.size)
  obtain ⟨k0, k1, k2, k3, k4, _⟩ := cells5 hq8
  have HS8 := Lib.hid (ZSetL w8 w1.heap.size z bn bb x bs s [exL] (owner 1) 1 30 v5 [(b1, b2)] _ N5 hO8 An cn 2 rfl hcs8 (by unfold Small; decide) (by decide) (by simp) (fun d hd => by rcases List.mem_cons.1 hd with rfl | hd; exact hdl1; cases hd))
  clear hcf hb17 hO7 hn7 hcs8 hq7 hq8 hb78 hn8
  go_wp2_with fail
  refine HS8.out.mono ?_
  rintro e w9 ⟨hb89, Am, m, cm, Ad2, cd2, xs, rfl, hr9, _⟩
  have hO9 := hO8.ext hb89
  have hb19 := hb18.trans (hb89.mono hb18.size)
  clear k0 k1 k2 k3 k4 HS8 hO8 hb18 hb89 hr9
  go_wp2_with fail
  have hb90 : Below w9.heap.size w9 (w9.alloc (.cells #[.slice Am m cm, .int .u16 1, .int .u32 30, .slice Ad2 1 cd2] 28)) := (Below.refl _ _).alloc (Nat.le_refl _) _
  have hO10 := hO9.ext hb90
  have hb110 := hb19.trans (hb90.mono hb19.size)
  clear hO9 hb19 hb90
  generalize w9.alloc (.cells #[.slice Am m cm, .int .u16 1, .int .u32 30, .slice Ad2 1 cd2] 28) = w10 at *
  refine (ZLen w10 w1.heap.size z bn bb _ _ _ _ _ hO10.zn).mono ?_
  rintro e w10' ⟨rfl, rfl⟩
  go_wp2_with fail
  refine (Apex w10).mono ?_
  rintro e w11 ⟨v11, rfl, hown11, hb11⟩
  obtain ⟨A11, c11, rfl, _, hcs11⟩ := Cs.of_own hown11
  have hO11 := hO10.ext hb11
  have hb111 := hb110.trans (hb11.mono hb110.size)
  have HH := Lib.hid (ZHasY w11 w1.heap.size z bn bb _ _ _ _ _ hO11.zn A11 [exL] c11 hcs11 (by unfold Small; decide) k15_seen)
  clear hown11 hcs11 hO10 hb11 hb110
  go_wp2_with fail
  refine HH.out.mono ?_
  rintro e w12 ⟨rfl, hb12⟩
  have hO12 := hO11.ext hb12
  have hb112 := hb111.trans (hb12.mono hb111.size)
  have HRc := Lib.hid (ZRecs1 w12 w1.heap.size z bn bb x bs s [exL] (owner 1) 1 30 v5 (b1, b2) _ N5 hO12 (by unfold Small; decide) (by decide) hdl1)
  clear HH hO11 hb12 hb111 hO12
  go_wp2_with fail
  refine HRc.out.mono ?_
  rintro e w13 ⟨⟨A13, c13, rfl⟩, hb13⟩
  have hbF := hb112.trans (hb13.mono hb112.size)
  clear HRc hb13 hb112
  go_wp2_with fail
  go_ret
  exact ⟨rfl, hbF⟩
end Nm
end Go.Proofs.YtkeimgamjnpcbaaGreat

/- The walk of ZoneFull. -/
namespace Go.Proofs.YtkeimgamjnpcbaaGreat
open Go.RowKit
set_option linter.unusedVariables false
set_option linter.unusedSimpArgs false
namespace Nm
theorem u8lt {a b : Nat} (ha : a < 256) (hb : b < 256) : (UInt8.ofNat a < UInt8.ofNat b) ↔ a < b := by
  rw [UInt8.lt_iff_toNat_lt]
  simp [Nat.mod_eq_of_lt ha, Nat.mod_eq_of_lt hb]
theorem be2_eq (i : Nat) : be2 i = [UInt8.ofNat (i / 256), UInt8.ofNat (i % 256)] := by
  unfold be2
  have : UInt8.ofNat i = UInt8.ofNat (i % 256) := by
    apply UInt8.toNat_inj.1
    simp
  rw [this]
theorem be2_cmp {i j : Nat} (hi : i < 65536) (hj : j < 65536) : Lib.compareBytes (be2 i) (be2 j) = if i < j then -1 else if j < i then 1 else 0 := by
  rw [be2_eq, be2_eq]
  unfold Lib.compareBytes Lib.compareBytes Lib.compareBytes
  simp only [u8lt (show i / 256 < 256 by omega) (show j / 256 < 256 by omega), u8lt (show j / 256 < 256 by omega) (show i / 256 < 256 by omega), u8lt (show i % 256 < 256 by omega) (show j % 256 < 256 by omega), u8lt (show j % 256 < 256 by omega) (show i % 256 < 256 by omega)]
  repeat' split
  all_goals first
    | rfl
    | (exfalso; omega)
theorem be2_len (i : Nat) : (be2 i).length = 2 := rfl
theorem chk99 (i : Nat) : chk 99 (be2 i) = true := by simp [chk, be2_len]
theorem canon99 (i : Nat) : canonD 99 (be2 i) = be2 i := by simp [canonD, canonO]
theorem own_facts (k : Nat) : Small (owner k) ∧ nameE (owner k) = 0 ∧ within (owner k) [exL] = true := by
  have h : ∀ m, m < 13 → Small (ownL m ++ [exL]) ∧ nameE (ownL m ++ [exL]) = 0 ∧ within (ownL m ++ [exL]) [exL] = true := by
    unfold Small
    decide
  exact h (k % 13) (Nat.mod_lt _ (by omega))
/-- the data so far -/
def Rows99 (ds : List (Blob × Blob)) (m : Nat) : Prop := ds.map (fun d => d.2.l) = (List.range m).map be2
theorem d99_len {ds : List (Blob × Blob)} {m : Nat} (h : Rows99 ds m) : ds.length = m := by
  have := congrArg List.length h
  simpa using this
theorem d99_get {ds : List (Blob × Blob)} {m : Nat} (h : Rows99 ds m) (i : Nat) (hi : i < ds.length) : ds[i].2.l = be2 i := by
  have h1 : (ds.map (fun d => d.2.l))[i]? = ((List.range m).map be2)[i]? := congrArg (·[i]?) h
  have hm := d99_len h
  rw [List.getElem?_map, List.getElem?_map, List.getElem?_eq_getElem hi, List.getElem?_range (by omega)] at h1
  simpa using h1
theorem d99_end {ds : List (Blob × Blob)} {m j : Nat} (h : Rows99 ds m) (hm : m ≤ 60000) (hj : m ≤ j) (hj2 : j ≤ 60000) : FindAt ds (canonD 99 (be2 j)) ds.length ∧ hitB ds (canonD 99 (be2 j)) ds.length = false := by
  rw [canon99]
  have hl := d99_len h
  refine ⟨⟨Nat.le_refl _, fun i h1 h2 => ?_, fun i h1 h2 => absurd h1 (by omega)⟩, by simp [hitB]⟩
  rw [d99_get h i h1, be2_cmp (by omega) (by omega), if_pos (by omega)]
  omega
theorem d99_one {ds : List (Blob × Blob)} {m : Nat} (h : Rows99 ds m) (hm : m ≤ 60000) (h2 : 2 ≤ m) : FindAt ds (canonD 99 (be2 1)) 1 ∧ hitB ds (canonD 99 (be2 1)) 1 = true := by
  rw [canon99]
  have hl := d99_len h
  have hg : ∀ i, (hi : i < ds.length) → Lib.compareBytes ds[i].2.l (be2 1) = if i < 1 then -1 else if 1 < i then 1 else 0 := fun i hi => by rw [d99_get h i hi, be2_cmp (by omega) (by omega)]
  refine ⟨⟨by omega, fun i h1 h2 => ?_, fun i h1 h2 => ?_⟩, ?_⟩
  · rw [hg i h1, if_pos (by omega)]; omega
  · rw [hg i h1, if_neg (by omega)]; split <;> omega
  · unfold hitB
    rw [decide_eq_true (show 1 < ds.length by omega), List.getD_eq_getElem?_getD, List.getElem?_eq_getElem (show 1 < ds.length by omega)]
    have := hg 1 (by omega)
    simp at this
    simp [this]
theorem d99_snoc {ds : List (Blob × Blob)} {m : Nat} {b1 b2 : Blob} (h : Rows99 ds m) (hb : b2.l = canonD 99 (be2 m)) : Rows99 (ds ++ [(b1, b2)]) (m + 1) := by
  unfold Rows99 at *
  rw [List.map_append, h, List.range_succ, List.map_append]
  simp [hb, canon99]
/-- the zone behind j records -/
def FZ (B z bn bb : Nat) (nm : List Lab) (j : Nat) (wr : World) : Prop := (j = 0 ∧ Zn wr B z bn bb [exL] 0 (.map []) (fun _ => 0) 0) ∨
    (1 ≤ j ∧ ∃ x bs s v ds f N, Rows99 ds (min j 2000) ∧ (∀ d ∈ ds, d.1.l.length ≤ 2) ∧ One wr B z bn bb x bs s [exL] nm 99 5 v ds f N)
theorem FZ.ext {B z bn bb : Nat} {nm : List Lab} {j : Nat} {w w' : World} (h : FZ B z bn bb nm j w) (hb : Below w.heap.size w w') : FZ B z bn bb nm j w' := by
  rcases h with ⟨h1, h2⟩ | ⟨h1, x, bs, s, v, ds, f, N, h2, h3, h4⟩
  · exact .inl ⟨h1, h2.ext hb⟩
  · exact .inr ⟨h1, x, bs, s, v, ds, f, N, h2, h3, h4.ext hb⟩
theorem FStep (B z bn bb : Nat) (k j : Nat) (hj : j ≤ 3000) (w : World) (hz : FZ B z bn bb (owner k) j w) (An : Option Addr) (cn : Nat) (Ad : Option Addr) (cd : Nat) (hAn : w.ownsRow 0 9 1 (.slice An (owner k).length cn) (owner k).length ((owner k).map strV)) (hAd : w.ownsRow 0 5 1 (.slice Ad 2 cd) 2 ((be2 j).map byteV)) :
    Calls Tryz.prog 27 #[.pointer (some ⟨z, 0, none⟩), .agg #[.slice An (owner k).length cn, .int .u16 99, .int .u16 1, .int .u32 5, .slice Ad 2 cd]] w fun e w' => (j < 2000 → e = .returned (.tuple #[.bool true, .int .i64 0])) ∧ (2000 ≤ j → e = .returned (.tuple #[.bool false, .int .i64 111])) ∧ FZ B z bn bb (owner k) (j + 1) w' ∧ Turn B w w' := by
  obtain ⟨hn1, hn2⟩ := own_caps hAn
  obtain ⟨hd1, hd2⟩ := own_caps hAd
  obtain ⟨f1, f2, f3⟩ := own_facts k
  have hcs := (cs_own hAn).2
  have hR : Rec (owner k) [exL] 99 (be2 j) cn cd := rec_of f1 f2 f3 (by unfold easyT; decide) (by decide) (chk99 j) (by rw [be2_len]; omega) hn1 hn2 hd1 hd2
  have hS : Small [exL] := by unfold Small; decide
  rcases hz with ⟨rfl, h⟩ | ⟨h1, x, bs, s, v, ds, f, N, h2, h3, h4⟩
  · refine (PutNew w B z bn bb [exL] (owner k) 99 (fun _ => 0) 0 h An cn Ad (be2 0) cd 5 hcs hAd hR hS (by decide) (by omega) (fun _ => by omega)).mono ?_
    rintro e w' ⟨rfl, ⟨x, bs, s, v2, b1, b2, N', hb1, hb2, _, hO⟩, hT⟩
    refine ⟨fun _ => rfl, fun h => absurd h (by omega), .inr ⟨by omega, x, bs, s, v2, [(b1, b2)], _, N', ?_, ?_, hO⟩, hT⟩
    · exact d99_snoc (ds := []) (m := 0) rfl hb2
    · intro d hd
      rcases List.mem_cons.1 hd with rfl | hd
      · show List.length b1.l ≤ 2
        rw [hb1, be2_len]
        omega
      · cases hd
  · have hlen := d99_len h2
    by_cases hlt : j < 2000
    · rw [Nat.min_eq_left (by omega)] at h2 hlen
      refine (PutMore w B z bn bb x bs s [exL] (owner k) 99 5 v ds f N h4 An cn Ad (be2 j) cd 5 hcs hAd hR hS (d99_end h2 (by omega) (Nat.le_refl _) (by omega)).1 (by omega)).mono ?_
      rintro e w' ⟨rfl, ⟨v2, b1, b2, hb1, hb2, hO⟩, hT⟩
      refine ⟨fun _ => rfl, fun h => absurd h (by omega), .inr ⟨by omega, x, bs, s, v2, _, _, N, ?_, ?_, hO⟩, hT⟩
      · rw [Nat.min_eq_left (by omega)]
        exact d99_snoc h2 hb2
      · intro d hd
        rcases List.mem_append.1 hd with hd | hd
        · exact h3 d hd
        · rcases List.mem_cons.1 hd with rfl | hd
          · show List.length b1.l ≤ 2
            rw [hb1, be2_len]
            omega
          · cases hd
    · rw [Nat.min_eq_right (by omega)] at h2 hlen
      have he := d99_end (j := j) h2 (by omega) (by omega) (by omega)
      refine (PutFull w B z bn bb x bs s [exL] (owner k) 99 5 v ds f N h4 An cn Ad (be2 j) cd 5 hcs hAd hR hS ds.length he.1 (by omega) he.2 (by omega)).mono ?_
      rintro e w' ⟨rfl, hO, hT⟩
      exact ⟨fun h => absurd h (by omega), fun _ => rfl, .inr ⟨by omega, x, bs, s, v, ds, f, N, by rw [Nat.min_eq_right (by omega)]; exact h2, h3, hO⟩, hT⟩
def FullR (B z bn bb : Nat) (nm : List Lab) (m : Nat) (w : World) (i : Value) (wr : World) : Prop :=
  ∃ j : Nat, j ≤ m ∧ i = .int .i64 j ∧ Below B w wr ∧ FZ B z bn bb nm j wr
set_option maxRecDepth 100000 in
set_option maxHeartbeats 20000000 in
theorem WFull (n k : Nat) (hn : n < 256) (hk : k < 256) (w : World) : Calls Tryz.prog 6 #[.int .u8 n, .int .u8 k] w fun e w' => e = .returned (.bool true) ∧ Below w.heap.size w w' := by
  obtain ⟨a, ha, ha4⟩ : ∃ a, n % 4 = a ∧ a < 4 := ⟨_, rfl, Nat.mod_lt _ (by omega)⟩
  have hrem : ((n : Int).tmod 4) = a := by rw [Int.tmod_eq_emod_of_nonneg (by omega)]; omega
  clear ha
  go_enter Tryz.func6, Tryz.ntmps6
  go_wp2_with fail
  refine (Known15 w).mono ?_
  rintro e w0 ⟨rfl, hb0⟩
  go_wp2_with fail
  refine (Apex w0).mono ?_
  rintro e w1 ⟨v1, rfl, hown1, hb1⟩
  obtain ⟨A1, c1, rfl, _, hcs1⟩ := Cs.of_own hown1
  have hb01 := hb0.trans (hb1.mono hb0.size)
  clear hown1 hb1 hb0
  go_wp2_with fail
  refine (ZNew A1 [exL] c1 w1 hcs1 (by unfold Few; decide)).mono ?_
  rintro e w2 ⟨z, bn, bb, rfl, hm, hb2⟩
  rw [lower_ex] at hm
  have HE := Lib.hid (Emp.of_made hm)
  have hb12 := hb01.trans (hb2.mono hb01.size)
  have hB2 := hb12.size
  have hB1 := hb01.size
  have hB12 := hb2.size
  clear hm hcs1 hb2
  go_wp2_with fail
  have hab : (1998 : Nat) + a ≤ 2001 := by omega
  go_loopw [7] (FullR w1.heap.size z bn bb (owner k) (1998 + a) w2) (fun i _ => (1998 + a) - (intOf i).toNat)
  case atStart => exact ⟨0, by omega, rfl, Below.refl _ _, .inl ⟨rfl, HE.out⟩⟩
  case round =>
    obtain ⟨j, hj, rfl, hbr, hz⟩ := hrel
    by_cases hlt : j < 1998 + a
    · go_wp2_with fail
      refine (Owner k hk wr).mono ?_
      rintro e w3 ⟨v3, rfl, hown3, hb3⟩
      obtain ⟨A3, c3, rfl, _, hcs3⟩ := Cs.of_own hown3
      go_wp2_with fail
      have hb34 : Below w3.heap.size w3 (w3.alloc (.cells #[.int .u8 ((j : Int) / 256), .int .u8 ((j : Int) % 256)] 5)) := (Below.refl _ _).alloc (Nat.le_refl _) _
      have hD4 : (w3.alloc (.cells #[.int .u8 ((j : Int) / 256), .int .u8 ((j : Int) % 256)] 5)).ownsRow 0 5 1 (.slice (some ⟨w3.heap.size, 0, none⟩) 2 2) 2 ((be2 j).map byteV) := by
        have e1 : (be2 j).map byteV = [.int .u8 ((j : Int) / 256), .int .u8 ((j : Int) % 256)] := by
          show [byteV (UInt8.ofNat (j / 256)), byteV (UInt8.ofNat j)] = _
          rw [byteV_mod, byteV_mod, show (((j / 256 : Nat) : Int)) % 256 = (j : Int) / 256 from by omega]
        rw [e1]
        exact own_row w3 0 5 [.int .u8 ((j : Int) / 256), .int .u8 ((j : Int) % 256)] (Nat.zero_le _) (by simp)
      have hO4 := own_base (own_below hown3 hb34) (Nat.zero_le _)
      have hsz4 : (w3.alloc (.cells #[.int .u8 ((j : Int) / 256), .int .u8 ((j : Int) % 256)] 5)).heap.size = w3.heap.size + 1 := by simp
      generalize w3.alloc (.cells #[.int .u8 ((j : Int) / 256), .int .u8 ((j : Int) % 256)] 5) = w4 at *
      have hb45 : Below w4.heap.size w4 (w4.alloc (.cells #[.slice A3 (owner k).length c3, .int .u16 99, .int .u16 1, .int .u32 5, .slice (some ⟨w3.heap.size, 0, none⟩) 2 2] 51)) := (Below.refl _ _).alloc (Nat.le_refl _) _
      have hbr5 := (hb3.trans (hb34.mono hb3.size)).trans (hb45.mono ((hb3.trans (hb34.mono hb3.size)).size))
      have hz5 := hz.ext hbr5
      have hD5 := own_below hD4 hb45
      have hO5 := own_below hO4 hb45
      clear hz hD4 hO4 hb45 hb34 hb3 hown3 hcs3
      generalize w4.alloc (.cells #[.slice A3 (owner k).length c3, .int .u16 99, .int .u16 1, .int .u32 5, .slice (some ⟨w3.heap.size, 0, none⟩) 2 2] 51) = w5 at *
      refine (FStep w1.heap.size z bn bb k j (by omega) w5 hz5 A3 c3 _ 2 hO5 hD5).mono ?_
      rintro e w6 ⟨he1, he2, hz6, hT6⟩
      have hb6 : Below w1.heap.size w2 w6 := hbr.trans ((hbr5.mono (Nat.le_trans hB12 hbr.size)).trans hT6.below)
      clear hz5 hD5 hO5 hT6 hbr5 hbr
      by_cases h2 : j < 2000
      · obtain rfl := he1 h2
        have d1 : decide ((j : Int) < 2000) = true := decide_eq_true (by omega)
        have d2 : decide (2000 ≤ (j : Int)) = false := decide_eq_false (by omega)
        clear he1 he2
        go_wp2_with fail
        go_roundw
        case rel => exact ⟨j + 1, by omega, by go_num, hb6, hz6⟩
        case measure => simp [intOf]; omega
      · obtain rfl := he2 (by omega)
        have d1 : decide ((j : Int) < 2000) = false := decide_eq_false (by omega)
        have d2 : decide (2000 ≤ (j : Int)) = true := decide_eq_true (by omega)
        clear he1 he2
        go_wp2_with fail
        go_roundw
        case rel => exact ⟨j + 1, by omega, by go_num, hb6, hz6⟩
        case measure => simp [intOf]; omega
    · go_wp2_with fail
      obtain rfl : j = 1998 + a := by omega
      rcases hz with ⟨h0, _⟩ | ⟨_, x, bs, s, v, ds, f, N, h2, h3, hO⟩
      · omega
      have hlen := d99_len h2
      refine (Owner k hk wr).mono ?_
      rintro e w3 ⟨v3, rfl, hown3, hb3⟩
      obtain ⟨A3, c3, rfl, _, hcs3⟩ := Cs.of_own hown3
      go_wp2_with fail
      have hb34 : Below w3.heap.size w3 (w3.alloc (.cells #[.int .u8 0, .int .u8 1] 5)) := (Below.refl _ _).alloc (Nat.le_refl _) _
      have hD4 : (w3.alloc (.cells #[.int .u8 0, .int .u8 1] 5)).ownsRow 0 5 1 (.slice (some ⟨w3.heap.size, 0, none⟩) 2 2) 2 ((be2 1).map byteV) :=
        own_row w3 0 5 [.int .u8 0, .int .u8 1] (Nat.zero_le _) (by simp)
      have hb4 := hb3.trans (hb34.mono hb3.size)
      have hO4 := hO.ext hb4
      have hn4 := own_base (own_below hown3 hb34) (Nat.zero_le _)
      have hcs4 := (cs_own hn4).2
      obtain ⟨hn1, hn2⟩ := own_caps hn4
      have hd1 := d99_one h2 (by omega) (by omega)
      obtain ⟨f1, f2, f3⟩ := own_facts k
      have hR : Rec (owner k) [exL] 99 (be2 1) c3 2 := rec_of f1 f2 f3 (by unfold easyT; decide) (by decide) (chk99 1) (by rw [be2_len]; omega) hn1 hn2 (Nat.le_refl _) (by unfold maxLen; omega)
      have hbr4 := hbr.trans (hb4.mono (Nat.le_trans hB12 hbr.size))
      have HR := Lib.hid f1
      have hdl : ∀ d ∈ ds, d.1.l.length ≤ 100000 := fun d hd => Nat.le_trans (h3 d hd) (by omega)
      have HDL := Lib.hid hdl
      have HLE := Lib.hid hlen
      clear hlen hdl h3 h2 hO hb4 hb34 hown3 hcs3 hb3
      generalize w3.alloc (.cells #[.int .u8 0, .int .u8 1] 5) = w4 at *
      refine (PutTtl w4 w1.heap.size z bn bb x bs s [exL] (owner k) 99 5 v ds f N hO4 A3 c3 _ (be2 1) 2 6 hcs4 hD4 hR (by unfold Small; decide) 1 hd1.1 (by have := HLE.out; omega) hd1.2 (by omega)).mono ?_
      rintro e w5 ⟨rfl, hO5, hT5⟩
      have hbr5 := hbr4.trans hT5.below
      clear hd1 hR hn4 hcs4 hD4 hbr4 hT5 hO4 hn1 hn2 f1 f2 f3
      go_wp2_with fail
      refine (Owner k hk w5).mono ?_
      rintro e w6 ⟨v6, rfl, hown6, hb6⟩
      obtain ⟨A6, c6, rfl, _, hcs6⟩ := Cs.of_own hown6
      have hO6 := hO5.ext hb6
      have hbr6 := hbr5.trans (hb6.mono (Nat.le_trans hB12 hbr5.size))
      have HS := Lib.hid (ZSet w6 w1.heap.size z bn bb x bs s [exL] (owner k) 99 6 v ds f N hO6 A6 c6 hcs6 HR.out (by decide) (by have := HLE.out; omega) HDL.out)
      clear hO5 hb6 hbr5 hown6 hcs6
      go_wp2_with fail
      refine HS.out.mono ?_
      rintro e w7 ⟨hb7, Am, m, cm, Ad2, cd2, xs, rfl, hr7, _⟩
      have hO7 := hO6.ext hb7
      have hbr7 := hbr6.trans (hb7.mono (Nat.le_trans hB12 hbr6.size))
      clear HS hO6 hb7 hbr6 hr7
      go_wp2_with fail
      have hb78 : Below w7.heap.size w7 (w7.alloc (.cells #[.slice Am m cm, .int .u16 99, .int .u32 6, .slice Ad2 ds.length cd2] 28)) := (Below.refl _ _).alloc (Nat.le_refl _) _
      have hq := heap_alloc_new w7 (.cells #[.slice Am m cm, .int .u16 99, .int .u32 6, .slice Ad2 ds.length cd2] 28)
      have hO8 := hO7.ext hb78
      have hbr8 := hbr7.trans (hb78.mono (Nat.le_trans hB12 hbr7.size))
      obtain ⟨q0, q1, q2, q3, _⟩ := cells4 hq
      have hbF : Below w.heap.size w _ := hb12.trans (hbr8.mono hB1)
      have HBF := Lib.hid hbF
      clear hO7 hb78 hbr7 hbr8 hq hbF
      generalize w7.alloc (.cells #[.slice Am m cm, .int .u16 99, .int .u32 6, .slice Ad2 ds.length cd2] 28) = w8 at *
      refine (ZLen w8 w1.heap.size z bn bb _ _ _ _ _ hO8.zn).mono ?_
      rintro e w8' ⟨rfl, rfl⟩
      have hl := HLE.out
      clear HLE hO8 HDL
      generalize ds.length = dl at *
      clear hlt hj hab hrem
      go_wp2_with fail
      all_goals first
        | (go_ret; exact ⟨rfl, HBF.out⟩)
        | (exfalso; omega)
theorem WFullI (n k : Int) (h1 : 0 ≤ n) (h2 : n ≤ 255) (h3 : 0 ≤ k) (h4 : k ≤ 255) (w : World) : Calls Tryz.prog 6 #[.int .u8 n, .int .u8 k] w fun e w' => e = .returned (.bool true) ∧ Below w.heap.size w w' := by
  obtain ⟨n, rfl⟩ := Int.eq_ofNat_of_zero_le h1
  obtain ⟨k, rfl⟩ := Int.eq_ofNat_of_zero_le h3
  exact WFull n k (by omega) (by omega) w
end Nm
end Go.Proofs.YtkeimgamjnpcbaaGreat
