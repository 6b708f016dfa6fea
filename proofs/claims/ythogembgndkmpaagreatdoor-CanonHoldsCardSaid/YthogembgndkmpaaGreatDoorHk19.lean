/-
  Texts merged by a program (WHolds).
-/
import Derived.Deep.CutRange
import Derived.Deep.CutBlock
import Derived.Test.YthogembgndkmpaaGreatDoorHk9
import Derived.Test.YthogembgndkmpaaGreatDoorHk13
import Derived.Test.YthogembgndkmpaaGreatDoorHk16
import Derived.Test.YthogembgndkmpaaGreatDoorHk17
import Derived.Test.YthogembgndkmpaaGreatDoorHk18
set_option linter.unusedSimpArgs false
set_option linter.unusedVariables false
/- signetlaw19.CanonHolds: the walk. -/
namespace Go.Proofs.YthogembgndkmpaaGreatDoor
open Go.RowKit
namespace Nm
/-- how long a slice is, what room it has -/
def on_len_cap (A : Option Addr) (c n : Nat) : Prop := n ≤ c ∧ c ≤ maxLen ∧ (A = none → c = 0)
theorem own_caps2 {w : World} {B : Nat} {e : TypeId} {A : Option Addr} {n c m : Nat} {xs : List Value} (h : w.ownsRow B e 1 (.slice A m c) n xs) : on_len_cap A c n := by
  rcases h.2 with ⟨h1, rfl⟩ | ⟨g, cap, cur, h1, _, _, h5, h6, _⟩
  · cases h1
    exact ⟨Nat.le_refl _, by unfold maxLen; omega, fun _ => rfl⟩
  · cases h1
    exact ⟨h5, h6, fun h => by cases h⟩
theorem rowCs {V : World} {g : Nat} {T : TypeId} {c : Array Value} {l : List UInt8} (R : W.Row8 c l) (h : V.heap[g]? = some (.cells c T (0, 0))) : Cs V (some ⟨g, 0, none⟩) (l.map byteV) := by
  intro i u hu
  refine ⟨g, 0, rfl, lt_block h, ?_⟩
  rw [Nat.zero_add, cell_of_row _ _ _ _ _ _ h, R.eq]
  simpa using hu
theorem csRange {w : World} {b off : Nat} {xs : List Value} (h : Cs w (some ⟨b, off, none⟩) xs) : w.rangeAt b off xs := fun j v hj => by
  obtain ⟨_, _, e, _, hc⟩ := h j v hj
  cases e
  exact hc
/-- blocks of that type alone have been written -/
def TyK (e : TypeId) (V V' : World) : Prop := Kept (fun k => ∃ cs fr, V.heap[k]? = some (.cells cs e fr)) V V'
theorem TyK.of_ext {e : TypeId} {V V' : World} (h : Ext V V') : TyK e V V' := (Kept.of_ext h).mono (fun _ _ h => h.elim)
theorem TyK.blk {e e' : TypeId} {V V' : World} {g : Nat} {cs : Array Value} {fr : Nat × Nat} (hk : TyK e' V V') (he : e ≠ e') (h : V.heap[g]? = some (.cells cs e fr)) : V'.heap[g]? = some (.cells cs e fr) :=
  (hk.block g (lt_block h) (fun ⟨cs', fr', h2⟩ => by rw [h] at h2; cases h2; exact he rfl)).trans h
theorem TyK.row {e e' : TypeId} {V V' : World} {B size n : Nat} {v : Value} {xs : List Value} (hk : TyK e' V V') (he : e ≠ e') (h : V.ownsRow B e size v n xs) : V'.ownsRow B e size v n xs := by
  refine Kept.row h hk ?_
  rintro k hk2 ⟨cs', fr', hkg⟩
  rcases h.2 with ⟨hn, _⟩ | ⟨g2, cap, cur, rfl, hg2, hh, rest⟩
  · subst hn
    cases hk2
  · cases hk2
    rw [hkg] at hh
    cases hh
    exact he rfl
theorem TyK.of_moved {e : TypeId} {V V' : World} {B size n : Nat} {v v' : Value} {xs : List Value} (hm : Moved v V v' V') (h : V.ownsRow B e size v n xs) : TyK e V V' :=
  hm.kept.mono (fun k hk h1 => by
    rcases h.2 with ⟨hn, _⟩ | ⟨g2, cap, cur, rfl, hg2, hh, rest⟩
    · subst hn
      cases h1
    · cases h1
      exact ⟨_, _, hh⟩)
theorem one_cellK (wx : World) (b i : Nat) (v : Value) : Kept (fun k => k = b) wx (wx.setCell ⟨b, i, none⟩ v) := (Kept.refl (fun k => k = b) wx).setCell (p := ⟨b, i, none⟩) (fun _ => rfl) v
/-- a signature's row -/
def sgF (on : List Lab) (tt tl now valid tg : Nat) (v s : Value) : Array Value := #[.int .u16 (tt : Int), .int .u8 253, .int .u8 (labels on), .int .u32 (tl : Int), .int .u32 (plus now valid), .int .u32 (now : Int), .int .u16 (tg : Int), v, s]
/-- a fresh signature's row -/
def sgR (on : List Lab) (tt tl now valid tg : Nat) (v : Value) : Array Value := #[.int .u16 (tt : Int), .int .u8 253, .int .u8 (labels on), .int .u32 (tl : Int), .int .u32 (plus now valid), .int .u32 (now : Int), .int .u16 (tg : Int), v, .slice none 0 0]
theorem base_sig (An : Option Addr) (on : List Lab) (cn tl : Nat) (D : Option Addr) (ds : List Blob) (tt now valid tg : Nat) (sg : List UInt8) (A5 A8 : Option Addr) (c5 c8 : Nat) (root : Lab) (KA AO : Option Addr) (cO : Nat) (hl : sg.length = 532) :
    (HArgs.base An on cn tl D ds tt now valid tg sg A5 A8 c5 c8 root KA AO cO).sig = sgF on tt tl now valid tg (.slice A5 1 c5) (.slice A8 532 c8) := by
  have h : plus (now : Int) (valid : Int) = ((min (now + valid) 4294967295 : Nat) : Int) := by unfold plus; omega
  unfold sgF
  rw [h]
  show #[Value.int .u16 (tt : Int), .int .u8 ((253 : Nat) : Int), .int .u8 (labels on : Int), .int .u32 (tl : Int), .int .u32 ((min (now + valid) 4294967295 : Nat) : Int), .int .u32 (now : Int), .int .u16 (tg : Int), .slice A5 1 c5, .slice A8 sg.length c8] = _
  rw [hl]
  rfl
theorem base_key (An : Option Addr) (on : List Lab) (cn tl : Nat) (D : Option Addr) (ds : List Blob) (tt now valid tg : Nat) (sg : List UInt8) (A5 A8 : Option Addr) (c5 c8 : Nat) (root : Lab) (KA AO : Option Addr) (cO : Nat) (hl : root.length = 8) :
    (HArgs.base An on cn tl D ds tt now valid tg sg A5 A8 c5 c8 root KA AO cO).keyR = #[.int .u16 256, .int .u8 3, .int .u8 253, .slice KA 8 8] := by
  show #[Value.int .u16 ((256 : Nat) : Int), .int .u8 ((3 : Nat) : Int), .int .u8 ((253 : Nat) : Int), .slice KA root.length 8] = _
  rw [hl]
  rfl
theorem frozen_row {w : World} {g : Nat} {cs : Array Value} {T : TypeId} (h : w.heap[g]? = some (.cells cs T (0, 0))) : ∀ i, w.frozen? ⟨g, i, none⟩ = false := fun i => by simp [World.frozen?, h]
set_option maxRecDepth 100000 in
theorem xor256 : ∀ n : Nat, n < 256 → bits .xor .u16 256 (n : Int) = ((256 + n : Nat) : Int) := by decide
set_option maxRecDepth 100000 in
theorem xor1 : ∀ n : Nat, n < 256 → bits .xor .u8 (n : Int) 1 = ((if n % 2 = 0 then n + 1 else n - 1 : Nat) : Int) := by decide
theorem sgR_v (on : List Lab) (tt tl now valid tg : Nat) (A : Option Addr) (c : Nat) : Value.agg (sgR on tt tl now valid tg (.slice A 1 c)) = (sgM on tt tl now valid tg).v A c none 0 := by
  have h : plus (now : Int) (valid : Int) = ((min (now + valid) 4294967295 : Nat) : Int) := by unfold plus; omega
  unfold sgR
  rw [h]
  rfl
theorem msgL_len {n : List Lab} {t : Nat} {g : SigM} (hgl : g.low.bytes.length ≤ 10000) (hwo : (wire (ownN n g.lb)).length ≤ 10000) {ys : List Lab} (hl : ys.length ≤ 20) (h2 : ∀ y ∈ ys, y.length ≤ 20000) : (msgL n t ys g).length ≤ 1000000 := by
  have h3 : (headO (ownN n g.lb) t g.ttl).length ≤ 10008 := by
    unfold headO
    simp [be2, be4]
    omega
  have h4 : ∀ l : List Lab, (∀ y ∈ l, y.length ≤ 20000) → (l.flatMap (fun y => headO (ownN n g.lb) t g.ttl ++ be2 y.length ++ y)).length ≤ l.length * 30010 := by
    intro l
    induction l with
    | nil => simp
    | cons a l ih =>
      intro h
      have h5 := ih (fun y hy => h y (List.mem_cons_of_mem _ hy))
      have h6 := h a List.mem_cons_self
      rw [List.flatMap_cons, List.length_append, List.length_cons, List.length_append, List.length_append]
      have h7 : (be2 a.length).length = 2 := rfl
      rw [h7]
      omega
  have h5 := h4 ys h2
  unfold msgL
  rw [List.length_append]
  omega
set_option maxRecDepth 100000 in
set_option maxHeartbeats 20000000 in
theorem Holds (r leaf now valid att which x : Nat) (hr : r < 4294967296) (hlf : leaf < 256) (hnow : now < 4294967296) (hval : valid < 4294967296) (hat : att < 4294967296) (hwh : which < 256) (hx : x < 256) (cs : Array Value) (seed : List UInt8) (Rs : W.Row8 cs seed) (w : World) (hk : W.ArrU w 1 100 W.ks0) :
    Calls Tryz.prog 3 #[.int .u32 (r : Int), .agg cs, .int .u8 (leaf : Int), .int .u32 (now : Int), .int .u32 (valid : Int), .int .u32 (att : Int), .int .u8 (which : Int), .int .u8 (x : Int)] w fun e w' => e = .returned (.bool true) ∧ Below w.heap.size w w' := by
  have hb1 : Below w.heap.size w (w.alloc (.cells cs 23)) := (Below.refl _ _).alloc (Nat.le_refl _) _
  have hsd := heap_alloc_new w (.cells cs 23)
  have hs1 : (w.alloc (.cells cs 23)).heap.size = w.heap.size + 1 := by simp
  have hk1 := hk.lt
  go_enter Tryz.func3, Tryz.ntmps3
  go_wp2_with fail
  generalize w.alloc (.cells cs 23) = W1 at *
  refine (Known W1).mono ?_
  rintro e W2 ⟨rfl, hb2⟩
  have hz2 := hb2.size
  have H2 := Lib.hid (And.intro ((hb2.block w.heap.size (by omega)).trans hsd) (hb1.trans (hb2.mono (by omega))))
  clear hsd hb1 hb2
  go_wp2_with fail
  refine (RecordG r hr (dataN (typeK (r / 256 % 256 % 10)) (r / 65536 % 256)) W2 (fun W hW => DataAll _ _ (Nat.mod_lt _ (by omega)) (Nat.mod_lt _ (by omega)) W)).mono ?_
  rintro e W3 ⟨v, rfl, hrec, hb3⟩
  obtain ⟨An, cn, Ad, cd, rfl, hon, hod⟩ := hrec
  have hgt : goodT (typeK (r / 256 % 256 % 10)) := by
    have : ∀ m, m < 10 → goodT (typeK m) := by unfold goodT; decide
    exact this _ (Nat.mod_lt _ (by omega))
  have hdl : (dataN (typeK (r / 256 % 256 % 10)) (r / 65536 % 256)).length ≤ 100 := len_all _ (Nat.mod_lt _ (by omega)) _ (Nat.mod_lt _ (by omega))
  have hos : Small (owner (r % 256)) := by
    have h : ∀ m, m < 13 → Small (ownL m ++ [exL]) := by unfold Small; decide
    exact h (r % 256 % 13) (Nat.mod_lt _ (by omega))
  have hlN : lightN (owner (r % 256)) = true := by
    have h : ∀ m, m < 13 → lightN (ownL m ++ [exL]) = true := by decide
    exact h (r % 256 % 13) (Nat.mod_lt _ (by omega))
  have hwi : within (owner (r % 256)) [exL] = true := by
    have h : ∀ m, m < 13 → within (ownL m ++ [exL]) [exL] = true := by decide
    exact h (r % 256 % 13) (Nat.mod_lt _ (by omega))
  have htl : ttlK r < 4294967296 := by
    have h : ∀ m, m < 4 → ttlN m < 4294967296 := by decide
    exact h _ (Nat.mod_lt _ (by omega))
  have hOC : on_len_cap An cn (owner (r % 256)).length := own_caps2 hon
  have hDC : on_len_cap Ad cd (dataN (typeK (r / 256 % 256 % 10)) (r / 65536 % 256)).length := own_caps2 hod
  have htn := TCs.of_own hon
  have htd := TCs.of_own hod
  generalize owner (r % 256) = on at *
  generalize dataN (typeK (r / 256 % 256 % 10)) (r / 65536 % 256) = dd at *
  generalize typeK (r / 256 % 256 % 10) = tt at *
  generalize ttlK r = tl at *
  have htt : tt < 65536 := by unfold goodT at hgt; omega
  obtain ⟨_, _, e1, _, hcn⟩ := Cs.of_own hon
  cases e1
  obtain ⟨_, _, e1, _, hcd⟩ := Cs.of_own hod
  cases e1
  generalize hwA : (((W3.alloc (.cells #[.slice An on.length cn, .int .u16 (tt : Int), .int .u16 1, .int .u32 (tl : Int), .slice Ad dd.length cd] 30)).alloc (.cells #[.int .u8 (x : Int)] 5)).alloc (.cells #[.slice Ad dd.length cd, .slice (some ⟨W3.heap.size + 1, 0, none⟩) 1 1] 28)).alloc (.cells #[.slice An on.length cn, .int .u16 (tt : Int), .int .u32 (tl : Int), .slice (some ⟨W3.heap.size + 1 + 1, 0, none⟩) 2 2] 34) = WA
  have hbA : Below W3.heap.size W3 WA := by rw [← hwA]; exact ((((Below.refl _ _).alloc (Nat.le_refl _) _).alloc (by simp) _).alloc (by simp; omega) _).alloc (by simp; omega) _
  have hzA : WA.heap.size = W3.heap.size + 4 := by rw [← hwA]; simp
  have hz3 := hb3.size
  have h2s := H2.out.2.size
  have hsdA : WA.heap[w.heap.size]? = some (.cells cs 23 (0, 0)) := (hbA.block _ (by omega)).trans ((hb3.block _ (by omega)).trans H2.out.1)
  have qS : WA.heap[W3.heap.size + 1 + 1 + 1]? = some (.cells #[.slice An on.length cn, .int .u16 (tt : Int), .int .u32 (tl : Int), .slice (some ⟨W3.heap.size + 1 + 1, 0, none⟩) 2 2] 34 (0, 0)) := by
    rw [← hwA]
    have := heap_alloc_new (((W3.alloc (.cells #[.slice An on.length cn, .int .u16 (tt : Int), .int .u16 1, .int .u32 (tl : Int), .slice Ad dd.length cd] 30)).alloc (.cells #[.int .u8 (x : Int)] 5)).alloc (.cells #[.slice Ad dd.length cd, .slice (some ⟨W3.heap.size + 1, 0, none⟩) 1 1] 28)) (.cells #[.slice An on.length cn, .int .u16 (tt : Int), .int .u32 (tl : Int), .slice (some ⟨W3.heap.size + 1 + 1, 0, none⟩) 2 2] 34)
    simpa using this
  have qD : WA.heap[W3.heap.size + 1 + 1]? = some (.cells #[.slice Ad dd.length cd, .slice (some ⟨W3.heap.size + 1, 0, none⟩) 1 1] 28 (0, 0)) := by
    rw [← hwA, Below.heap_alloc _ _ _ (by simp)]
    have := heap_alloc_new ((W3.alloc (.cells #[.slice An on.length cn, .int .u16 (tt : Int), .int .u16 1, .int .u32 (tl : Int), .slice Ad dd.length cd] 30)).alloc (.cells #[.int .u8 (x : Int)] 5)) (.cells #[.slice Ad dd.length cd, .slice (some ⟨W3.heap.size + 1, 0, none⟩) 1 1] 28)
    simpa using this
  have qX : WA.heap[W3.heap.size + 1]? = some (.cells #[.int .u8 (x : Int)] 5 (0, 0)) := by
    rw [← hwA, Below.heap_alloc _ _ _ (by simp), Below.heap_alloc _ _ _ (by simp)]
    have := heap_alloc_new (W3.alloc (.cells #[.slice An on.length cn, .int .u16 (tt : Int), .int .u16 1, .int .u32 (tl : Int), .slice Ad dd.length cd] 30)) (.cells #[.int .u8 (x : Int)] 5)
    simpa using this
  have hb0A : Below w.heap.size w WA := (H2.out.2.trans (hb3.mono h2s)).trans (hbA.mono (by omega))
  have HA := Lib.hid (And.intro qS (And.intro qD (And.intro qX (And.intro (hcn.below hbA) (And.intro (hcd.below hbA) hb0A)))))
  have HP := Lib.hid (And.intro hgt (And.intro hdl (And.intro hos (And.intro htl (And.intro hOC hDC)))))
  have HLN := Lib.hid hlN
  have HTY := Lib.hid (And.intro (htn.below hbA) (And.intro (htd.below hbA) hwi))
  clear qS qD qX hb0A hgt hdl hos htl hOC hDC hon hod hcn hcd hlN htn htd hwi
  go_wp2_with (first
    | (refine wpList_load_row rfl 23 (.tmp 9) rfl w.heap.size rfl 23 cs (0, 0) _ hsdA Tryz.underlying23 rfl Rs.info ?_))
  have HSD := Lib.hid hsdA
  clear hwA hsdA
  refine (W.NodesR cs seed Rs WA).mono ?_
  rintro e W4 ⟨aN, c, n0, c0, n1, c1, n2, c2, rfl, hcA, hn0, hn1, hn2, hb4⟩
  obtain ⟨bN, oN, eN, hbN, hN0⟩ := hcA 0 _ rfl
  obtain ⟨_, _, eN1, _, hN1⟩ := hcA 1 _ rfl
  obtain ⟨_, _, eN2, _, hN2⟩ := hcA 2 _ rfl
  cases eN
  cases eN1
  cases eN2
  have hz4 := hb4.size
  have r2 := W.nds_range hn2 (i := 0) (by omega)
  have R8 : W.Row8 ((W.node W.ks0 seed 2 0).map byteV).toArray (W.node W.ks0 seed 2 0) := ⟨rfl, W.node_len _ _ _ _⟩
  have hl8 : ((W.node W.ks0 seed 2 0).map byteV).length = 8 := by rw [List.length_map, W.node_len]
  have HN := Lib.hid (And.intro hn0 (And.intro hn1 (And.intro hN0 (And.intro hN1 (And.intro hbN hb4)))))
  clear hn0 hn1 hn2 hcA
  generalize hrt : W.node W.ks0 seed 2 0 = root at *
  have HRT := Lib.hid hrt
  clear hrt
  have hz : (W4.alloc (.cells W.z8 23)).heap[W4.heap.size]? = some (.cells W.z8 23 (0, 0)) := heap_alloc_new W4 _
  have hbz : Below W4.heap.size W4 (W4.alloc (.cells W.z8 23)) := (Below.refl _ _).alloc (Nat.le_refl _) _
  have hrb := setRow_heap (W4.alloc (.cells W.z8 23)) W4.heap.size _ (root.map byteV).toArray _ _ hz
  have hbr : Below W4.heap.size W4 ((W4.alloc (.cells W.z8 23)).setRow W4.heap.size (root.map byteV).toArray) := hbz.trans ⟨rfl, rfl, rfl, by simp, fun k hk => setRow_other (W4.alloc (.cells W.z8 23)) W4.heap.size k _ (by omega)⟩
  have hsz5 : ((W4.alloc (.cells W.z8 23)).setRow W4.heap.size (root.map byteV).toArray).heap.size = W4.heap.size + 1 := by simp
  have HX := Lib.hid (And.intro hz (And.intro hrb (And.intro hbr hsz5)))
  clear hz hbz hrb hbr hsz5
  go_wp2_with (first
    | (refine wpList_load_mid rfl 23 (.tmp 50) rfl n2 0 rfl (root.map byteV) (.array 8 5) r2 Tryz.underlying23 rfl (by rw [hl8]; exact W.hi8) ?_)
    | (refine wpList_store_row rfl 23 (.tmp 20) (.tmp 51) rfl W4.heap.size (root.map byteV).toArray rfl (by kernel_rfl) 23 W.z8 HX.out.1 R8.info R8.old R8.all ?_; change wpList _ _ _ _ _ ((W4.alloc (.cells W.z8 23)).setRow W4.heap.size (root.map byteV).toArray); have HV := Lib.hid HX.out.2; clear HX; generalize (W4.alloc (.cells W.z8 23)).setRow W4.heap.size (root.map byteV).toArray = W5 at *))
  have hwK : ∃ WK, WK = W5.alloc (.cells #[.int .u16 256, .int .u8 3, .int .u8 253, .slice (some ⟨W4.heap.size, 0, none⟩) 8 8] 39) := ⟨_, rfl⟩
  obtain ⟨WK, hWK⟩ := hwK
  rw [← hWK]
  have qK : WK.heap[W5.heap.size]? = some (.cells #[.int .u16 256, .int .u8 3, .int .u8 253, .slice (some ⟨W4.heap.size, 0, none⟩) 8 8] 39 (0, 0)) := by rw [hWK]; exact heap_alloc_new W5 _
  have hbK : Below W5.heap.size W5 WK := by rw [hWK]; exact (Below.refl _ _).alloc (Nat.le_refl _) _
  have hzK : WK.heap.size = W5.heap.size + 1 := by rw [hWK]; simp
  clear hWK
  have hz5 := HV.out.2.2
  have hb4K : Below W4.heap.size W4 WK := HV.out.2.1.trans (hbK.mono (by omega))
  have hbAK : Below WA.heap.size WA WK := HN.out.2.2.2.2.2.trans (hb4K.mono (by omega))
  have hb0K : Below w.heap.size w WK := HA.out.2.2.2.2.2.trans (hbAK.mono (by omega))
  have qS := (hbAK.block _ (by omega)).trans HA.out.1
  have qD := (hbAK.block _ (by omega)).trans HA.out.2.1
  have qX := (hbAK.block _ (by omega)).trans HA.out.2.2.1
  have qR : WK.heap[W4.heap.size]? = some (.cells (root.map byteV).toArray 23 (0, 0)) := (hbK.block _ (by omega)).trans HV.out.1
  have qSd : WK.heap[w.heap.size]? = some (.cells cs 23 (0, 0)) := by
    have h3 : WK.heap[w.heap.size]? = WA.heap[w.heap.size]? := hbAK.block _ (by omega)
    rw [h3]
    exact HSD.out
  have hcn := HA.out.2.2.2.1.below hbAK
  have hcd := HA.out.2.2.2.2.1.below hbAK
  have hcR : Cs WK (some ⟨W4.heap.size, 0, none⟩) (root.map byteV) := W.row8_cs R8 qR
  have hX1 : Blob.ok WK ⟨some ⟨W3.heap.size + 1, 0, none⟩, [UInt8.ofNat x], 1⟩ := fun j v hj => by
    rcases j with _ | j
    · refine ⟨_, _, rfl, lt_block qX, ?_⟩
      rw [cell_of_row _ _ _ _ _ _ qX]
      rw [show ([UInt8.ofNat x] : Lab).map byteV = [.int .u8 (x : Int)] from by rw [List.map_cons, byteV_lt hx]; rfl] at hj
      simpa using hj
    · simp at hj
  have hDs : Cs WK (some ⟨W3.heap.size + 1 + 1, 0, none⟩) ([(⟨Ad, dd, cd⟩ : Blob), ⟨some ⟨W3.heap.size + 1, 0, none⟩, [UInt8.ofNat x], 1⟩].map Blob.v) := fun j v hj => by
    refine ⟨_, _, rfl, lt_block qD, ?_⟩
    rw [Nat.zero_add, cell_of_row _ _ _ _ _ _ qD]
    simpa [Blob.v] using hj
  have hBl : Blobs WK [(⟨Ad, dd, cd⟩ : Blob), ⟨some ⟨W3.heap.size + 1, 0, none⟩, [UInt8.ofNat x], 1⟩] := fun b hb => by
    rcases List.mem_cons.1 hb with rfl | hb
    · exact hcd
    · rcases List.mem_cons.1 hb with rfl | hb
      · exact hX1
      · cases hb
  have hrl : root.length = 8 := by rw [← HRT.out]; exact W.node_len _ _ _ _
  have HKey : Hid (∀ V, Below WK.heap.size WK V → Calls Tryz.prog 9 #[.agg #[.int .u16 256, .int .u8 3, .int .u8 253, .slice (some ⟨W4.heap.size, 0, none⟩) 8 8]] V fun e w' => ∃ v, e = .returned v ∧ (bytesG (keyL 256 3 253 root)).p v w' ∧ Ext V w') := Lib.hid (fun V hV => by
    have h := RKeyB 256 3 253 root (by omega) (by omega) (by omega) (by omega) (some ⟨W4.heap.size, 0, none⟩) 8 V (hcR.below hV)
    unfold keyV at h
    rw [hrl] at h
    refine h.mono fun e w' h => ?_
    obtain ⟨v, h1, h2, h3⟩ := h
    exact ⟨v, h1, bytesG_own h2, h3⟩)
  have hkbl : (keyL 256 3 253 root).length ≤ 10000 := by simp [keyL, be2]; omega
  have HTag : Hid (∀ V A c, Cs V A ((keyL 256 3 253 root).map byteV) → Calls Tryz.prog 8 #[.slice A (keyL 256 3 253 root).length c] V fun e w' => e = .returned (.int .u16 (W.tagN (keyL 256 3 253 root) : Int)) ∧ w' = V) := Lib.hid (fun V A c h => W.RTag A c _ V h hkbl)
  have HFr : Hid (∀ V A c (tg : Nat), Below WK.heap.size WK V → Cs V A ([exL].map strV) → Calls Tryz.prog 7 #[.agg #[.slice An on.length cn, .int .u16 (tt : Int), .int .u32 (tl : Int), .slice (some ⟨W3.heap.size + 1 + 1, 0, none⟩) 2 2], .int .u32 (tl : Int), .int .u16 (tg : Int), .slice A 1 c, .int .u32 (now : Int), .int .u32 (valid : Int)] V fun e w' =>
      ∃ v, e = .returned (.agg (sgR on tt tl now valid tg v)) ∧ w'.ownsRow V.heap.size 9 1 v 1 ([exL].map strV) ∧ Below V.heap.size V w') := Lib.hid (fun V A c tg hV hA =>
    Fresh ⟨An, on, cn, tt, tl, some ⟨W3.heap.size + 1 + 1, 0, none⟩, [(⟨Ad, dd, cd⟩ : Blob), ⟨some ⟨W3.heap.size + 1, 0, none⟩, [UInt8.ofNat x], 1⟩], 2⟩ tl tg now valid A [exL] c V ⟨hcn.below hV, hDs.below hV, hBl.below hV⟩ HP.out.2.2.1.1 HP.out.2.2.2.2.1.1 HP.out.2.2.2.2.1.2.1 hA (by decide) (by omega) (by omega) (by omega) (by omega))
  have htds : ∀ d ∈ [(⟨Ad, dd, cd⟩ : Blob), ⟨some ⟨W3.heap.size + 1, 0, none⟩, [UInt8.ofNat x], 1⟩], TCs 5 WK d.A (d.l.map byteV) := fun d hd => by
    rcases List.mem_cons.1 hd with rfl | hd
    · exact HTY.out.2.1.below hbAK
    · rcases List.mem_cons.1 hd with rfl | hd
      · exact TCs.blk qX hX1
      · cases hd
  have HTC := Lib.hid (And.intro (HTY.out.1.below hbAK) (And.intro (TCs.blk qR hcR) (And.intro (TCs.blk qD hDs) htds)))
  obtain ⟨s0, s1, s2, s3⟩ := cells4K qS
  obtain ⟨k0, k1, k2, k3⟩ := cells4K qK
  have HK0 := Lib.hid (And.intro qS (And.intro qK (And.intro qSd (And.intro hb0K (And.intro hb4K (And.intro hcn (And.intro hcR (And.intro hDs hBl))))))))
  have hgS : W3.heap.size + 1 + 1 + 1 < WK.heap.size := by omega
  have hgK : W5.heap.size < WK.heap.size := by omega
  clear qS qD qX qR qSd hcn hcd hcR hX1 hDs hBl qK hb0K htds
  generalize htg : W.tagN (keyL 256 3 253 root) = tg at *
  generalize hkb : keyL 256 3 253 root = kb at *
  have HTG := Lib.hid (And.intro htg hkb)
  clear htg hkb
  refine wp_region_t bindD (fun _ h => bindD_binds h) (by kernel_rfl) (by kernel_rfl) (fun i j => i == 11 && (j == 10 || j == 4)) (by kernel_rfl)
    (fun i W W' => if i = 11 then ∃ g cs fr, W.heap[g]? = some (.cells cs 41 fr) ∧ WK.heap.size ≤ g ∧ Kept (fun k => k = g) W W' else Ext W W')
    (fun W => Below WK.heap.size WK W)
    (fun i vals W => match i with
      | 0 => vals 0 = .agg #[.slice An on.length cn, .int .u16 (tt : Int), .int .u32 (tl : Int), .slice (some ⟨W3.heap.size + 1 + 1, 0, none⟩) 2 2]
      | 1 => vals 1 = .pointer (some ⟨W3.heap.size + 1 + 1 + 1, 2, none⟩)
      | 2 => vals 2 = .int .u32 (tl : Int)
      | 3 => vals 3 = .agg #[.int .u16 256, .int .u8 3, .int .u8 253, .slice (some ⟨W4.heap.size, 0, none⟩) 8 8]
      | 4 => (bytesG kb).p (vals 4) W
      | 5 => vals 5 = .int .u16 (tg : Int)
      | 6 => W.ownsRow WK.heap.size 9 1 (vals 6) 1 ([exL].map strV)
      | 7 => vals 7 = .int .u32 (now : Int)
      | 8 => vals 8 = .int .u32 (valid : Int)
      | 9 => ∃ v, vals 9 = .agg (sgR on tt tl now valid tg v) ∧ W.ownsRow WK.heap.size 9 1 v 1 ([exL].map strV)
      | 10 => ∃ g cs, vals 10 = .pointer (some ⟨g, 0, none⟩) ∧ WK.heap.size ≤ g ∧ W.heap[g]? = some (.cells cs 41 (0, 0)) ∧ cs.size = 9
      | 11 => ∃ g v, vals 10 = .pointer (some ⟨g, 0, none⟩) ∧ WK.heap.size ≤ g ∧ W.heap[g]? = some (.cells (sgR on tt tl now valid tg v) 41 (0, 0)) ∧ W.ownsRow WK.heap.size 9 1 v 1 ([exL].map strV)
      | _ => True) ?_ (fun _ => True) (fun _ => false) trivial (fun _ _ _ _ _ _ _ => trivial) ?_ ?_ ?_ ?_ ?_
  · intro j vals i v W hij hw hR
    rcases j with _ | _ | _ | _ | _ | _ | _ | _ | _ | _ | _ | _ | j
    all_goals first
      | trivial
      | (simpa [hij, Ne.symm hij] using hR; done)
      | skip
    have h3 : ¬ 10 = i := fun h => by
      subst h
      exact absurd (hw.symm.trans (by kernel_rfl) : false = true) (by decide)
    simpa [h3] using hR
  · exact ⟨rfl, rfl, rfl, Nat.le_refl _, fun _ _ => rfl⟩
  · intro i W W' hC hT
    by_cases h4 : i = 11
    · simp only [h4, if_true] at hT
      obtain ⟨g, cs, fr, h1, h2, h3⟩ := hT
      exact hC.trans (h3.below hC.size (fun k hk h => by omega))
    · simp only [h4, if_false] at hT
      exact hC.trans (hT.mono hC.size)
  · intro i j vals W W' hij hk hw hC hR hT
    by_cases h4 : i = 11
    · subst h4
      simp only [if_true] at hT
      obtain ⟨g, cs, fr, h1, h2, h3⟩ := hT
      rcases j with _ | _ | _ | _ | _ | _ | _ | _ | _ | _ | _ | _ | j
      all_goals first
        | exact hR
        | (exact absurd rfl hij)
        | (cases hk; done)
        | exact own_kept_ty (by decide) hR h1 h3
        | (obtain ⟨v, h5, h6⟩ := hR; exact ⟨v, h5, own_kept_ty (by decide) h6 h1 h3⟩)
    · simp only [h4, if_false] at hT
      rcases j with _ | _ | _ | _ | _ | _ | _ | _ | _ | _ | _ | _ | j
      all_goals first
        | exact hR
        | exact (bytesG kb).st _ _ _ hT hR
        | exact own_below hR hT
        | (obtain ⟨v, h5, h6⟩ := hR; exact ⟨v, h5, own_below h6 hT⟩)
        | (obtain ⟨g, cs, h5, h6, h7, h8⟩ := hR; exact ⟨g, cs, h5, h6, (hT.block _ (lt_block h7)).trans h7, h8⟩)
        | (obtain ⟨g, v, h5, h6, h7, h8⟩ := hR; exact ⟨g, v, h5, h6, (hT.block _ (lt_block h7)).trans h7, own_below h8 hT⟩)
  · intro i o hio vals W hC haf _
    have e0 := (bcl (o := 0) hC hgS).trans s0
    have e1 := (bcl (o := 1) hC hgS).trans s1
    have e2 := (bcl (o := 2) hC hgS).trans s2
    have e3 := (bcl (o := 3) hC hgS).trans s3
    have f0 := (bcl (o := 0) hC hgK).trans k0
    have f1 := (bcl (o := 1) hC hgK).trans k1
    have f2 := (bcl (o := 2) hC hgK).trans k2
    have f3 := (bcl (o := 3) hC hgK).trans k3
    rcases i with _ | _ | _ | _ | _ | _ | _ | _ | _ | _ | _ | _ | i
    all_goals first
      | (exfalso; simp at hio; done)
      | skip
    all_goals
      simp at hio
      subst hio
      simp [bindD, rdB, Region.binds] at haf
    all_goals first
      | (simp [opYield_def, yieldUpon, relAct, dstAt, Act.put, Region.wanted, go_sem, haf, e0, e1, e2, e3, f0, f1, f2, f3, Ext.refl]; done)
      | skip
    · simp [opYield_def, yieldUpon, relAct, dstAt, Act.put, Region.wanted, go_sem, haf]
      refine (HKey.out W hC).mono fun e W' h => ?_
      obtain ⟨v, he, ho, hb⟩ := h
      exact ⟨v, he, hb, ho⟩
    · rw [bytesG_p] at haf
      obtain ⟨A5, c5, e5, hc5, _⟩ := haf
      simp [opYield_def, yieldUpon, relAct, dstAt, Act.put, Region.wanted, go_sem, e5]
      refine (HTag.out W A5 c5 hc5).mono fun e W' h => ?_
      rw [h.2]
      exact ⟨h.1, Ext.refl _⟩
    · simp [opYield_def, yieldUpon, relAct, dstAt, Act.put, Region.wanted, go_sem, haf]
      refine (Apex W).mono fun e W' h => ?_
      obtain ⟨v, he, ho, hb⟩ := h
      exact ⟨v, he, hb, own_base ho hC.size⟩
    · obtain ⟨h0, h2, h5, h6, h7, h8⟩ := haf
      obtain ⟨A5, c5, e5, _, hc5⟩ := Cs.of_own h6
      simp [opYield_def, yieldUpon, relAct, dstAt, Act.put, Region.wanted, go_sem, h0, h2, h5, e5, h7, h8]
      refine (HFr.out W A5 c5 tg hC hc5).mono fun e W' h => ?_
      obtain ⟨v, he, ho, hb⟩ := h
      exact ⟨_, he, hb, v, rfl, own_base ho hC.size⟩
    · simp [opYield_def, yieldUpon, relAct, dstAt, Act.put, Region.wanted, go_sem]
      exact ⟨(Below.refl _ _).alloc (Nat.le_refl _) _, hC.size, #[.int .u16 0, .int .u8 0, .int .u8 0, .int .u32 0, .int .u32 0, .int .u32 0, .int .u16 0, .slice none 0 0, .slice none 0 0], by simp only [World.alloc, Array.getElem_push_eq], rfl⟩
    · obtain ⟨h3, h2⟩ := haf
      obtain ⟨g, h5, h6, cs', h7, h8⟩ := h3
      obtain ⟨v, h9, h10⟩ := h2
      obtain ⟨A5, c5, rfl, _, hc5⟩ := Cs.of_own h10
      refine yield_store (g := g) (cells := sgR on tt tl now valid tg (.slice A5 1 c5)) rfl rfl (by simp [relAct, dstAt, Act.put, Act.eval, h5]) (by simp [relAct, dstAt, Act.put, Act.eval, h9]) h7 (by kernel_rfl) h8 (by simp [sgR, Value.oneCell']) ?_
      have hblk := setRow_block W g (sgR on tt tl now valid tg (.slice A5 1 c5)) cs' 41 (0, 0) h7
      have hgr := setRow_grown W g (sgR on tt tl now valid tg (.slice A5 1 c5))
      have hk : Kept (fun k => k = g) W (W.setRow g (sgR on tt tl now valid tg (.slice A5 1 c5))) := (Kept.of_grown hgr).mono (fun k _ h => by cases h; rfl)
      exact ⟨⟨g, cs', (0, 0), h7, h6, hk⟩, g, _, by simpa using h5, h6, hblk, own_kept_ty (by decide) h10 h7 hk⟩
  · intro vals U hC hR
    have h11 := hR 11 (by show 11 < 12; omega) (fun i _ => by simp)
    obtain ⟨g, v, h3, hgN, hgb, hov⟩ := h11
    simp [relAct, dstAt, Act.put]
    rw [h3]
    clear hR h3
    generalize vals 0 = v0 at *
    generalize vals 1 = v1 at *
    generalize vals 2 = v2 at *
    generalize vals 3 = v3 at *
    generalize vals 4 = v4 at *
    generalize vals 5 = v5 at *
    generalize vals 6 = v6 at *
    generalize vals 7 = v7 at *
    generalize vals 8 = v8 at *
    generalize vals 9 = v9 at *
    generalize vals 10 = v10 at *
    obtain ⟨A5, c5, rfl, _, hc5⟩ := Cs.of_own hov
    have HOV := Lib.hid hov
    clear s0 s1 s2 s3 k0 k1 k2 k3
    have HG := Lib.hid (And.intro hC (And.intro hgb (And.intro hgN hc5)))
    clear hC hgb hov hc5
    go_wp2_with fail
    obtain ⟨l4, hl4, hl4e⟩ : ∃ l4 : Nat, ((leaf : Int) % 4) = (l4 : Int) ∧ l4 = leaf % 4 := ⟨leaf % 4, by omega, rfl⟩
    have hl4lt : l4 < 4 := by omega
    rw [hl4]
    obtain ⟨ys, hys⟩ := strict_exists (([⟨Ad, dd, cd⟩, ⟨some ⟨W3.heap.size + 1, 0, none⟩, [UInt8.ofNat x], 1⟩] : List Blob).map fun d => canX tt d.l)
    have htgl : tg < 65536 := by rw [← HTG.out.1]; exact Nat.mod_lt _ (by omega)
    have hSE : Small [exL] := by unfold Small; decide
    have hlE : lightN [exL] = true := by decide
    have hfits : (sgM on tt tl now valid tg).fits := ⟨htt, by show 253 < 256; omega, by show labels on < 256; exact Nat.mod_lt _ (by omega), HP.out.2.2.2.1, by show min (now + valid) 4294967295 < 4294967296; omega, hnow, htgl, hSE, by show ([] : Lab).length ≤ 100000; simp⟩
    have hgl := low_bytes_len (sgM on tt tl now valid tg) hlE
    have hwo := ownN_len on (sgM on tt tl now valid tg).lb HLN.out
    have hcx : ∀ d ∈ ([⟨Ad, dd, cd⟩, ⟨some ⟨W3.heap.size + 1, 0, none⟩, [UInt8.ofNat x], 1⟩] : List Blob), d.l.length ≤ 100 ∧ d.l.length ≤ d.cap ∧ d.cap ≤ maxLen := by
      intro d hd
      rcases List.mem_cons.1 hd with rfl | hd
      · exact ⟨HP.out.2.1, HP.out.2.2.2.2.2.1, HP.out.2.2.2.2.2.2.1⟩
      · rcases List.mem_cons.1 hd with rfl | hd
        · exact ⟨by simp, by simp, by show (1 : Nat) ≤ maxLen; unfold maxLen; omega⟩
        · cases hd
    have hcx2 : ∀ d ∈ ([⟨Ad, dd, cd⟩, ⟨some ⟨W3.heap.size + 1, 0, none⟩, [UInt8.ofNat x], 1⟩] : List Blob), (canX tt d.l).length ≤ 20000 := fun d hd => by
      have h1 := canX_len tt d.l
      have h2 := hcx d hd
      omega
    have hml : (msgL on tt ys (sgM on tt tl now valid tg)).length ≤ 1000000 := by
      refine msgL_len hgl hwo ?_ ?_
      · have h1 := strict_len hys
        rw [List.length_map] at h1
        have h2 : ([⟨Ad, dd, cd⟩, ⟨some ⟨W3.heap.size + 1, 0, none⟩, [UInt8.ofNat x], 1⟩] : List Blob).length = 2 := rfl
        omega
      · intro y hy
        obtain ⟨d, hd, hdx⟩ := List.mem_map.1 ((hys.2 y).1 hy)
        rw [← hdx]
        exact hcx2 d hd
    have HMsg : Hid (∀ V, Below WK.heap.size WK V → Cs V A5 ([exL].map strV) → Calls Tryz.prog 13 #[.agg #[.slice An on.length cn, .int .u16 (tt : Int), .int .u32 (tl : Int), .slice (some ⟨W3.heap.size + 1 + 1, 0, none⟩) 2 2], .agg (sgR on tt tl now valid tg (.slice A5 1 c5))] V fun e w' =>
        ∃ v, e = .returned v ∧ w'.ownsRow V.heap.size 5 1 v (msgL on tt ys (sgM on tt tl now valid tg)).length ((msgL on tt ys (sgM on tt tl now valid tg)).map byteV) ∧ Below V.heap.size V w') := Lib.hid (fun V hV hA => by
      rw [sgR_v]
      refine (RMsg An (some ⟨W3.heap.size + 1 + 1, 0, none⟩) on cn 2 tt (tl : Int) [⟨Ad, dd, cd⟩, ⟨some ⟨W3.heap.size + 1, 0, none⟩, [UInt8.ofNat x], 1⟩] (sgM on tt tl now valid tg) A5 none c5 0 V HP.out.1 (HK0.out.2.2.2.2.2.1.below hV) HP.out.2.2.1 (HK0.out.2.2.2.2.2.2.2.1.below hV) (fun d hd => (HK0.out.2.2.2.2.2.2.2.2 d hd).below hV) (by simp) (fun d hd => by have := hcx d hd; omega) hcx2 hfits hA hgl hwo).mono ?_
      rintro e w' ⟨v, ys', he, hs', ho, hb⟩
      have hyy := strict_uniq hs' hys
      rw [hyy] at ho
      exact ⟨v, he, ho, hb⟩)
    have HSg : Hid (∀ V A c, Cs V A ((msgL on tt ys (sgM on tt tl now valid tg)).map byteV) → Calls Tryz.prog 12 #[.agg cs, .int .u32 (l4 : Int), .slice A (msgL on tt ys (sgM on tt tl now valid tg)).length c] V fun e w' => ∃ v, e = .returned v ∧ w'.ownsRow V.heap.size 5 1 v 512 ((W.sgn W.ks0 seed l4 (W.dig W.ks0 (msgL on tt ys (sgM on tt tl now valid tg))) 32).map byteV) ∧ Below V.heap.size V w') := Lib.hid (fun V A c h => W.SignR cs seed Rs l4 (by omega) A c _ V h hml)
    have hsgl : (W.sgn W.ks0 seed l4 (W.dig W.ks0 (msgL on tt ys (sgM on tt tl now valid tg))) 32).length = 512 := W.sgn_len _ _ _ _ 32
    have HYS := Lib.hid hys
    have HCX := Lib.hid (And.intro hcx hfits)
    clear hys hgl hwo hcx hcx2 hml hfits hSE hlE
    generalize hSG : W.sgn W.ks0 seed l4 (W.dig W.ks0 (msgL on tt ys (sgM on tt tl now valid tg))) 32 = SG at *
    generalize hMG : msgL on tt ys (sgM on tt tl now valid tg) = MG at *
    have HSGE := Lib.hid (And.intro hSG hMG)
    clear hSG hMG
    have hzW := HG.out.1.size
    obtain ⟨t0, t1, t2, t3⟩ := cells4K ((HG.out.1.block _ hgS).trans HK0.out.1)
    obtain ⟨g0, g1, g2, g3, g4, g5, g6, g7, g8, _⟩ := cells9 HG.out.2.1
    have hgW := lt_block HG.out.2.1
    have hsW := hgS
    have hseedW := (HG.out.1.block w.heap.size (by omega)).trans HK0.out.2.2.1
    refine wp_region_x (by kernel_rfl) (by kernel_rfl) U.heap.size (Nat.le_refl _) [.c (.is (.int .u32 (l4 : Int))), .c (.own U.heap.size 5 1 (0 + 4) (([] ++ be4 l4).map byteV)), .c (.is (.agg cs)), .c (.is (.int .u32 (l4 : Int))),
      .c (.is (.agg #[.slice An on.length cn, .int .u16 (tt : Int), .int .u32 (tl : Int), .slice (some ⟨W3.heap.size + 1 + 1, 0, none⟩) 2 2])), .c (.is (.agg (sgR on tt tl now valid tg (.slice A5 1 c5)))), .c (.own U.heap.size 5 1 MG.length (MG.map byteV)), .c (.own U.heap.size 5 1 512 (SG.map byteV)),
      .c (.own U.heap.size 5 1 516 ((be4 l4 ++ SG).map byteV)), .d [8] (fun vs => .is (vs 8))] (by kernel_rfl) (fun i => if i = 8 then 2 else 0) (fun j => if j = 1 ∨ j = 6 ∨ j = 7 ∨ j = 8 then 1 else 0) (by kernel_rfl) ?_ (fun _ => True) trivial (fun _ _ _ _ => trivial) (fun _ _ _ _ => trivial) ?_ ?_
    · intro j vals
      rcases j with _ | _ | _ | _ | _ | _ | _ | _ | _ | _ | j
      all_goals first
        | exact plain_is _
        | exact kind_own _ _ _ _ _ _ (Nat.le_refl _)
        | (rw [if_neg (by omega)]; exact plain_any)
    · intro i o hio vals V hE haf _
      have hEW : Below WK.heap.size WK V := HG.out.1.trans (hE.mono hzW)
      have e0 := (bcl (o := 0) hE (by omega)).trans t0
      have e1 := (bcl (o := 1) hE (by omega)).trans t1
      have e2 := (bcl (o := 2) hE (by omega)).trans t2
      have e3 := (bcl (o := 3) hE (by omega)).trans t3
      have f0 := (bcl (o := 0) hE hgW).trans g0
      have f1 := (bcl (o := 1) hE hgW).trans g1
      have f2 := (bcl (o := 2) hE hgW).trans g2
      have f3 := (bcl (o := 3) hE hgW).trans g3
      have f4 := (bcl (o := 4) hE hgW).trans g4
      have f5 := (bcl (o := 5) hE hgW).trans g5
      have f6 := (bcl (o := 6) hE hgW).trans g6
      have f7 := (bcl (o := 7) hE hgW).trans g7
      have f8 := (bcl (o := 8) hE hgW).trans g8
      rcases i with _ | _ | _ | _ | _ | _ | _ | _ | _ | _ | i
      all_goals first
        | (exfalso; simp at hio; done)
        | skip
      all_goals
        simp at hio
        subst hio
        simp [bindD, rdB, Region.binds, dfAt, DF.d_at] at haf
      all_goals first
        | (simp [opYield_def, yieldUpon, relAct, dstAt, Act.put, Region.wanted, go_sem, haf, e0, e1, e2, e3, Ext.refl, dfAt, DF.d_at, kindX]; done)
        | skip
      · simp [opYield_def, yieldUpon, relAct, dstAt, Act.put, Region.wanted, go_sem, haf, dfAt, DF.d_at, kindX]
        refine (RPut4 V.heap.size (.slice none 0 0) 0 [] l4 V (World.ownsRow_nil _ _ _ _) (Nat.le_refl _) (by omega) (by omega)).mono fun e V' h5 => ?_
        obtain ⟨v, he, ho, hm⟩ := h5
        exact ⟨v, he, hm.below (World.ownsRow_nil _ _ 5 1) (Nat.le_refl _), own_base ho hE.size⟩
      · refine W.yield_load_mid (d := .array 8 5) (b := w.heap.size) (off := 0) (cs := seed.map byteV) rfl rfl (by simp [relAct, dstAt, Act.put, Act.eval]) (csRange ((rowCs Rs hseedW).below hE)) Tryz.underlying23 rfl (by rw [List.length_map, Rs.len]; exact W.hi8) ?_
        rw [← Rs.eq]
        exact ⟨Ext.refl _, rfl⟩
      · simp [opYield_def, yieldUpon, relAct, dstAt, Act.put, Region.wanted, go_sem, haf, f0, f1, f2, f3, f4, f5, f6, f7, f8, Ext.refl, dfAt, DF.d_at, kindX, sgR]
      · obtain ⟨h4, h5⟩ := haf
        simp [opYield_def, yieldUpon, relAct, dstAt, Act.put, Region.wanted, go_sem, h4, h5, dfAt, DF.d_at, kindX]
        refine (HMsg.out V hEW (HG.out.2.2.2.below hE)).mono fun e V' h5 => ?_
        obtain ⟨v, he, ho, hb⟩ := h5
        exact ⟨v, he, hb, own_base ho hE.size⟩
      · obtain ⟨h2, h3, h6⟩ := haf
        obtain ⟨A6, c6, e6, _, hc6⟩ := Cs.of_own h6
        simp [opYield_def, yieldUpon, relAct, dstAt, Act.put, Region.wanted, go_sem, h2, h3, e6, dfAt, DF.d_at, kindX]
        refine (HSg.out V A6 c6 hc6).mono fun e V' h5 => ?_
        obtain ⟨v, he, ho, hb⟩ := h5
        exact ⟨v, he, hb, own_base ho hE.size⟩
      · obtain ⟨h1, h7⟩ := haf
        obtain ⟨A7, c7, e7, _, hc7⟩ := Cs.of_own h7
        refine yield_bytes rfl (.tmp 68) (.tmp 74) Tryz.underlying28 rfl (v := vals 1) (by simp [relAct, dstAt, Act.put, Act.eval]) h1 hE.size (us := SG.map byteV) (A := A7) (c := c7) (by rw [List.length_map, hsgl]; simp [relAct, dstAt, Act.put, Act.eval, e7]) hc7 (byteV_one SG) (by rw [List.length_map, hsgl]; omega) ?_
        intro v' V' q1 q2
        rw [List.length_map, hsgl] at q1
        refine ⟨q2, ?_⟩
        show V'.ownsRow U.heap.size 5 1 v' 516 ((be4 l4 ++ SG).map byteV)
        rw [List.map_append]
        simpa using q1
    · intro vals V hE hF
      have h8 := hF 8 (by show 8 < 10; omega) (by kernel_rfl)
      have h9 := hF 9 (by show 9 < 10; omega) (by kernel_rfl)
      simp only [dfAt, DF.d_at] at h8 h9
      have h8 : V.ownsRow U.heap.size 5 1 (vals 8) 516 ((be4 l4 ++ SG).map byteV) := h8
      have h9 : vals 9 = vals 8 := by simpa [DF.d_at] using h9
      simp [relAct, dstAt, Act.put]
      rw [h9]
      clear hF h9
      generalize vals 0 = v0 at *
      generalize vals 1 = v1 at *
      generalize vals 2 = v2 at *
      generalize vals 3 = v3 at *
      generalize vals 4 = v4 at *
      generalize vals 5 = v5 at *
      generalize vals 6 = v6 at *
      generalize vals 7 = v7 at *
      generalize vals 8 = v8 at *
      obtain ⟨AW, cW, rfl, hlW, hcW⟩ := Cs.of_own h8
      have hcapW := own_caps2 h8
      have hbUV := HG.out.1.trans (hE.mono hzW)
      have HV2 := Lib.hid (And.intro hbUV (And.intro (hE.block _ hgW |>.trans HG.out.2.1) (And.intro (HG.out.2.2.2.below hE) (And.intro hcW (And.intro hcapW (And.intro HG.out.2.2.1 (And.intro ((hE.block _ (by omega)).trans ((HG.out.1.block _ hgS).trans HK0.out.1)) h8)))))))
      have hVU : U.heap.size ≤ V.heap.size := hE.size
      have hbUVe : Ext U V := hE
      clear hE h8 hcW hcapW hbUV t0 t1 t2 t3 g0 g1 g2 g3 g4 g5 g6 g7 g8 hseedW hlW
      obtain ⟨m1, hm1, hx1, hm1e⟩ : ∃ m1 : Nat, m1 < 4 ∧ bits .xor .u32 (l4 : Int) 1 = (m1 : Int) ∧ m1 = l4 ^^^ 1 := by
        have : l4 = 0 ∨ l4 = 1 ∨ l4 = 2 ∨ l4 = 3 := by omega
        rcases this with e | e | e | e
        all_goals
          rw [e]
          exact ⟨_, by decide, rfl, rfl⟩
      obtain ⟨m2, hm2, hx2, hm2e⟩ : ∃ m2 : Nat, m2 < 2 ∧ bits .xor .u32 ((l4 / 2 : Nat) : Int) 1 = (m2 : Int) ∧ m2 = l4 / 2 ^^^ 1 := by
        have : l4 / 2 = 0 ∨ l4 / 2 = 1 := by omega
        rcases this with e | e
        all_goals
          rw [e]
          exact ⟨_, by decide, rfl, rfl⟩
      have HND : Hid (∀ X, Below V.heap.size V X → X.cell? ⟨bN, oN, none⟩ = some (.slice (some ⟨n0, 0, none⟩) 4 c0) ∧ X.cell? ⟨bN, oN + 1, none⟩ = some (.slice (some ⟨n1, 0, none⟩) 2 c1) ∧ X.rangeAt n0 (8 * m1) ((W.node W.ks0 seed 0 m1).map byteV) ∧ X.rangeAt n1 (8 * m2) ((W.node W.ks0 seed 1 m2).map byteV)) := Lib.hid (fun X hX => by
        have h4V : Below W4.heap.size W4 X := HK0.out.2.2.2.2.1.trans ((HV2.out.1.trans (hX.mono HV2.out.1.size)).mono HK0.out.2.2.2.2.1.size)
        obtain ⟨q0, q1, q2, q3, q4, q5⟩ := HN.out
        exact ⟨(h4V.cell (p := ⟨bN, oN + 0, none⟩) q4).trans q2, (h4V.cell (p := ⟨bN, oN + 1, none⟩) q4).trans q3, W.nds_range (q0.below h4V) hm1, W.nds_range (q1.below h4V) hm2⟩)
      have hna : ((W.node W.ks0 seed 0 m1).map byteV).length = 8 := by rw [List.length_map, W.node_len]
      have hnb : ((W.node W.ks0 seed 1 m2).map byteV).length = 8 := by rw [List.length_map, W.node_len]
      generalize hNA : W.node W.ks0 seed 0 m1 = na at *
      generalize hNB : W.node W.ks0 seed 1 m2 = nb at *
      have HNE := Lib.hid (And.intro hNA hNB)
      clear hNA hNB
      go_wp2_with fail
      refine wp_region_j (by kernel_rfl) (by kernel_rfl) (T8.J ⟨V, fun j => match j with
          | 0 => .slice (some ⟨bN, oN, none⟩) 3 c
          | 1 => .pointer (some ⟨bN, oN, none⟩)
          | 2 => .slice (some ⟨n0, 0, none⟩) 4 c0
          | 3 => .int .u32 (l4 : Int)
          | 4 => .int .u32 (m1 : Int)
          | 5 => .pointer (some ⟨n0, 8 * m1, none⟩)
          | 6 => .agg (na.map byteV).toArray
          | 7 => .slice (some ⟨bN, oN, none⟩) 3 c
          | 8 => .pointer (some ⟨bN, oN + 1, none⟩)
          | 9 => .slice (some ⟨n1, 0, none⟩) 2 c1
          | 10 => .int .u32 (l4 : Int)
          | 11 => .int .u32 ((l4 / 2 : Nat) : Int)
          | 12 => .int .u32 (m2 : Int)
          | 13 => .pointer (some ⟨n1, 8 * m2, none⟩)
          | 14 => .agg (nb.map byteV).toArray
          | _ => undef, (na.map byteV).toArray, (nb.map byteV).toArray⟩) ?_ ?_ ?_
      · exact ⟨(Below.refl _ V).drew, (fun j _ hj => by cases hj), (fun h => by cases h), (fun h => by cases h), (fun h => by cases h), (fun h => by cases h), (fun h => by cases h), (fun h => by cases h), (fun h => by cases h)⟩
      · intro i o hio L vals X hJ hL hdep
        have hC : Below V.heap.size V X := hJ.C
        obtain ⟨d0, d1, d2, d3⟩ := HND.out X hC
        have i1 : (0 : Int) ≤ (m1 : Int) ∧ (m1 : Int) < 4 := by omega
        have i2 : (0 : Int) ≤ (m2 : Int) ∧ (m2 : Int) < 2 := by omega
        have i3 : m1 * 8 = 8 * m1 := by omega
        have i4 : m2 * 8 = 8 * m2 := by omega
        have hx2' : bits .xor .u32 ((l4 : Int) / 2) 1 = (m2 : Int) := by rw [show ((l4 : Int) / 2) = ((l4 / 2 : Nat) : Int) by omega]; exact hx2
        rcases i with _ | _ | _ | _ | _ | _ | _ | _ | _ | _ | _ | _ | _ | _ | _ | _ | _ | _ | _ | i
        all_goals first
          | (exfalso; simp at hio; done)
          | skip
        all_goals
          simp at hio
          subst hio
          simp [Region.binds] at hdep
        · refine opYield_mono (fun v W' (h : W' = X ∧ v = _) => hJ.put (i := 0) (by rw [h.1]; exact Ext.refl _) (by omega) h.2) ?_
          simp [opYield_def, yieldUpon, relAct, dstAt, Act.put, Region.wanted, go_sem]
        · have h0 := hJ.f 0 (by omega) hdep
          refine opYield_mono (fun v W' (h : W' = X ∧ v = _) => hJ.put (i := 1) (by rw [h.1]; exact Ext.refl _) (by omega) h.2) ?_
          simp [opYield_def, yieldUpon, relAct, dstAt, Act.put, Region.wanted, go_sem, h0]
        · have h0 := hJ.f 1 (by omega) hdep
          refine opYield_mono (fun v W' (h : W' = X ∧ v = _) => hJ.put (i := 2) (by rw [h.1]; exact Ext.refl _) (by omega) h.2) ?_
          simp [opYield_def, yieldUpon, relAct, dstAt, Act.put, Region.wanted, go_sem, h0, d0]
        · refine opYield_mono (fun v W' (h : W' = X ∧ v = _) => hJ.put (i := 3) (by rw [h.1]; exact Ext.refl _) (by omega) h.2) ?_
          simp [opYield_def, yieldUpon, relAct, dstAt, Act.put, Region.wanted, go_sem]
        · have h0 := hJ.f 3 (by omega) hdep
          refine opYield_mono (fun v W' (h : W' = X ∧ v = _) => hJ.put (i := 4) (by rw [h.1]; exact Ext.refl _) (by omega) h.2) ?_
          simp [opYield_def, yieldUpon, relAct, dstAt, Act.put, Region.wanted, go_sem, h0, hx1]
        · have h0 := hJ.f 2 (by omega) hdep.1
          have h1 := hJ.f 4 (by omega) hdep.2
          refine opYield_mono (fun v W' (h : W' = X ∧ v = _) => hJ.put (i := 5) (by rw [h.1]; exact Ext.refl _) (by omega) h.2) ?_
          simp [opYield_def, yieldUpon, relAct, dstAt, Act.put, Region.wanted, go_sem, h0, h1, i1, i3]
        · have h0 := hJ.f 5 (by omega) hdep
          refine opYield_mono (fun v W' (h : W' = X ∧ v = _) => hJ.put (i := 6) (by rw [h.1]; exact Ext.refl _) (by omega) h.2) ?_
          exact W.yield_load_mid (d := .array 8 5) (b := n0) (off := 8 * m1) (cs := na.map byteV) rfl rfl (by simp [relAct, dstAt, Act.put, Act.eval, h0]) d2 Tryz.underlying23 rfl (by rw [hna]; exact W.hi8) ⟨rfl, rfl⟩
        · refine opYield_mono (fun v W' (h : W' = X ∧ v = _) => hJ.put (i := 7) (by rw [h.1]; exact Ext.refl _) (by omega) h.2) ?_
          simp [opYield_def, yieldUpon, relAct, dstAt, Act.put, Region.wanted, go_sem]
        · have h0 := hJ.f 7 (by omega) hdep
          refine opYield_mono (fun v W' (h : W' = X ∧ v = _) => hJ.put (i := 8) (by rw [h.1]; exact Ext.refl _) (by omega) h.2) ?_
          simp [opYield_def, yieldUpon, relAct, dstAt, Act.put, Region.wanted, go_sem, h0]
        · have h0 := hJ.f 8 (by omega) hdep
          refine opYield_mono (fun v W' (h : W' = X ∧ v = _) => hJ.put (i := 9) (by rw [h.1]; exact Ext.refl _) (by omega) h.2) ?_
          simp [opYield_def, yieldUpon, relAct, dstAt, Act.put, Region.wanted, go_sem, h0, d1]
        · refine opYield_mono (fun v W' (h : W' = X ∧ v = _) => hJ.put (i := 10) (by rw [h.1]; exact Ext.refl _) (by omega) h.2) ?_
          simp [opYield_def, yieldUpon, relAct, dstAt, Act.put, Region.wanted, go_sem]
        · have h0 := hJ.f 10 (by omega) hdep
          refine opYield_mono (fun v W' (h : W' = X ∧ v = _) => hJ.put (i := 11) (by rw [h.1]; exact Ext.refl _) (by omega) h.2) ?_
          simp [opYield_def, yieldUpon, relAct, dstAt, Act.put, Region.wanted, go_sem, h0]
        · have h0 := hJ.f 11 (by omega) hdep
          refine opYield_mono (fun v W' (h : W' = X ∧ v = _) => hJ.put (i := 12) (by rw [h.1]; exact Ext.refl _) (by omega) h.2) ?_
          simp [opYield_def, yieldUpon, relAct, dstAt, Act.put, Region.wanted, go_sem, h0, hx2']
        · have h0 := hJ.f 9 (by omega) hdep.1
          have h1 := hJ.f 12 (by omega) hdep.2
          refine opYield_mono (fun v W' (h : W' = X ∧ v = _) => hJ.put (i := 13) (by rw [h.1]; exact Ext.refl _) (by omega) h.2) ?_
          simp [opYield_def, yieldUpon, relAct, dstAt, Act.put, Region.wanted, go_sem, h0, h1, i2, i4]
        · have h0 := hJ.f 13 (by omega) hdep
          refine opYield_mono (fun v W' (h : W' = X ∧ v = _) => hJ.put (i := 14) (by rw [h.1]; exact Ext.refl _) (by omega) h.2) ?_
          exact W.yield_load_mid (d := .array 8 5) (b := n1) (off := 8 * m2) (cs := nb.map byteV) rfl rfl (by simp [relAct, dstAt, Act.put, Act.eval, h0]) d3 Tryz.underlying23 rfl (by rw [hnb]; exact W.hi8) ⟨rfl, rfl⟩
        · refine opYield_mono (fun v W' (h : v = .pointer (some ⟨X.heap.size, 0, none⟩) ∧ W' = X.alloc (.cells #[.int .u8 0, .int .u8 0, .int .u8 0, .int .u8 0, .int .u8 0, .int .u8 0, .int .u8 0, .int .u8 0] 23)) => by rw [h.1, h.2]; exact hJ.alloc15 hL _ rfl) ?_
          simp [opYield_def, yieldUpon, relAct, dstAt, Act.put, Region.wanted, go_sem]
        · refine opYield_mono (fun v W' (h : v = .pointer (some ⟨X.heap.size, 0, none⟩) ∧ W' = X.alloc (.cells #[.int .u8 0, .int .u8 0, .int .u8 0, .int .u8 0, .int .u8 0, .int .u8 0, .int .u8 0, .int .u8 0] 23)) => by rw [h.1, h.2]; exact hJ.alloc16 hL _ rfl) ?_
          simp [opYield_def, yieldUpon, relAct, dstAt, Act.put, Region.wanted, go_sem]
        · obtain ⟨l15, l6⟩ : L 15 = true ∧ L 6 = true := ⟨by simp [hdep], by simp [hdep]⟩
          have h0 := hJ.f 6 (by omega) l6
          obtain ⟨cs0, ⟨g1, hg1, hgs1, hgb1⟩, hcs0⟩ := hJ.f15 l15
          refine yield_store (g := g1) (cells := (na.map byteV).toArray) rfl rfl (by simp [relAct, dstAt, Act.put, Act.eval, hg1]) (by simp [relAct, dstAt, Act.put, Act.eval, h0]) hgb1 (by rw [List.size_toArray, hna]; exact W.hi8) (by simp [hcs0, hna]) (by simp [byteV, Value.oneCell']) ?_
          exact hJ.store17 l15 hL (by simp [hna]) hg1 hgs1 ((Kept.of_grown (setRow_grown X g1 _)).mono (fun k _ h => by cases h; rfl)) (setRow_block X g1 _ cs0 23 (0, 0) hgb1)
        · obtain ⟨l16, l14⟩ : L 16 = true ∧ L 14 = true := ⟨by simp [hdep], by simp [hdep]⟩
          have h0 := hJ.f 14 (by omega) l14
          obtain ⟨cs0, ⟨g1, hg1, hgs1, hgb1⟩, hcs0⟩ := hJ.f16 l16
          refine yield_store (g := g1) (cells := (nb.map byteV).toArray) rfl rfl (by simp [relAct, dstAt, Act.put, Act.eval, hg1]) (by simp [relAct, dstAt, Act.put, Act.eval, h0]) hgb1 (by rw [List.size_toArray, hnb]; exact W.hi8) (by simp [hcs0, hnb]) (by simp [byteV, Value.oneCell']) ?_
          exact hJ.store18 l16 (by simp [hnb]) hg1 hgs1 ((Kept.of_grown (setRow_grown X g1 _)).mono (fun k _ h => by cases h; rfl)) (setRow_block X g1 _ cs0 23 (0, 0) hgb1)
      · intro vals X hJ
        obtain ⟨ga, ea, hga, hba⟩ := hJ.f17 (by decide)
        obtain ⟨gb, eb, hgb, hbb⟩ := hJ.f18 (by decide)
        have hVX := hJ.C
        simp [relAct, dstAt, Act.put]
        rw [ea, eb]
        clear hJ ea eb
        generalize vals 0 = v0 at *
        generalize vals 1 = v1 at *
        generalize vals 2 = v2 at *
        generalize vals 3 = v3 at *
        generalize vals 4 = v4 at *
        generalize vals 5 = v5 at *
        generalize vals 6 = v6 at *
        generalize vals 7 = v7 at *
        generalize vals 8 = v8 at *
        generalize vals 9 = v9 at *
        generalize vals 10 = v10 at *
        generalize vals 11 = v11 at *
        generalize vals 12 = v12 at *
        generalize vals 13 = v13 at *
        generalize vals 14 = v14 at *
        have hVX : Below V.heap.size V X := hVX
        have hga : V.heap.size ≤ ga := hga
        have hgb : V.heap.size ≤ gb := hgb
        have hba : X.heap[ga]? = some (.cells (na.map byteV).toArray 23 (0, 0)) := hba
        have hbb : X.heap[gb]? = some (.cells (nb.map byteV).toArray 23 (0, 0)) := hbb
        have HX := Lib.hid (And.intro hVX (And.intro hga (And.intro hgb (And.intro hba hbb))))
        clear hVX hga hgb hba hbb
        go_wp2_with fail
        have hUW : WK.heap.size ≤ U.heap.size := hzW
        have hVX := HX.out.1
        have hUX : U.heap.size ≤ X.heap.size := Nat.le_trans hVU hVX.size
        have hrow := own_below HV2.out.2.2.2.2.2.2.2 hVX
        have hg0 := (hVX.block g (lt_block HV2.out.2.1)).trans HV2.out.2.1
        have hovX := own_below (own_below HOV.out hbUVe) hVX
        have hbX := HV2.out.1.trans (hVX.mono HV2.out.1.size)
        refine wp_region_t bindD (fun _ h => bindD_binds h) (by as_aux_lemma => kernel_rfl) (by as_aux_lemma => kernel_rfl) (fun i j => i == 4 && j == 2) (by as_aux_lemma => kernel_rfl)
          (fun i W W' => Below WK.heap.size W W' ∧ (if i = 6 then TyK 41 W W' ∧ ∃ s, W'.heap[g]? = some (.cells (sgF on tt tl now valid tg (.slice A5 1 c5) s) 41 (0, 0)) else if i = 2 ∨ i = 4 then TyK 5 W W' else Ext W W'))
          (fun W => Below WK.heap.size WK W ∧ U.heap.size ≤ W.heap.size ∧ W.heap[ga]? = some (.cells (na.map byteV).toArray 23 (0, 0)) ∧ W.heap[gb]? = some (.cells (nb.map byteV).toArray 23 (0, 0)) ∧ (∃ s, W.heap[g]? = some (.cells (sgF on tt tl now valid tg (.slice A5 1 c5) s) 41 (0, 0))) ∧ W.ownsRow WK.heap.size 9 1 (.slice A5 1 c5) 1 ([exL].map strV))
          (fun i vals W => match i with
            | 0 => vals 0 = .slice AW 516 cW
            | 1 => vals 1 = .slice (some ⟨ga, 0, none⟩) 8 8
            | 2 => W.ownsRow U.heap.size 5 1 (vals 2) (516 + 8) ((be4 l4 ++ SG).map byteV ++ na.map byteV)
            | 3 => vals 3 = .slice (some ⟨gb, 0, none⟩) 8 8
            | 4 => W.ownsRow U.heap.size 5 1 (vals 4) (516 + 8 + 8) ((be4 l4 ++ SG).map byteV ++ na.map byteV ++ nb.map byteV)
            | 5 => vals 5 = .pointer (some ⟨g, 8, none⟩)
            | 6 => W.ownsRow U.heap.size 5 1 (vals 4) (516 + 8 + 8) ((be4 l4 ++ SG).map byteV ++ na.map byteV ++ nb.map byteV) ∧ W.heap[g]? = some (.cells (sgF on tt tl now valid tg (.slice A5 1 c5) (vals 4)) 41 (0, 0))
            | _ => True) ?_ (fun W => W.ownsRow U.heap.size 5 1 (.slice AW 516 cW) 516 ((be4 l4 ++ SG).map byteV)) (fun i => i == 2 || i == 4) hrow ?_ ?_ ?_ ?_ ?_ ?_
        · as_aux_lemma =>
          intro j vals i v W hij hw hR
          rcases j with _ | _ | _ | _ | _ | _ | _ | j
          all_goals first
            | trivial
            | (simpa [hij, Ne.symm hij] using hR; done)
            | skip
          have h3 : ¬ 4 = i := fun h => by
            subst h
            exact absurd (hw.symm.trans (by kernel_rfl) : false = true) (by decide)
          simpa [h3] using hR
        · as_aux_lemma =>
          intro i W W' hk0 hC h1 hT
          have n2 : ¬ (i = 2 ∨ i = 4) := by rintro (rfl | rfl) <;> cases hk0
          obtain ⟨_, hT⟩ := hT
          by_cases h6 : i = 6
          · rw [if_pos h6] at hT
            exact hT.1.row (by decide) h1
          · rw [if_neg h6, if_neg n2] at hT
            exact own_below h1 hT
        · as_aux_lemma =>
          exact ⟨hbX.drew, hUX, HX.out.2.2.2.1, HX.out.2.2.2.2, ⟨_, hg0⟩, hovX⟩
        · as_aux_lemma =>
          intro i W W' hC hT
          obtain ⟨q0, q1, q2, q3, ⟨s, q4⟩, q5⟩ := hC
          obtain ⟨hb, hT⟩ := hT
          have hUW' : U.heap.size ≤ W'.heap.size := Nat.le_trans q1 hb.size
          by_cases h6 : i = 6
          · rw [if_pos h6] at hT
            exact ⟨q0.trans hb, hUW', hT.1.blk (by decide) q2, hT.1.blk (by decide) q3, hT.2, hT.1.row (by decide) q5⟩
          · rw [if_neg h6] at hT
            have hk : TyK 5 W W' := by
              by_cases h2 : i = 2 ∨ i = 4
              · rw [if_pos h2] at hT; exact hT
              · rw [if_neg h2] at hT; exact TyK.of_ext hT
            exact ⟨q0.trans hb, hUW', hk.blk (by decide) q2, hk.blk (by decide) q3, ⟨s, hk.blk (by decide) q4⟩, hk.row (by decide) q5⟩
        · as_aux_lemma =>
          intro i j vals W W' hij hk hw hC hR hT
          obtain ⟨hb, hT⟩ := hT
          have key : (j = 2 ∨ j = 4 ∨ j = 6) → i ≠ 2 ∧ i ≠ 4 := by
            rintro (rfl | rfl | rfl)
            · refine ⟨hij, fun h => ?_⟩
              subst h
              cases hk
            · refine ⟨fun h => ?_, hij⟩
              subst h
              exact absurd (hw.symm.trans (by kernel_rfl) : false = true) (by decide)
            · refine ⟨fun h => ?_, fun h => ?_⟩
              · subst h
                exact absurd (hw.symm.trans (by kernel_rfl) : false = true) (by decide)
              · subst h
                exact absurd (hw.symm.trans (by kernel_rfl) : false = true) (by decide)
          have row : (j = 2 ∨ j = 4 ∨ j = 6) → ∀ n v xs, W.ownsRow U.heap.size 5 1 v n xs → W'.ownsRow U.heap.size 5 1 v n xs := fun hj n v xs h => by
            have k := key hj
            by_cases h6 : i = 6
            · rw [if_pos h6] at hT
              exact hT.1.row (by decide) h
            · rw [if_neg h6, if_neg (by omega)] at hT
              exact own_below h hT
          rcases j with _ | _ | _ | _ | _ | _ | _ | j
          all_goals first
            | exact hR
            | exact row (by omega) _ _ _ hR
            | skip
          have k := key (by omega)
          rw [if_neg (Ne.symm (Ne.symm hij)), if_neg (by omega)] at hT
          exact ⟨own_below hR.1 hT, (Below.block hT g (lt_block hR.2)).trans hR.2⟩
        · intro i o hio vals Y hC haf hI0
          obtain ⟨q0, q1, q2, q3, ⟨s8, q4⟩, q5⟩ := hC
          rcases i with _ | _ | _ | _ | _ | _ | _ | i
          all_goals first
            | (exfalso; simp at hio; done)
            | skip
          all_goals
            simp at hio
            subst hio
            simp [bindD, rdB, Region.binds] at haf
          · as_aux_lemma =>
            simp [opYield_def, yieldUpon, relAct, dstAt, Act.put, Region.wanted, go_sem, Ext.refl]
            exact Below.refl _ _
          · as_aux_lemma =>
            simp [opYield_def, yieldUpon, relAct, dstAt, Act.put, Region.wanted, go_sem, Ext.refl]
            exact Below.refl _ _
          · as_aux_lemma =>
            obtain ⟨h0, h1⟩ := haf
            have hr := hI0 (by
              intro k hk hk2
              rcases k with _ | _ | _ | _ | _ | _ | _ | k
              all_goals first
                | (cases hk2; done)
                | exact .inl rfl
                | exact .inr (by kernel_rfl)
                | (exact absurd hk (by show ¬ _ < 7; omega)))
            have hcna : Cs Y (some ⟨ga, 0, none⟩) (na.map byteV) := rowCs ⟨rfl, by simpa using hna⟩ q2
            refine W.yield_bytesM rfl (.tmp 91) (.tmp 92) Tryz.underlying28 rfl (v := .slice AW 516 cW) (by simp [relAct, dstAt, Act.put, Act.eval, h0]) hr q1 (us := na.map byteV) (b := ⟨ga, 0, none⟩) (c := 8) (by rw [hna]; simp [relAct, dstAt, Act.put, Act.eval, h1]) hcna (byteV_one na) (by rw [hna]; omega) ?_
            intro v' V' p1 p2
            rw [hna] at p1
            exact ⟨⟨(p2.below hr q1).mono hUW, by rw [if_neg (by omega), if_pos (by omega)]; exact TyK.of_moved p2 hr⟩, p1⟩
          · as_aux_lemma =>
            simp [opYield_def, yieldUpon, relAct, dstAt, Act.put, Region.wanted, go_sem, Ext.refl]
            exact Below.refl _ _
          · as_aux_lemma =>
            obtain ⟨h0, h1⟩ := haf
            have hcnb : Cs Y (some ⟨gb, 0, none⟩) (nb.map byteV) := rowCs ⟨rfl, by simpa using hnb⟩ q3
            refine W.yield_bytesM rfl (.tmp 93) (.tmp 94) Tryz.underlying28 rfl (v := vals 2) (by simp [relAct, dstAt, Act.put, Act.eval]) h0 q1 (us := nb.map byteV) (b := ⟨gb, 0, none⟩) (c := 8) (by rw [hnb]; simp [relAct, dstAt, Act.put, Act.eval, h1]) hcnb (byteV_one nb) (by rw [hnb]; omega) ?_
            intro v' V' p1 p2
            rw [hnb] at p1
            exact ⟨⟨(p2.below h0 q1).mono hUW, by rw [if_neg (by omega), if_pos (by omega)]; exact TyK.of_moved p2 h0⟩, p1⟩
          · as_aux_lemma =>
            simp [opYield_def, yieldUpon, relAct, dstAt, Act.put, Region.wanted, go_sem, Ext.refl]
            exact Below.refl _ _
          · as_aux_lemma =>
            obtain ⟨h5, h4⟩ := haf
            obtain ⟨_, _, _, _, _, _, _, _, k8, kf⟩ := cells9 (show Y.heap[g]? = some (.cells #[.int .u16 (tt : Int), .int .u8 253, .int .u8 (labels on), .int .u32 (tl : Int), .int .u32 (plus now valid), .int .u32 (now : Int), .int .u16 (tg : Int), .slice A5 1 c5, s8] 41 (0, 0)) from q4)
            have hgY : WK.heap.size ≤ g := HG.out.2.2.1
            have hgU : g < U.heap.size := hgW
            have hk6 := one_cellK Y g 8 (vals 4)
            have hset := heap_setB (i := 8) (v := vals 4) q4
            have hrw := own_kept_ty (by decide) h4 q4 hk6
            have hty : TyK 41 Y (Y.setCell ⟨g, 8, none⟩ (vals 4)) := hk6.mono (fun k _ h => by cases h; exact ⟨_, _, q4⟩)
            have hbY : Below WK.heap.size Y (Y.setCell ⟨g, 8, none⟩ (vals 4)) := hk6.below q0.size (fun k hk2 h2 => by omega)
            obtain ⟨A8, c8, e8, _, _⟩ := Cs.of_own h4
            rw [e8] at hset hrw hty hbY
            simp [opYield_def, yieldUpon, relAct, dstAt, Act.put, Region.wanted, go_sem, e8, h5, k8, kf]
            exact ⟨⟨hbY, hty, _, hset⟩, hrw, hset⟩
        · intro vals Y hC hR
          obtain ⟨hrow12, hg12⟩ := hR 6 (by show 6 < 7; omega) (fun i _ => by simp)
          obtain ⟨q0, q1, _, _, _, q5⟩ := hC
          obtain ⟨A8, c8, e8, _, _⟩ := Cs.of_own hrow12
          rw [e8] at hrow12 hg12
          have HY := Lib.hid (And.intro q0 (And.intro q1 (And.intro hrow12 (And.intro hg12 q5))))
          simp [relAct, dstAt, Act.put]
          rw [e8]
          clear hrow12 hg12 q0 q1 q5 hR e8 HX hVX hUX hrow hg0 hovX hbX
          generalize vals 0 = v0 at *
          generalize vals 1 = v1 at *
          generalize vals 2 = v2 at *
          generalize vals 3 = v3 at *
          generalize vals 5 = v5 at *
          have hna8 : na.length = 8 := by rw [← List.length_map (f := byteV)]; exact hna
          have hnb8 : nb.length = 8 := by rw [← List.length_map (f := byteV)]; exact hnb
          have hsl8 : (be4 l4 ++ SG ++ na ++ nb).length = 532 := by
            rw [List.length_append, List.length_append, List.length_append, hsgl, hna8, hnb8]
            rfl
          go_wp2_with fail
          refine (Apex Y).mono ?_
          rintro e Y2 ⟨vO, rfl, hoO, hbO⟩
          obtain ⟨AO, cO, rfl, _, _⟩ := Cs.of_own hoO
          have hst : (HArgs.base An on cn tl (some ⟨W3.heap.size + 1 + 1, 0, none⟩) [⟨Ad, dd, cd⟩, ⟨some ⟨W3.heap.size + 1, 0, none⟩, [UInt8.ofNat x], 1⟩] tt now valid tg (be4 l4 ++ SG ++ na ++ nb) A5 A8 c5 c8 root (some ⟨W4.heap.size, 0, none⟩) AO cO).stand tt now att which (W3.heap.size + 1 + 1 + 1) g W5.heap.size w Y2 := by
            have hb2 : Below WK.heap.size WK Y2 := HY.out.1.trans (hbO.mono HY.out.1.size)
            have hwK : w.heap.size ≤ WK.heap.size := HK0.out.2.2.2.1.size
            have hgW2 : WK.heap.size ≤ g := HG.out.2.2.1
            have hcap8 := own_caps2 HY.out.2.2.1
            have f := HCX.out.2
            refine ⟨(hb2.block _ hgS).trans HK0.out.1, ?_, ?_, ?_, ?_, HK0.out.2.2.2.1.trans (hb2.mono hwK), ?_, ?_, ?_⟩
            · rw [base_sig _ _ _ _ _ _ _ _ _ _ _ _ _ _ _ _ _ _ _ hsl8]
              exact (hbO.block _ (lt_block HY.out.2.2.2.1)).trans HY.out.2.2.2.1
            · rw [base_key _ _ _ _ _ _ _ _ _ _ _ _ _ _ _ _ _ _ _ hrl]
              exact (hb2.block _ hgK).trans HK0.out.2.1
            · exact ⟨HP.out.1, HLN.out, HP.out.2.2.2.2.1.1, HP.out.2.2.2.2.1.2.1, by show 2 ≤ 20; omega, HCX.out.1, ⟨f.t, f.al, f.lb, f.ttl, f.ex, f.bg, f.tg, f.n, by show (be4 l4 ++ SG ++ na ++ nb).length ≤ _; rw [hsl8]; omega⟩, (by decide : lightN [exL] = true), hsl8, hcap8.1, by show 256 < 65536; omega, by show 3 < 256; omega, by show 253 < 256; omega, hrl, by show 8 ≤ 8; omega, (by unfold Small; decide : Small [exL])⟩
            · refine ⟨HTC.out.1.below hb2, HTC.out.2.2.1.below hb2, fun d hd => (HTC.out.2.2.2 d hd).below hb2, TCs.of_own (own_below HY.out.2.2.2.2 hbO), ?_, HTC.out.2.1.below hb2, TCs.of_own hoO⟩
              have h := TCs.of_own (own_below HY.out.2.2.1 hbO)
              rw [← List.map_append, ← List.map_append] at h
              exact h
            · intro _ ys' h'
              have hyy := strict_uniq h' HYS.out
              rw [hyy]
              exact verB_true on tt tl now valid tg att ys seed root SG na nb MG l4 hl4lt HRT.out (by rw [HTG.out.2]; exact HTG.out.1) HSGE.out.1 HSGE.out.2 (by rw [← hm1e]; exact HNE.out.1) (by rw [← hm2e]; exact HNE.out.2) HTY.out.2.2
            · exact ⟨by omega, by omega, by omega⟩
            · exact ⟨by omega, by omega, by omega⟩
          have HO8 := Lib.hid (own_below HY.out.2.2.1 hbO)
          obtain ⟨s0, s1, s2, s3⟩ := cells4K (show Y2.heap[W3.heap.size + 1 + 1 + 1]? = some (.cells #[.slice An on.length cn, .int .u16 (tt : Int), .int .u32 (tl : Int), .slice (some ⟨W3.heap.size + 1 + 1, 0, none⟩) 2 2] 34 (0, 0)) from hst.bS)
          obtain ⟨g0, g1, g2, g3, g4, g5, g6, g7, g8, fG⟩ := cells9 ((hbO.block _ (lt_block HY.out.2.2.2.1)).trans HY.out.2.2.2.1)
          obtain ⟨k0, k1, k2, k3⟩ := cells4K (show Y2.heap[W5.heap.size]? = some (.cells #[.int .u16 256, .int .u8 3, .int .u8 253, .slice (some ⟨W4.heap.size, 0, none⟩) root.length 8] 39 (0, 0)) from hst.bK)
          have fS := frozen_row hst.bS
          have fK := frozen_row hst.bK
          have HST := Lib.hid hst
          clear hst hoO hbO hs1 hzA hzK hz5
          dsimp only
          go_upto_block 0 with fail
          go_cut [27] from 28 (fun s27 wx => ∃ ar : HArgs, s27 = .slice ar.O ar.o.length ar.oc ∧ ar.stand tt now att which (W3.heap.size + 1 + 1 + 1) g W5.heap.size w wx)
          case first =>
            obtain ⟨wm, hwm⟩ : ∃ wm : Int, (which : Int) % 16 = wm := ⟨_, rfl⟩
            rw [hwm]
            have h16 : wm = 1 ∨ wm = 2 ∨ wm = 3 ∨ wm = 4 ∨ wm = 5 ∨ wm = 6 ∨ wm = 7 ∨ wm = 8 ∨ wm = 9 ∨ wm = 10 ∨ (wm ≠ 1 ∧ wm ≠ 2 ∧ wm ≠ 3 ∧ wm ≠ 4 ∧ wm ≠ 5 ∧ wm ≠ 6 ∧ wm ≠ 7 ∧ wm ≠ 8 ∧ wm ≠ 9 ∧ wm ≠ 10) := by omega
            rcases h16 with rfl | rfl | rfl | rfl | rfl | rfl | rfl | rfl | rfl | rfl | h16
            · as_aux_lemma =>
              go_wp2_with fail
              go_meet
              exact ⟨_, rfl, HST.out.a1 ((labels on + x) % 256) (by omega) (by congr 1 <;> omega) (by omega)⟩
            · as_aux_lemma =>
              go_wp2_with fail
              go_meet
              exact ⟨_, rfl, HST.out.a2 ((tl + x) % 4294967296) (by omega) (by congr 1 <;> omega) (by omega)⟩
            · as_aux_lemma =>
              go_wp2_with fail
              go_meet
              exact ⟨_, rfl, HST.out.a3 ((tl + x) % 4294967296) (by congr 1 <;> omega) (by omega)⟩
            · as_aux_lemma =>
              have hx4 := xor256 x hx
              go_wp2_with fail
              go_meet
              exact ⟨_, rfl, HST.out.a4 (256 + x) (by omega) (by congr 1 <;> omega) (by omega)⟩
            · as_aux_lemma =>
              go_wp2_with fail
              go_meet
              exact ⟨_, rfl, HST.out.a5 ((tg + x) % 65536) (by omega) (by congr 1 <;> omega) (by omega)⟩
            · as_aux_lemma =>
              go_wp2_with fail
              go_meet
              exact ⟨_, rfl, HST.out.a6 rfl rfl rfl (by omega)⟩
            · as_aux_lemma =>
              go_wp2_with fail
              go_meet
              exact ⟨_, rfl, HST.out.a7 (o' := [[111, 116, 104, 101, 114]]) ((Below.refl _ _).alloc (Nat.le_refl _) _) (TCs.of_own (own_row Y2 Y2.heap.size 9 ([([111, 116, 104, 101, 114] : Lab)].map strV) (Nat.le_refl _) (by simp))) (by unfold Small; decide) (by omega)⟩
            · as_aux_lemma =>
              rcases HO8.out.2 with ⟨h1, _⟩ | ⟨b8, cap8, cur8, h1, hb8lo, hb8, hn8, hm8, hs8, ht8⟩
              · cases h1
              · cases h1
                have hxl : x < (be4 l4 ++ SG ++ na ++ nb).length := by rw [hsl8]; omega
                obtain ⟨_, _, e9, _, hc9⟩ := HST.out.li.hSS.1 x (byteV ((be4 l4 ++ SG ++ na ++ nb)[x])) (by show ((be4 l4 ++ SG ++ na ++ nb).map byteV)[x]? = _; rw [List.getElem?_map, List.getElem?_eq_getElem hxl]; rfl)
                cases e9
                rw [Nat.zero_add] at hc9
                generalize hcb : (be4 l4 ++ SG ++ na ++ nb)[x] = cb at hc9
                have hc9 : Y2.cell? ⟨b8, x, none⟩ = some (.int .u8 (cb.toNat : Int)) := hc9
                have hx1 := xor1 cb.toNat cb.toNat_lt
                have f9 := frozen_row hb8 x
                have hxx : x < 532 := by omega
                have hrm : ((x : Int) % 532) = x := by omega
                have hrm2 : ((x : Int).tmod 532) = x := by rw [Int.tmod_eq_emod_of_nonneg (by omega)]; omega
                generalize hzz : (if cb.toNat % 2 = 0 then cb.toNat + 1 else cb.toNat - 1) = zz at hx1
                have hzl : zz < 256 := by have := cb.toNat_lt; rw [← hzz]; split <;> omega
                go_wp2_with fail
                have hwr : IntKind.wrap .i64 (x : Int) = x := by simp [IntKind.wrap, IntKind.signed, IntKind.bits]; omega
                have hxb : (0 : Int) ≤ (x : Int) ∧ (x : Int) < 532 := by omega
                have hbv := byteV_lt hzl
                have hwU : w.heap.size ≤ U.heap.size := Nat.le_trans HK0.out.2.2.2.1.size HG.out.1.size
                have hWU : WK.heap.size ≤ U.heap.size := HG.out.1.size
                refine wp_region_t bindD (fun _ h => bindD_binds h) (by as_aux_lemma => kernel_rfl) (by as_aux_lemma => kernel_rfl) (fun _ _ => false) (by as_aux_lemma => kernel_rfl)
                  (fun i Z Z' => (i ≠ 12 → Z' = Z) ∧ (i = 12 → Z' = Z.setCell ⟨b8, x, none⟩ (.int .u8 (zz : Int)))) (fun _ => True)
                  (fun i vals Z => match i with
                    | 0 => vals 0 = .pointer (some ⟨g, 8, none⟩)
                    | 1 => vals 1 = .slice (some ⟨b8, 0, none⟩) 532 c8
                    | 2 => vals 2 = .int .u8 (x : Int)
                    | 3 => vals 3 = .int .i64 (x : Int)
                    | 4 => vals 4 = .pointer (some ⟨g, 8, none⟩)
                    | 5 => vals 5 = .slice (some ⟨b8, 0, none⟩) 532 c8
                    | 6 => vals 6 = .int .i64 532
                    | 7 => vals 7 = .int .i64 (x : Int)
                    | 8 => vals 8 = .pointer (some ⟨b8, x, none⟩)
                    | 9 => vals 9 = .int .u8 (cb.toNat : Int)
                    | 10 => vals 10 = .int .u8 (zz : Int)
                    | 11 => vals 11 = .pointer (some ⟨b8, x, none⟩)
                    | 12 => Z = (World.drew Y2).setCell ⟨b8, x, none⟩ (.int .u8 (zz : Int))
                    | _ => True) ?_ (fun Z => Z = World.drew Y2) (fun i => i == 12) rfl ?_ trivial (fun _ _ _ _ _ => trivial) ?_ ?_ ?_
                · as_aux_lemma =>
                  intro j vals i v Z hij hw hR
                  rcases j with _ | _ | _ | _ | _ | _ | _ | _ | _ | _ | _ | _ | _ | j
                  all_goals first
                    | trivial
                    | (simpa [hij, Ne.symm hij] using hR; done)
                · as_aux_lemma =>
                  intro i Z Z' hk0 _ h1 hT
                  have h12 : i ≠ 12 := by
                    rintro rfl
                    cases hk0
                  rw [hT.1 h12]
                  exact h1
                · as_aux_lemma =>
                  intro i j v Z Z' hij _ hw _ hR hT
                  rcases j with _ | _ | _ | _ | _ | _ | _ | _ | _ | _ | _ | _ | _ | j
                  all_goals first
                    | exact hR
                    | (rw [hT.1 hij]; exact hR)
                · intro i o hio vals Z _ haf hI0
                  rcases i with _ | _ | _ | _ | _ | _ | _ | _ | _ | _ | _ | _ | _ | i
                  all_goals first
                    | (exfalso; simp at hio; done)
                    | skip
                  all_goals
                    as_aux_lemma =>
                    simp at hio
                    subst hio
                    simp [bindD, rdB, Region.binds] at haf
                    have hw := hI0 (by
                      intro k hk hk2
                      have hk3 : k = 12 := by simpa using hk2
                      subst hk3
                      first
                        | exact .inl rfl
                        | exact .inr (by kernel_rfl))
                    clear hI0
                    subst hw
                    simp [opYield_def, yieldUpon, relAct, dstAt, Act.put, Region.wanted, go_sem, haf, g8, hc9, f9, hrm, hrm2, hwr, hxb, hx1]
                · intro vals Z _ hR
                  have h12 : Z = (World.drew Y2).setCell ⟨b8, x, none⟩ (.int .u8 (zz : Int)) := hR 12 (by show 12 < 13; omega) (fun _ _ => rfl)
                  rw [← hbv] at h12
                  simp [relAct, dstAt, Act.put]
                  clear hR
                  generalize vals 0 = v0 at *
                  generalize vals 1 = v1 at *
                  generalize vals 2 = v2 at *
                  generalize vals 3 = v3 at *
                  generalize vals 4 = v4 at *
                  generalize vals 5 = v5 at *
                  generalize vals 6 = v6 at *
                  generalize vals 7 = v7 at *
                  generalize vals 8 = v8 at *
                  generalize vals 9 = v9 at *
                  generalize vals 10 = v10 at *
                  generalize vals 11 = v11 at *
                  have hfin : (HArgs.base An on cn tl (some ⟨W3.heap.size + 1 + 1, 0, none⟩) [⟨Ad, dd, cd⟩, ⟨some ⟨W3.heap.size + 1, 0, none⟩, [UInt8.ofNat x], 1⟩] tt now valid tg ((be4 l4 ++ SG ++ na ++ nb).set x (UInt8.ofNat zz)) A5 (some ⟨b8, 0, none⟩) c5 c8 root (some ⟨W4.heap.size, 0, none⟩) AO cO).stand tt now att which (W3.heap.size + 1 + 1 + 1) g W5.heap.size w Z := by
                    rw [h12]
                    exact (HST.out.ext (Below.refl _ Y2).drew).putB rfl hb8 (by omega) (by omega) (fun d hd p h1 h2 h3 => by
                      obtain ⟨cs', fr', h4⟩ := (HTC.out.2.2.2 d hd).2 p h1 h2
                      have := lt_block h4
                      omega) (by omega)
                  go_wp2_with fail
                  go_meet
                  exact ⟨_, rfl, hfin⟩
            · as_aux_lemma =>
              go_wp2_with fail
              refine (Owner x hx Y2).mono ?_
              rintro e Y3 ⟨vN, rfl, hoN, hbN3⟩
              obtain ⟨AN, cN, rfl, _, _⟩ := Cs.of_own hoN
              have hst3 := HST.out.ext hbN3
              have s03 := (bcl (o := 0) hbN3 (lt_block HST.out.bS)).trans s0
              have fS3 := frozen_row hst3.bS
              have HST3 := Lib.hid hst3
              have hcapN := own_caps2 hoN
              have hln3 : lightN (owner x) = true := by
                have h : ∀ m, m < 13 → lightN (ownL m ++ [exL]) = true := by decide
                exact h (x % 13) (Nat.mod_lt _ (by omega))
              have htn3 := TCs.of_own hoN
              clear hst3 hoN
              dsimp only
              go_wp2_with fail
              go_meet
              exact ⟨_, rfl, HST3.out.a9 htn3 hln3 hcapN.1 hcapN.2.1 rfl (by omega)⟩
            · as_aux_lemma =>
              go_wp2_with fail
              go_meet
              exact ⟨_, rfl, (HST.out.a10 x hx rfl (by omega)).a11 x hx rfl (by omega)⟩
            · as_aux_lemma =>
              obtain ⟨n1, n2, n3, n4, n5, n6, n7, n8, n9, n10⟩ := h16
              go_wp2_with fail
              go_meet
              exact ⟨_, rfl, HST.out⟩
          case rest =>
            obtain ⟨ar, hO27, hst⟩ := hcut
            subst hO27
            have hk6 : W.ArrU wc 1 100 W.ks0 := hk.keep (hst.be.block 1 hk1)
            obtain ⟨s0, s1, s2, s3⟩ := cells4K (show wc.heap[W3.heap.size + 1 + 1 + 1]? = some (.cells #[.slice ar.A ar.n.length ar.cap, .int .u16 (tt : Int), .int .u32 (ar.tl : Int), .slice ar.D ar.ds.length ar.dcap] 34 (0, 0)) from hst.bS)
            obtain ⟨g0, g1, g2, g3, g4, g5, g6, g7, g8, _⟩ := cells9 (show wc.heap[g]? = some (.cells #[.int .u16 ar.gm.t, .int .u8 ar.gm.al, .int .u8 ar.gm.lb, .int .u32 ar.gm.ttl, .int .u32 ar.gm.ex, .int .u32 ar.gm.bg, .int .u16 ar.gm.tg, .slice ar.SA ar.gm.n.length ar.sc, .slice ar.SS ar.gm.s.length ar.ssc] 41 (0, 0)) from hst.bG)
            obtain ⟨k0, k1, k2, k3⟩ := cells4K (show wc.heap[W5.heap.size]? = some (.cells #[.int .u16 (ar.fl : Int), .int .u8 (ar.pr : Int), .int .u8 (ar.al : Int), .slice ar.KA ar.key.length ar.kc] 39 (0, 0)) from hst.bK)
            obtain ⟨ys2, hys2⟩ := strict_exists (ar.ds.map fun d => canX tt d.l)
            have HST := Lib.hid (And.intro hst (And.intro hk6 hys2))
            clear hst hk6 hys2
            go_wp2_with fail
            refine (HArgs.can ar tt att wc HST.out.1.ok HST.out.1.li hat HST.out.2.1 ys2 HST.out.2.2).mono ?_
            rintro e w6 ⟨rfl, hb6⟩
            have hq : which % 16 = 0 → verB ar.n tt ar.gm ar.fl ar.pr ar.al ar.key ar.o att ys2 = (decide (now ≤ att) && decide (att ≤ ar.gm.ex)) := fun h => HST.out.1.q h ys2 HST.out.2.2
            have HRf : Hid (∀ V, Ext w6 V → Calls Tryz.prog 16 #[.agg #[.slice ar.A ar.n.length ar.cap, .int .u16 (tt : Int), .int .u32 (ar.tl : Int), .slice ar.D ar.ds.length ar.dcap], .agg #[.int .u16 ar.gm.t, .int .u8 ar.gm.al, .int .u8 ar.gm.lb, .int .u32 ar.gm.ttl, .int .u32 ar.gm.ex, .int .u32 ar.gm.bg, .int .u16 ar.gm.tg, .slice ar.SA ar.gm.n.length ar.sc, .slice ar.SS ar.gm.s.length ar.ssc], .agg #[.int .u16 (ar.fl : Int), .int .u8 (ar.pr : Int), .int .u8 (ar.al : Int), .slice ar.KA ar.key.length ar.kc], .slice ar.O ar.o.length ar.oc, .int .i64 2, .int .u32 (att : Int)] V fun e w' => e = .returned (.bool (verB ar.n tt ar.gm ar.fl ar.pr ar.al ar.key ar.o att ys2)) ∧ Ext V w') := Lib.hid (fun V hV => HArgs.ref ar tt att V HST.out.1.ok ((HST.out.1.li.below hb6).below hV) hat ys2 HST.out.2.2)
            generalize hvb : verB ar.n tt ar.gm ar.fl ar.pr ar.al ar.key ar.o att ys2 = vb at *
            have hbe6 := HST.out.1.be.trans (hb6.mono HST.out.1.be.size)
            have hlS := lt_block HST.out.1.bS
            have hlG := lt_block HST.out.1.bG
            have hlK := lt_block HST.out.1.bK
            replace s0 := (bcl (o := 0) hb6 hlS).trans s0
            replace s1 := (bcl (o := 1) hb6 hlS).trans s1
            replace s2 := (bcl (o := 2) hb6 hlS).trans s2
            replace s3 := (bcl (o := 3) hb6 hlS).trans s3
            replace g0 := (bcl (o := 0) hb6 hlG).trans g0
            replace g1 := (bcl (o := 1) hb6 hlG).trans g1
            replace g2 := (bcl (o := 2) hb6 hlG).trans g2
            replace g3 := (bcl (o := 3) hb6 hlG).trans g3
            replace g4 := (bcl (o := 4) hb6 hlG).trans g4
            replace g5 := (bcl (o := 5) hb6 hlG).trans g5
            replace g6 := (bcl (o := 6) hb6 hlG).trans g6
            replace g7 := (bcl (o := 7) hb6 hlG).trans g7
            replace g8 := (bcl (o := 8) hb6 hlG).trans g8
            replace k0 := (bcl (o := 0) hb6 hlK).trans k0
            replace k1 := (bcl (o := 1) hb6 hlK).trans k1
            replace k2 := (bcl (o := 2) hb6 hlK).trans k2
            replace k3 := (bcl (o := 3) hb6 hlK).trans k3
            replace hlS := Nat.lt_of_lt_of_le hlS hb6.size
            replace hlG := Nat.lt_of_lt_of_le hlG hb6.size
            replace hlK := Nat.lt_of_lt_of_le hlK hb6.size
            clear hb6
            dsimp only
            have leaf : ∀ V, Ext w6 V → Below w.heap.size w V := fun V hV => hbe6.trans (hV.mono hbe6.size)
            by_cases h0 : which % 16 = 0
            · have h0' : (which : Int) % 16 = 0 := by omega
              have hv := hq h0
              by_cases h1 : now ≤ att
              · have h1' : (now : Int) ≤ (att : Int) := by omega
                by_cases h2 : att ≤ ar.gm.ex
                · as_aux_lemma =>
                  have h2' : (att : Int) ≤ (ar.gm.ex : Int) := by omega
                  obtain rfl : vb = true := by rw [hv]; simp [h1, h2]
                  clear hv hq
                  go_wp2_with fail
                  refine (HRf.out w6 (Ext.refl _)).mono ?_
                  rintro e w7 ⟨rfl, hb7⟩
                  dsimp only
                  replace g4 := (bcl (o := 4) hb7 hlG).trans g4
                  go_wp2_with fail
                  go_ret
                  exact ⟨rfl, leaf _ hb7⟩
                · as_aux_lemma =>
                  have h2' : ¬ (att : Int) ≤ (ar.gm.ex : Int) := by omega
                  obtain rfl : vb = false := by rw [hv]; simp [h1, h2]
                  clear hv hq
                  go_wp2_with fail
                  refine (HRf.out w6 (Ext.refl _)).mono ?_
                  rintro e w7 ⟨rfl, hb7⟩
                  dsimp only
                  replace g4 := (bcl (o := 4) hb7 hlG).trans g4
                  go_wp2_with fail
                  go_ret
                  exact ⟨rfl, leaf _ hb7⟩
              · as_aux_lemma =>
                have h1' : ¬ (now : Int) ≤ (att : Int) := by omega
                obtain rfl : vb = false := by rw [hv]; simp [h1]
                clear hv hq
                go_wp2_with fail
                refine (HRf.out w6 (Ext.refl _)).mono ?_
                rintro e w7 ⟨rfl, hb7⟩
                dsimp only
                replace g4 := (bcl (o := 4) hb7 hlG).trans g4
                go_wp2_with fail
                go_ret
                exact ⟨rfl, leaf _ hb7⟩
            · have h0' : ¬ (which : Int) % 16 = 0 := by omega
              have h0b : ((which : Int) % 16 == 0) = false := by simpa using h0'
              have h0c : ((which : Int) % 16 != 0) = true := by simpa using h0'
              clear hq
              cases vb
              · as_aux_lemma =>
                go_wp2_with fail
                refine (HRf.out w6 (Ext.refl _)).mono ?_
                rintro e w7 ⟨rfl, hb7⟩
                dsimp only
                go_wp2_with fail
                go_ret
                exact ⟨rfl, leaf _ hb7⟩
              · as_aux_lemma =>
                go_wp2_with fail
                refine (HRf.out w6 (Ext.refl _)).mono ?_
                rintro e w7 ⟨rfl, hb7⟩
                dsimp only
                go_wp2_with fail
                go_ret
                exact ⟨rfl, leaf _ hb7⟩
end Nm
end Go.Proofs.YthogembgndkmpaaGreatDoor
