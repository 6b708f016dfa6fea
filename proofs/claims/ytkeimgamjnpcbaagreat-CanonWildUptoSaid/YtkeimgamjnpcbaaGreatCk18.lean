/-
  Texts merged by a program (WOrder).
-/
import Derived.Test.YtkeimgamjnpcbaaGreatCk13
import Derived.Test.YtkeimgamjnpcbaaGreatCk16
import Derived.Test.YtkeimgamjnpcbaaGreatCk17
set_option linter.unusedSimpArgs false
set_option linter.unusedVariables false
/- The walk of CanonOrder. -/
namespace Go.Proofs.YtkeimgamjnpcbaaGreat
open Go.RowKit
set_option linter.unusedVariables false
set_option linter.unusedSimpArgs false
namespace Nm
theorem lightS_parts {s : SetV} {sn : List Lab} (h : lightS s sn = true) : s.ds.length ≤ 10 ∧ lightN s.n = true ∧ lightN sn = true ∧ ∀ d ∈ s.ds, d.l.length ≤ 500 := by
  unfold lightS at h
  simp only [Bool.and_eq_true, decide_eq_true_eq, List.all_eq_true] at h
  exact ⟨h.1.1.1, h.1.1.2, h.1.2, h.2⟩
theorem cellsS {w : World} {g : Nat} {T : TypeId} {c0 c1 c2 c3 : Value} (h : w.heap[g]? = some (.cells #[c0, c1, c2, c3] T (0, 0))) :
    w.cell? ⟨g, 0, none⟩ = some c0 ∧ w.cell? ⟨g, 1, none⟩ = some c1 ∧ w.cell? ⟨g, 2, none⟩ = some c2 ∧ w.cell? ⟨g, 3, none⟩ = some c3 := by
  refine ⟨?_, ?_, ?_, ?_⟩ <;> (rw [cell_of_row w g _ _ _ _ h]; rfl)
/-- append of slices of bytes to nothing -/
theorem wpList_blobs {ops : Array Oper} {rest : List Oper} {o : Oper} {a : Act} {Q : Exit → Act → World → Prop} {w : World} {A : Option Addr} {ds : List Blob} {c : Nat} (hs2 : Cs w A (ds.map Blob.v)) (hgd : o.guard = none) (sl x : Operand) {t : TypeId} (ht : Tryz.prog.underlying t = some (.slice 31))
    (ho : o.op = .call { callee := .builtin .append, args := #[sl, x], argTypes := #[t, t] }) (hs : a.eval sl = .slice none 0 0) (hx : a.eval x = .slice A ds.length c) (hn : ds.length ≤ 1000)
    (h : ∀ v' w', w'.ownsRow w.heap.size 31 1 v' ds.length (ds.map Blob.v) → Below w.heap.size w w' → wpList Tryz.prog ops Q rest (a.put o.dst v') w') : wpList Tryz.prog ops Q (o :: rest) a w := by
  obtain ⟨i0, hi, hz0, hz1, hz2⟩ := info_parts info_bytesD
  have hnil : w.ownsRow w.heap.size 31 1 (.slice none 0 0) 0 [] := World.ownsRow_nil _ _ _ _
  cases A with
  | none =>
    have hsn : ds = [] := by simpa using hs2.none_nil
    subst hsn
    refine wpList_nothing hgd sl x t ho ht hi hs hnil hx ?_
    exact h _ w hnil (Below.refl _ _)
  | some b =>
    refine wpList_append_own w hgd sl x t ho w.heap.size 31 i0 _ 1 24 ht hi hz0 hz1 hz2 rfl (by decide) _ 0 [] hs hnil b ds.length c (ds.map Blob.v) hx (by simp) hs2.cells (fun u hu => by obtain ⟨y, _, rfl⟩ := List.mem_map.1 hu; rfl) (by unfold maxLen; omega) (by omega) (Nat.le_refl _) ?_
    intro v' w' h1 h2 _
    refine h v' w' (by simpa using h1) ((Below.refl _ _).grown h2 (Nat.le_refl _) (fun k hk => by cases hk))
theorem own_of_cells {w : World} {B g n cap : Nat} {T : TypeId} {cur : Array Value} {us : List Value} (hh : w.heap[g]? = some (.cells cur T (0, 0))) (hB : B ≤ g) (hn : n ≤ cap) (hc : cap ≤ maxLen) (hsz : cur.size = cap) (hl : us.length = n) (h : ∀ m u, us[m]? = some u → w.cell? ⟨g, m, none⟩ = some u) :
    w.ownsRow B T 1 (.slice (some ⟨g, 0, none⟩) n cap) n us := by
  refine ⟨by omega, .inr ⟨g, cap, cur, rfl, hB, hh, hn, hc, by omega, ?_⟩⟩
  apply List.ext_getElem?
  intro m
  rw [List.getElem?_take]
  by_cases hm : m < n * 1
  · rw [if_pos hm]
    have h1 := h m us[m] (List.getElem?_eq_getElem (by omega))
    rw [cell_of_row w g m _ _ _ hh] at h1
    rw [List.getElem?_eq_getElem (by omega : m < us.length), ← h1]
    simp
  · rw [if_neg hm, List.getElem?_eq_none (by omega)]
theorem own_parts {w : World} {B g n cap : Nat} {T : TypeId} {us : List Value} (h : w.ownsRow B T 1 (.slice (some ⟨g, 0, none⟩) n cap) n us) : ∃ cur, w.heap[g]? = some (.cells cur T (0, 0)) ∧ cur.size = cap ∧ cap ≤ maxLen ∧ n ≤ cap := by
  rcases h.2 with ⟨h1, _⟩ | ⟨g', cap', cur, h1, _, hh, hc1, hc2, hsz, _⟩
  · cases h1
  · cases h1
    exact ⟨cur, hh, by omega, hc2, hc1⟩
/-- a region that draws and writes nothing that was there, assigns or none -/
theorem wp_region_m2 {P : Program} {ops : Array Oper} {id : Nat} {Q : Exit → Act → World → Prop} {a0 : Act} {w0 : World} (hm : P.follows .mixedOrders = true) (hB : relB2 ops = true) (fs : List Fact)
    (step : ∀ i o, ops[i]? = some o → ∀ vals W, Ext w0 W → (∀ e ∈ o.after, bindD e = true → (factAt fs e.on).p (vals e.on) W) →
      opYield P ops o (relAct ops a0 (fun _ => true) vals i) W (fun v W' => Ext W W' ∧ (factAt fs i).p v W'))
    (hend : ∀ vals W, Ext w0 W → (∀ j, j < ops.size → (factAt fs j).p (vals j) W) → Q .normal (relAct ops a0 (fun _ => true) vals ops.size) W) :
    (Code.region id ops true).wp P Q a0 w0 :=
  wp_region_r2 hm hB (fun _ _ => false) (kills_none _ _) (fun _ W W' => Ext W W') (fun W => Ext w0 W) (fun j v W => (factAt fs j).p v W) (fun _ => True) (fun _ => false) trivial (fun _ _ _ _ _ _ _ => trivial)
    ⟨rfl, rfl, rfl, Nat.le_refl _, fun _ _ => rfl⟩ (fun i W W' h1 h2 => Ext.trans h1 h2) (fun i j v W W' _ _ _ _ h1 h2 => (factAt fs j).st v W W' h2 h1)
    (fun i o hio vals W hC haf _ => step i o hio vals W hC haf) (fun vals W hC hR => hend vals W hC (fun j hj => hR j hj (fun _ _ => rfl)))
theorem yield_blobs {ops : Array Oper} {o : Oper} {a : Act} {W : World} {R : Value → World → Prop} (hgd : o.guard = none) (sl x : Operand) {t : TypeId} (ht : Tryz.prog.underlying t = some (.slice 31))
    (ho : o.op = .call { callee := .builtin .append, args := #[sl, x], argTypes := #[t, t] }) {B : Nat} {v : Value} {n : Nat} {xs us : List Value} (hs : a.eval sl = v) (hown : W.ownsRow B 31 1 v n xs) (hB : B ≤ W.heap.size)
    {b : Addr} {c : Nat} (hx : a.eval x = .slice (some b) us.length c) (hcs : Cs W (some b) us) (h1 : ∀ u ∈ us, u.oneCell' = true) (hn : n + us.length ≤ 1000000)
    (h : ∀ v' W', W'.ownsRow B 31 1 v' (n + us.length) (xs ++ us) → Moved v W v' W' → R v' W') : opYield Tryz.prog ops o a W R := by
  obtain ⟨i0, hi, hz0, hz1, hz2⟩ := info_parts info_bytesD
  have hw : Region.wanted o (yielded ops a.tmps) = true := by simp [Region.wanted, hgd]
  rw [opYield_def, if_pos hw]
  obtain ⟨v', W', hr, h2, h3, _, h5⟩ := run_append_own_at (P := Tryz.prog) W B t o.type 31 i0 _ 1 24 ht hi hz0 hz1 hz2 rfl (by decide) v n xs hown b us.length c us (by simp) hcs.cells h1 (by unfold maxLen; omega) (by omega) hB
  unfold execOp
  simp only [ho, resolve, invoke, builtin, Sem.run_bind, Sem.run_pure, Result.andThen_ok, List.map_toArray, List.map_cons, List.map_nil, hs, hx, hr]
  refine h v' W' h2 ⟨Kept.of_grown h3, fun k hk => ?_⟩
  rcases h5 with h5 | h5
  · exact .inl (h5 ▸ hk)
  · rw [h5] at hk
    cases hk
    exact .inr (Nat.le_refl _)
/-- two places turned about -/
def swapB (ds : List Blob) (i k : Nat) (di dk : Blob) : List Blob := (ds.set i dk).set k di
theorem swap_len (ds : List Blob) (i k : Nat) (di dk : Blob) : (swapB ds i k di dk).length = ds.length := by simp [swapB]
theorem swap_mem {ds : List Blob} {i k : Nat} {di dk : Blob} (hi : ds[i]? = some di) (hk : ds[k]? = some dk) (x : Blob) : x ∈ swapB ds i k di dk ↔ x ∈ ds := by
  have hil := (List.getElem?_eq_some_iff.1 hi).1
  have hkl := (List.getElem?_eq_some_iff.1 hk).1
  unfold swapB
  constructor
  · intro h
    rcases List.mem_or_eq_of_mem_set h with h | h
    · rcases List.mem_or_eq_of_mem_set h with h | h
      · exact h
      · rw [h]; exact List.mem_of_getElem? hk
    · rw [h]; exact List.mem_of_getElem? hi
  · intro h
    obtain ⟨m, hm⟩ := List.mem_iff_getElem?.1 h
    have hml := (List.getElem?_eq_some_iff.1 hm).1
    by_cases h1 : m = i
    · subst h1
      rw [hi] at hm
      cases hm
      exact List.mem_iff_getElem?.2 ⟨k, by rw [List.getElem?_set]; simp [hkl]⟩
    · by_cases h2 : m = k
      · subst h2
        rw [hk] at hm
        cases hm
        refine List.mem_iff_getElem?.2 ⟨i, ?_⟩
        rw [List.getElem?_set, if_neg (fun e => h1 e), List.getElem?_set, if_pos rfl, if_pos hil]
      · refine List.mem_iff_getElem?.2 ⟨m, ?_⟩
        rw [List.getElem?_set, if_neg (fun e => h2 e.symm), List.getElem?_set, if_neg (fun e => h1 e.symm)]
        exact hm
theorem swap_at {ds : List Blob} {i k : Nat} {di dk : Blob} (hi : ds[i]? = some di) (hk : ds[k]? = some dk) (m : Nat) (b : Blob) (h : (swapB ds i k di dk)[m]? = some b) : (m = k ∧ b = di) ∨ (m = i ∧ m ≠ k ∧ b = dk) ∨ (m ≠ i ∧ m ≠ k ∧ ds[m]? = some b) := by
  have hil := (List.getElem?_eq_some_iff.1 hi).1
  have hkl := (List.getElem?_eq_some_iff.1 hk).1
  unfold swapB at h
  rw [List.getElem?_set] at h
  split at h
  · rename_i e
    have h : some di = some b := by first | exact h | (rw [if_pos (by simpa using hkl)] at h; exact h)
    cases h
    exact .inl ⟨e.symm, rfl⟩
  · rename_i e
    rw [List.getElem?_set] at h
    split at h
    · rename_i e2
      have h : some dk = some b := by first | exact h | (rw [if_pos hil] at h; exact h)
      cases h
      exact .inr (.inl ⟨e2.symm, fun h => e h.symm, rfl⟩)
    · rename_i e2
      exact .inr (.inr ⟨fun h => e2 h.symm, fun h => e h.symm, h⟩)
/-- what is signed of a set whose data are these -/
def msgF (B : Nat) (n : List Lab) (T : Nat) (L : List Lab) (g : SigM) : Fact := ⟨fun v W => ∃ ys, Told L ys ∧ W.ownsRow B 5 1 v (msgL n T ys g).length ((msgL n T ys g).map byteV), by
  intro v W W' hE h
  obtain ⟨ys, h1, h2⟩ := h
  exact ⟨ys, h1, own_below h2 hE⟩⟩
theorem msg_p (B : Nat) (n : List Lab) (T : Nat) (L : List Lab) (g : SigM) (v : Value) (W : World) : (msgF B n T L g).p v W = ∃ ys, Told L ys ∧ W.ownsRow B 5 1 v (msgL n T ys g).length ((msgL n T ys g).map byteV) := rfl
def placeF (n : Nat) : Fact := ⟨fun v _ => ∃ j : Nat, v = .int .i64 j ∧ j < n, fun _ _ _ _ h => h⟩
theorem place_p (n : Nat) (v : Value) (W : World) : (placeF n).p v W = ∃ j : Nat, v = .int .i64 j ∧ j < n := rfl
set_option maxRecDepth 100000 in
set_option maxHeartbeats 20000000 in
theorem WOrder (s : SetV) (T : Nat) (hsT : s.t = T) (hT : T < 65536) (g : SigM) (SA SS : Option Addr) (sc ssc : Nat) (i0 k0 : Int) (w : World) (hs : s.ok w) (hSA : Cs w SA (g.n.map strV)) (hgs : g.small) (hl1 : s.n.length ≤ maxLen) (hl2 : ∀ l ∈ s.n, l.length ≤ maxLen) (hl3 : g.n.length ≤ maxLen) (hl4 : ∀ l ∈ g.n, l.length ≤ maxLen)
    (hl5 : ∀ d ∈ s.ds, d.l.length ≤ d.cap ∧ d.cap ≤ maxLen) (hl6 : s.ds.length ≤ maxLen) (hl7 : g.s.length ≤ maxLen) (hi1 : -9223372036854775808 ≤ i0) (hi2 : i0 ≤ 9223372036854775807) (hk1 : -9223372036854775808 ≤ k0) (hk2 : k0 ≤ 9223372036854775807) :
    Calls Tryz.prog 4 #[s.v, g.v SA sc SS ssc, .int .i64 i0, .int .i64 k0] w fun e w' =>
      e = .returned (.bool true) ∧ Below w.heap.size w w' := by
  obtain ⟨z0, hzi, hzz0, hzz1, hzz2⟩ := info_parts info_bytesD
  generalize hw2 : (w.alloc (.cells #[.slice s.A s.n.length s.cap, .int .u16 s.t, .int .u32 s.ttl, .slice s.D s.ds.length s.dcap] 28)).alloc (.cells #[.int .u16 g.t, .int .u8 g.al, .int .u8 g.lb, .int .u32 g.ttl, .int .u32 g.ex, .int .u32 g.bg, .int .u16 g.tg, .slice SA g.n.length sc, .slice SS g.s.length ssc] 33) = w2
  have hb2 : Below w.heap.size w w2 := by rw [← hw2]; exact ((Below.refl _ _).alloc (Nat.le_refl _) _).alloc (by simp) _
  have hsz2 : w2.heap.size = w.heap.size + 2 := by rw [← hw2]; simp
  have hq : w2.heap[w.heap.size]? = some (.cells #[.slice s.A s.n.length s.cap, .int .u16 s.t, .int .u32 s.ttl, .slice s.D s.ds.length s.dcap] 28 (0, 0)) := by
    rw [← hw2]
    have := heap_alloc_new w (.cells #[.slice s.A s.n.length s.cap, .int .u16 s.t, .int .u32 s.ttl, .slice s.D s.ds.length s.dcap] 28)
    rw [Below.heap_alloc _ _ _ (by simp)]
    exact this
  have hgq : w2.heap[w.heap.size + 1]? = some (.cells #[.int .u16 g.t, .int .u8 g.al, .int .u8 g.lb, .int .u32 g.ttl, .int .u32 g.ex, .int .u32 g.bg, .int .u16 g.tg, .slice SA g.n.length sc, .slice SS g.s.length ssc] 33 (0, 0)) := by
    have := heap_alloc_new (w.alloc (.cells #[.slice s.A s.n.length s.cap, .int .u16 s.t, .int .u32 s.ttl, .slice s.D s.ds.length s.dcap] 28)) (.cells #[.int .u16 g.t, .int .u8 g.al, .int .u8 g.lb, .int .u32 g.ttl, .int .u32 g.ex, .int .u32 g.bg, .int .u16 g.tg, .slice SA g.n.length sc, .slice SS g.s.length ssc] 33)
    rw [World.size_alloc] at this
    rw [← hw2]; exact this
  have HS := Lib.hid (SetV.ok.below hs hb2)
  have HSA := Lib.hid (hSA.below hb2)
  have HQ := Lib.hid hq
  have HGQ := Lib.hid hgq
  have HLL := Lib.hid (fun W hW => LightG g.t g.al g.lb g.ttl g.ex g.bg g.tg SS g.s.length ssc s SA g.n sc W (SetV.ok.below (w := w2) HS.out hW) (Cs.below (w := w2) HSA.out hW) hl1 hl2 hl3 hl4 (fun d hd => Nat.le_trans (hl5 d hd).1 (hl5 d hd).2) hl6)
  have H5 := Lib.hid hl5
  have HT := Lib.hid hsT
  have HGS := Lib.hid hgs
  unfold SetV.v at HLL
  unfold SetV.v SigM.v
  clear hl1 hl2 hl3 hl4 hl5 hs hSA hq hgq hgs hsT
  go_enter Tryz.func4, Tryz.ntmps4
  go_wp2_with fail
  refine (Known w2).mono ?_
  rintro e w3 ⟨rfl, hb3⟩
  clear hw2
  have hq3 := (hb3.block _ (show w.heap.size < w2.heap.size by omega)).trans HQ.out
  have hg3 := (hb3.block _ (show w.heap.size + 1 < w2.heap.size by omega)).trans HGQ.out
  obtain ⟨s0, s1, s2, s3⟩ := cellsS hq3
  obtain ⟨k0', k1', k2', k3', k4', k5', k6', k7', k8', _⟩ := cells9 hg3
  clear hq3 hg3
  go_wp2_with fail
  refine (HLL.out w3 hb3).mono ?_
  rintro e w4 ⟨rfl, hb4⟩
  have hb34 := hb3.trans (hb4.mono hb3.size)
  have hz34 := hb34.size
  clear s0 s1 s2 s3 k0' k1' k2' k3' k4' k5' k6' k7' k8'
  cases hli : (lightS s g.n && decide (g.s.length ≤ 1000)) with
  | false =>
    clear HLL
    have hbF := hb2.trans (hb34.mono (by omega))
    go_wp2_with fail
    go_ret
    exact ⟨rfl, hbF⟩
  | true =>
    simp only [Bool.and_eq_true, decide_eq_true_eq] at hli
    obtain ⟨hd10, hln, hlg, hd500⟩ := lightS_parts hli.1
    have hgsl := hli.2
    have HLn := Lib.hid hln
    have HLg := Lib.hid hlg
    have HD5 := Lib.hid hd500
    have hq4 := (hb34.block _ (show w.heap.size < w2.heap.size by omega)).trans HQ.out
    obtain ⟨s0, s1, s2, s3⟩ := cellsS hq4
    clear HLL hli hln hlg hd500
    by_cases hd0 : s.ds.length = 0
    · have hbF := hb2.trans (hb34.mono (by omega))
      have hdd : ((s.ds.length : Int) == 0) = true := by rw [hd0]; rfl
      go_wp2_with fail
      go_ret
      exact ⟨rfl, hbF⟩
    · have hdd : ((s.ds.length : Int) == 0) = false := by simpa using hd0
      go_upto_region 6 with fail
      generalize hw5 : w4.alloc (.cells #[.slice s.A s.n.length s.cap, .int .u16 s.t, .int .u32 s.ttl, .slice s.D s.ds.length s.dcap] 28) = w5
      have hb5 : Below w4.heap.size w4 w5 := by rw [← hw5]; exact (Below.refl _ _).alloc (Nat.le_refl _) _
      have hq5 : w5.heap[w4.heap.size]? = some (.cells #[.slice s.A s.n.length s.cap, .int .u16 s.t, .int .u32 s.ttl, .slice s.D s.ds.length s.dcap] 28 (0, 0)) := by rw [← hw5]; exact heap_alloc_new w4 _
      have hz5 := lt_block hq5
      have hbw5 := hb34.trans (hb5.mono hz34)
      obtain ⟨b9, hb9⟩ : ∃ b9, w4.heap.size = b9 := ⟨_, rfl⟩
      rw [hb9] at hq5 hz5 hb5 hz34 ⊢
      have HSm := Lib.hid (lightN_small HLn.out)
      clear hw5 s0 s1 s2 s3 hq4
      have hqs5 := (hbw5.block _ (show w.heap.size < w2.heap.size by omega)).trans HQ.out
      obtain ⟨s0, s1, s2, s3⟩ := cellsS hqs5
      clear hqs5
      go_wp2_with fail
      refine (RLower s.A s.n s.cap w5 (HS.out.1.below hbw5) HSm.out.few).mono ?_
      rintro e w6 ⟨v6, rfl, hown6, hb6⟩
      obtain ⟨A6, c6, rfl, _, hcs6⟩ := Cs.of_own hown6
      have hq6 := (hb6.block _ hz5).trans hq5
      have hz6 := hb6.size
      have hbw6 := hbw5.trans (hb6.mono (by omega))
      have HL6 := Lib.hid (fun kk hk => hown6.lt kk hk)
      have HC6 := Lib.hid hcs6
      clear s0 s1 s2 s3
      have hqs6 := (hbw6.block _ (show w.heap.size < w2.heap.size by omega)).trans HQ.out
      obtain ⟨s0, s1, s2, s3⟩ := cellsS hqs6
      obtain ⟨t0, t1, t2, t3⟩ := cellsS hq6
      have sf0 : w6.frozen? ⟨b9, 0, none⟩ = false := by simp [World.frozen?, hq6]
      clear hcs6 hown6
      go_upto_region 7 with fail
      have hk7 : Kept (fun b => b = b9) w6 (w6.setCell ⟨b9, 0, none⟩ (.slice A6 s.n.length c6)) := (Kept.refl (fun b => b = b9) w6).setCell (p := ⟨b9, 0, none⟩) (fun _ => rfl) _
      have hq7 : (w6.setCell ⟨b9, 0, none⟩ (.slice A6 s.n.length c6)).heap[b9]? = some (.cells #[.slice A6 s.n.length c6, .int .u16 s.t, .int .u32 s.ttl, .slice s.D s.ds.length s.dcap] 28 (0, 0)) := heap_set hq6
      generalize w6.setCell ⟨b9, 0, none⟩ (.slice A6 s.n.length c6) = w7 at *
      clear s0 s1 s2 s3 t0 t1 t2 t3 sf0 hq6
      have hbw7 := hbw6.trans (hk7.below (B := w2.heap.size) (by omega) (fun k hk he => by omega))
      have hqs7 := (hbw7.block _ (show w.heap.size < w2.heap.size by omega)).trans HQ.out
      obtain ⟨s0, s1, s2, s3⟩ := cellsS hqs7
      have hz7 := hk7.size
      have hdne : s.ds ≠ [] := fun h => hd0 (by rw [h]; rfl)
      have HCD := Lib.hid (HS.out.2.1.below hbw7)
      go_wp2_with (first | (at_builtin; refine wpList_blobs HCD.out rfl _ (.tmp 28) Tryz.underlying26 rfl rfl rfl (by omega) ?_; intro v8 w8 hown8 hb8; obtain ⟨gr, capr, rfl, hcr, hgr1, hgr2, hrm⟩ := rowM_of hown8 rfl hdne; obtain ⟨cur, hcur, hcsz, hcmx, _⟩ := own_parts hown8; have hq8 := (hb8.block _ (lt_block hq7)).trans hq7; have t3 := (cellsS hq8).2.2.2; have tf3 : w8.frozen? ⟨b9, 3, none⟩ = false := by simp [World.frozen?, hq8]))
      have hk9 : Kept (fun b => b = b9) w8 (w8.setCell ⟨b9, 3, none⟩ (.slice (some ⟨gr, 0, none⟩) s.ds.length capr)) := (Kept.refl (fun b => b = b9) w8).setCell (p := ⟨b9, 3, none⟩) (fun _ => rfl) _
      have hq9 : (w8.setCell ⟨b9, 3, none⟩ (.slice (some ⟨gr, 0, none⟩) s.ds.length capr)).heap[b9]? = some (.cells #[.slice A6 s.n.length c6, .int .u16 s.t, .int .u32 s.ttl, .slice (some ⟨gr, 0, none⟩) s.ds.length capr] 28 (0, 0)) := heap_set hq8
      generalize w8.setCell ⟨b9, 3, none⟩ (.slice (some ⟨gr, 0, none⟩) s.ds.length capr) = w9 at *
      have hgb : ¬ gr = b9 := by omega
      have hz8 := hb8.size
      have hz9 := hk9.size
      have hbw8 := hbw7.trans (hb8.mono (by omega))
      have hbw9 := hbw8.trans (hk9.below (B := w2.heap.size) (by omega) (fun k hk he => by omega))
      have hcur9 := (hk9.block gr hgr2 hgb).trans hcur
      have HRow : Hid (∀ m b, s.ds[m]? = some b → w9.cell? ⟨gr, m, none⟩ = some b.v) := Lib.hid (fun m b h => (hk9.cell hgr2 hgb).trans (hrm.hi m b (Nat.zero_le _) h))
      have HC6b : Hid (Cs w9 A6 ((lower s.n).map strV)) := by
        have g1 : Cs w7 A6 ((lower s.n).map strV) := Kept.cs HC6.out hk7 (fun a ha hx he => by have := (HL6.out a.block (by rw [ha]; rfl)).1; omega)
        have g2 : Cs w8 A6 ((lower s.n).map strV) := g1.below hb8
        exact Lib.hid (Kept.cs g2 hk9 (fun a ha hx he => by have := (HL6.out a.block (by rw [ha]; rfl)).1; omega))
      clear s0 s1 s2 s3 t3 tf3 hq8 hq7 hqs7 hrm hcur HC6 HCD hown8
      have hn1 : 1 ≤ s.ds.length := by omega
      refine wp_region_m2 mixed0 (by kernel_rfl) [.is (.int .i64 i0), .is (.pointer (some ⟨b9, 3, none⟩)), .is (.slice (some ⟨gr, 0, none⟩) s.ds.length capr), .is (.int .i64 s.ds.length), placeF s.ds.length, .is (.int .i64 k0), .is (.pointer (some ⟨b9, 3, none⟩)), .is (.slice (some ⟨gr, 0, none⟩) s.ds.length capr), .is (.int .i64 s.ds.length), placeF s.ds.length, placeF s.ds.length, placeF s.ds.length] ?_ ?_
      · intro ix o hio vals W hE haf
        have t3 := (cellsS ((hE.block _ (lt_block hq9)).trans hq9)).2.2.2
        rcases ix with _ | _ | _ | _ | _ | _ | _ | _ | _ | _ | _ | _ | ix
        all_goals first
          | (exfalso; simp at hio; done)
          | (simp at hio; subst hio; simp [bindD, rdB, Region.binds, factAt] at haf; simp [opYield_def, yieldUpon, yielded, relAct, dstAt, Act.put, Region.wanted, go_sem, haf, t3, Ext.refl, factAt]; done)
          | skip
        all_goals
          simp at hio
          subst hio
          simp [bindD, rdB, Region.binds, factAt] at haf
        · simp [opYield_def, yieldUpon, relAct, dstAt, Act.put, Region.wanted, go_sem, haf, factAt]
          refine (Place i0 s.ds.length W hi1 hi2 hn1 (by omega)).mono fun e W' h => ?_
          obtain ⟨j, h1, h2, h3⟩ := h
          subst h3
          exact ⟨.int .i64 j, h1, Ext.refl _, j, rfl, h2⟩
        · simp [opYield_def, yieldUpon, relAct, dstAt, Act.put, Region.wanted, go_sem, haf, factAt]
          refine (Place k0 s.ds.length W hk1 hk2 hn1 (by omega)).mono fun e W' h => ?_
          obtain ⟨j, h1, h2, h3⟩ := h
          subst h3
          exact ⟨.int .i64 j, h1, Ext.refl _, j, rfl, h2⟩
      · intro vals W hE hF
        obtain ⟨i, hvi, hin⟩ : ∃ j : Nat, vals 10 = .int .i64 j ∧ j < s.ds.length := hF 10 (by show 10 < 12; omega)
        obtain ⟨k, hvk, hkn⟩ : ∃ j : Nat, vals 11 = .int .i64 j ∧ j < s.ds.length := hF 11 (by show 11 < 12; omega)
        simp [relAct, dstAt, Act.put]
        rw [hvi, hvk]
        clear hF hvi hvk
        generalize vals 0 = v0 at *
        generalize vals 1 = v1 at *
        generalize vals 2 = v2 at *
        generalize vals 3 = v3 at *
        generalize vals 4 = v4 at *
        generalize vals 5 = v5 at *
        generalize vals 6 = v6 at *
        generalize vals 7 = v7 at *
        generalize vals 8 = v8 at *
        generalize vals 9 = v9 at *
        obtain ⟨di, hdi⟩ : ∃ b, s.ds[i]? = some b := ⟨_, List.getElem?_eq_getElem hin⟩
        obtain ⟨dk, hdk⟩ : ∃ b, s.ds[k]? = some b := ⟨_, List.getElem?_eq_getElem hkn⟩
        have hbwW := hbw9.trans (hE.mono (by omega))
        have hq0 := (hE.block _ (lt_block hq9)).trans hq9
        have hcur0 := (hE.block _ (lt_block hcur9)).trans hcur9
        have HRow0 : Hid (∀ m b, s.ds[m]? = some b → W.cell? ⟨gr, m, none⟩ = some b.v) := Lib.hid (fun m b h => (bcl hE (lt_block hcur9)).trans (HRow.out m b h))
        have HC60 := Lib.hid (HC6b.out.below hE)
        have hzW := hE.size
        clear hE hq9 hcur9 HRow HC6b
        go_upto_region 9 with fail
        refine wp_region_r2 mixed0 (by kernel_rfl) (fun _ _ => false) (kills_none _ _)
          (fun ix W1 W2 => if ix = 17 then W2 = W1.setCell ⟨gr, i, none⟩ dk.v else if ix = 19 then W2 = W1.setCell ⟨gr, k, none⟩ di.v else W2 = W1)
          (fun W1 => Kept (fun b => b = gr) W W1 ∧ (∃ c2, W1.heap[gr]? = some (.cells c2 31 (0, 0)) ∧ c2.size = capr) ∧ ∀ m b, m ≠ i → m ≠ k → s.ds[m]? = some b → W1.cell? ⟨gr, m, none⟩ = some b.v)
          (fun ix v W1 => match ix with
            | 0 => v = .pointer (some ⟨b9, 3, none⟩)
            | 1 => v = .slice (some ⟨gr, 0, none⟩) s.ds.length capr
            | 2 => v = .int .i64 i
            | 3 => v = .pointer (some ⟨b9, 3, none⟩)
            | 4 => v = .slice (some ⟨gr, 0, none⟩) s.ds.length capr
            | 5 => v = .int .i64 k
            | 6 => v = .pointer (some ⟨b9, 3, none⟩)
            | 7 => v = .slice (some ⟨gr, 0, none⟩) s.ds.length capr
            | 8 => v = .int .i64 k
            | 9 => v = .pointer (some ⟨gr, k, none⟩)
            | 10 => v = dk.v
            | 11 => v = .pointer (some ⟨b9, 3, none⟩)
            | 12 => v = .slice (some ⟨gr, 0, none⟩) s.ds.length capr
            | 13 => v = .int .i64 i
            | 14 => v = .pointer (some ⟨gr, i, none⟩)
            | 15 => v = di.v
            | 16 => v = .pointer (some ⟨gr, i, none⟩)
            | 17 => W1.cell? ⟨gr, i, none⟩ = some dk.v
            | 18 => v = .pointer (some ⟨gr, k, none⟩)
            | 19 => W1.cell? ⟨gr, k, none⟩ = some di.v
            | _ => True)
          (fun W1 => W1.cell? ⟨gr, i, none⟩ = some di.v ∧ W1.cell? ⟨gr, k, none⟩ = some dk.v) (fun ix => ix == 17 || ix == 19) ⟨HRow0.out i di hdi, HRow0.out k dk hdk⟩ ?_ ⟨(Kept.refl _ _).drew, ⟨cur, hcur0, hcsz⟩, fun m b _ _ h => HRow0.out m b h⟩ ?_ ?_ ?_ ?_
        · intro ix W1 W2 hk hC hI hT
          have h17 : ix ≠ 17 := fun h => by subst h; cases hk
          have h19 : ix ≠ 19 := fun h => by subst h; cases hk
          simp only [h17, h19, if_false] at hT
          subst hT
          exact hI
        · intro ix W1 W2 hC hT
          obtain ⟨hC1, ⟨c2, hC2, hC3⟩, hC4⟩ := hC
          have hset : ∀ (j : Nat) (u : Value), (j = i ∨ j = k) → (Kept (fun b => b = gr) W (W1.setCell ⟨gr, j, none⟩ u) ∧ (∃ c2, (W1.setCell ⟨gr, j, none⟩ u).heap[gr]? = some (.cells c2 31 (0, 0)) ∧ c2.size = capr) ∧ ∀ m b, m ≠ i → m ≠ k → s.ds[m]? = some b → (W1.setCell ⟨gr, j, none⟩ u).cell? ⟨gr, m, none⟩ = some b.v) := by
            intro j u hj
            refine ⟨hC1.setCell (S := fun b => b = gr) (p := ⟨gr, j, none⟩) (fun _ => rfl) _, ⟨_, heap_set hC2, by simpa using hC3⟩, fun m b h1 h2 h => ?_⟩
            rw [setc_side (by rcases hj with rfl | rfl <;> omega)]
            exact hC4 m b h1 h2 h
          by_cases h17 : ix = 17
          · simp only [h17, if_true] at hT
            subst hT
            exact hset i _ (.inl rfl)
          · by_cases h19 : ix = 19
            · simp only [h19, if_true, show ¬ (19 : Nat) = 17 by omega, if_false] at hT
              subst hT
              exact hset k _ (.inr rfl)
            · simp only [h17, h19, if_false] at hT
              subst hT
              exact ⟨hC1, ⟨c2, hC2, hC3⟩, hC4⟩
        · intro ix j v W1 W2 hij _ hw hC hR hT
          have key : (j ≠ 17 ∧ j ≠ 19) ∨ W2 = W1 ∨ (j = 17 ∧ ix = 19) ∨ (j = 19 ∧ ix = 17) := by
            by_cases h17 : ix = 17
            · by_cases j19 : j = 19
              · exact .inr (.inr (.inr ⟨j19, h17⟩))
              · exact .inl ⟨fun h => hij (h17.trans h.symm), j19⟩
            · by_cases h19 : ix = 19
              · by_cases j17 : j = 17
                · exact .inr (.inr (.inl ⟨j17, h19⟩))
                · exact .inl ⟨j17, fun h => hij (h19.trans h.symm)⟩
              · simp only [h17, h19, if_false] at hT
                exact .inr (.inl hT)
          rcases key with ⟨j17, j19⟩ | rfl | ⟨rfl, rfl⟩ | ⟨rfl, rfl⟩
          · rcases j with _ | _ | _ | _ | _ | _ | _ | _ | _ | _ | _ | _ | _ | _ | _ | _ | _ | _ | _ | _ | j
            all_goals first
              | exact hR
              | exact absurd rfl j17
              | exact absurd rfl j19
          · exact hR
          · simp only [if_true, show ¬ (19 : Nat) = 17 by omega, if_false] at hT
            subst hT
            have hR' : W1.cell? ⟨gr, i, none⟩ = some dk.v := hR
            show (W1.setCell ⟨gr, k, none⟩ di.v).cell? ⟨gr, i, none⟩ = some dk.v
            by_cases hik : k = i
            · have e : di = dk := by rw [hik] at hdk; rw [hdi] at hdk; exact Option.some.inj hdk
              rw [hik, e]
              exact setc_same hR'
            · rw [setc_side hik]
              exact hR'
          · simp only [if_true] at hT
            subst hT
            have hR' : W1.cell? ⟨gr, k, none⟩ = some di.v := hR
            show (W1.setCell ⟨gr, i, none⟩ dk.v).cell? ⟨gr, k, none⟩ = some di.v
            by_cases hik : i = k
            · have e : dk = di := by rw [← hik] at hdk; rw [hdi] at hdk; exact (Option.some.inj hdk).symm
              rw [hik, e]
              exact setc_same hR'
            · rw [setc_side hik]
              exact hR'
        · intro ix o hio vals W1 hC haf hI
          obtain ⟨hC1, ⟨c2, hC2, hC3⟩, hC4⟩ := hC
          have q3 := (cellsS ((hC1.block b9 (lt_block hq0) (fun h => hgb h.symm)).trans hq0)).2.2.2
          have r1 : (i : Int) < (s.ds.length : Int) := by omega
          have r2 : (k : Int) < (s.ds.length : Int) := by omega
          have hfr : ∀ j, W1.frozen? ⟨gr, j, none⟩ = false := fun j => by simp [World.frozen?, hC2]
          have hin2 : i < s.ds.length := hin
          rcases ix with _ | _ | _ | _ | _ | _ | _ | _ | _ | _ | _ | _ | _ | _ | _ | _ | _ | _ | _ | _ | ix
          all_goals first
            | (exfalso; simp at hio; done)
            | (simp at hio; subst hio; simp [bindD, rdB, Region.binds] at haf; simp [opYield_def, yieldUpon, yielded, relAct, dstAt, Act.put, Region.wanted, go_sem, haf, q3, r1, r2, hin, hkn]; done)
            | skip
          all_goals
            simp at hio
            subst hio
            simp [bindD, rdB, Region.binds] at haf
          · have hII := hI (fun kk hkk h => by
              have : kk = 17 ∨ kk = 19 := by simpa using h
              rcases this with rfl | rfl
              · exact .inr (by kernel_rfl)
              · exact .inr (by kernel_rfl))
            simp [opYield_def, yieldUpon, yielded, relAct, dstAt, Act.put, Region.wanted, go_sem, haf, hII.2]
          · have hII := hI (fun kk hkk h => by
              have : kk = 17 ∨ kk = 19 := by simpa using h
              rcases this with rfl | rfl
              · exact .inr (by kernel_rfl)
              · exact .inr (by kernel_rfl))
            simp [opYield_def, yieldUpon, yielded, relAct, dstAt, Act.put, Region.wanted, go_sem, haf, hII.1]
          · have hz : W1.cell? ⟨gr, i, none⟩ = some c2[i] := by rw [cell_of_row W1 gr i _ _ _ hC2]; exact Array.getElem?_eq_getElem _
            simp [opYield_def, yieldUpon, yielded, relAct, dstAt, Act.put, Region.wanted, go_sem, haf, hz, hfr, Blob.v]
          · have hz : W1.cell? ⟨gr, k, none⟩ = some c2[k] := by rw [cell_of_row W1 gr k _ _ _ hC2]; exact Array.getElem?_eq_getElem _
            simp [opYield_def, yieldUpon, yielded, relAct, dstAt, Act.put, Region.wanted, go_sem, haf, hz, hfr, Blob.v]
        · intro vals W1 hC hR
          obtain ⟨hC1, ⟨c2, hC2, hC3⟩, hC4⟩ := hC
          have c17 : W1.cell? ⟨gr, i, none⟩ = some dk.v := hR 17 (by show 17 < 20; omega) (fun _ _ => rfl)
          have c19 : W1.cell? ⟨gr, k, none⟩ = some di.v := hR 19 (by show 19 < 20; omega) (fun _ _ => rfl)
          obtain ⟨sw, hsw⟩ : ∃ sw, swapB s.ds i k di dk = sw := ⟨_, rfl⟩
          have hswl : sw.length = s.ds.length := by rw [← hsw]; exact swap_len _ _ _ _ _
          have hswm : ∀ x, x ∈ sw ↔ x ∈ s.ds := fun x => by rw [← hsw]; exact swap_mem hdi hdk x
          have hcell : ∀ m u, (sw.map Blob.v)[m]? = some u → W1.cell? ⟨gr, m, none⟩ = some u := by
            intro m u hu
            rw [List.getElem?_map] at hu
            cases hx : sw[m]? with
            | none => rw [hx] at hu; cases hu
            | some x =>
              rw [hx] at hu
              cases hu
              rw [← hsw] at hx
              rcases swap_at hdi hdk m x hx with ⟨rfl, rfl⟩ | ⟨rfl, _, rfl⟩ | ⟨h1, h2, h3⟩
              · exact c19
              · exact c17
              · exact hC4 m x h1 h2 h3
          have hown1 := own_of_cells (B := w7.heap.size) hC2 hgr1 hcr hcmx hC3 (by rw [List.length_map]; exact hswl) hcell
          have hq1 := (hC1.block b9 (lt_block hq0) (fun h => hgb h.symm)).trans hq0
          have hz1 := hC1.size
          have hbw1 := hbwW.trans (hC1.below (B := w2.heap.size) (by omega) (fun k hk he => by omega))
          have HC61 := Lib.hid (Kept.cs HC60.out hC1 (fun a ha hx he => by have := (HL6.out a.block (by rw [ha]; rfl)).2; omega))
          have HSM := Lib.hid hswm
          simp [relAct, dstAt, Act.put]
          clear hR c17 c19 hsw hcell hC4 hC2 hC3 c2 hcur0 HRow0 hdi hdk hswm hC1 hbwW hq0 HC60
          generalize vals 0 = y0 at *
          generalize vals 1 = y1 at *
          generalize vals 2 = y2 at *
          generalize vals 3 = y3 at *
          generalize vals 4 = y4 at *
          generalize vals 5 = y5 at *
          generalize vals 6 = y6 at *
          generalize vals 7 = y7 at *
          generalize vals 8 = y8 at *
          generalize vals 9 = y9 at *
          generalize vals 10 = y10 at *
          generalize vals 11 = y11 at *
          generalize vals 12 = y12 at *
          generalize vals 13 = y13 at *
          generalize vals 14 = y14 at *
          generalize vals 15 = y15 at *
          generalize vals 16 = y16 at *
          generalize vals 18 = y18 at *
          go_upto_region 10 with fail
          obtain ⟨x0, hx0⟩ : ∃ b, sw[0]? = some b := ⟨_, List.getElem?_eq_getElem (by omega)⟩
          have hx0m : x0 ∈ sw := List.mem_of_getElem? hx0
          have hc0 : W1.cell? ⟨gr, 0, none⟩ = some x0.v := by
            obtain ⟨g', cap', e1, _, _, _, hrm1⟩ := rowM_of hown1 hswl (fun h => by rw [h] at hx0; cases hx0)
            cases e1
            exact hrm1.hi 0 x0 (Nat.zero_le _) hx0
          have hgr1' := (hown1.lt gr rfl).2
          have HOwn := Lib.hid hown1
          clear hown1 hx0
          refine wp_region_r2 mixed0 (by kernel_rfl) (fun _ _ => false) (kills_none _ _)
            (fun ix V V' => if ix = 7 then Kept (fun b => b = gr) V V' else if ix = 9 then ∃ u, V' = V.setCell ⟨b9, 3, none⟩ u else Ext V V')
            (fun V => Kept (fun b => b = gr ∨ b = b9) W1 V ∧ ∃ v3, V.heap[b9]? = some (.cells #[.slice A6 s.n.length c6, .int .u16 s.t, .int .u32 s.ttl, v3] 28 (0, 0)))
            (fun ix v V => match ix with
              | 0 => v = .pointer (some ⟨b9, 3, none⟩)
              | 1 => v = .slice (some ⟨gr, 0, none⟩) s.ds.length capr
              | 2 => v = .pointer (some ⟨b9, 3, none⟩)
              | 3 => v = .slice (some ⟨gr, 0, none⟩) s.ds.length capr
              | 4 => v = .pointer (some ⟨gr, 0, none⟩)
              | 5 => v = x0.v
              | 6 => ∃ kk, v = .slice (some ⟨kk, 0, none⟩) 1 1 ∧ W1.heap.size ≤ kk ∧ Cs V (some ⟨kk, 0, none⟩) [x0.v]
              | 7 => V.ownsRow w7.heap.size 31 1 v (s.ds.length + 1) ((sw ++ [x0]).map Blob.v) ∧ ∀ b, v.ownBlock = some b → b ≠ b9
              | 8 => v = .pointer (some ⟨b9, 3, none⟩)
              | 9 => ∃ u, V.cell? ⟨b9, 3, none⟩ = some u ∧ V.ownsRow w7.heap.size 31 1 u (s.ds.length + 1) ((sw ++ [x0]).map Blob.v)
              | _ => True)
            (fun V => V.ownsRow w7.heap.size 31 1 (.slice (some ⟨gr, 0, none⟩) s.ds.length capr) s.ds.length (sw.map Blob.v) ∧ V.cell? ⟨b9, 3, none⟩ = some (.slice (some ⟨gr, 0, none⟩) s.ds.length capr) ∧ V.cell? ⟨gr, 0, none⟩ = some x0.v) (fun ix => ix == 7 || ix == 9) ⟨HOwn.out, (cellsS hq1).2.2.2, hc0⟩ ?_ ⟨(Kept.refl _ _).drew, _, hq1⟩ ?_ ?_ ?_ ?_
          · intro ix V V' hk hC hI hT
            have h7 : ix ≠ 7 := fun h => by subst h; cases hk
            have h9 : ix ≠ 9 := fun h => by subst h; cases hk
            simp only [h7, h9, if_false] at hT
            obtain ⟨v3, hq⟩ := hC.2
            have hgv := (hI.1.lt gr rfl).2
            exact ⟨own_below hI.1 hT, (bcl hT (lt_block hq)).trans hI.2.1, (bcl hT hgv).trans hI.2.2⟩
          · intro ix V V' hC hT
            obtain ⟨hC1, v3, hq⟩ := hC
            have hzc := hC1.size
            by_cases h7 : ix = 7
            · simp only [h7, if_true] at hT
              exact ⟨hC1.trans (hT.mono (fun _ _ h => .inl h)), v3, (hT.block b9 (lt_block hq) (fun h => hgb h.symm)).trans hq⟩
            · by_cases h9 : ix = 9
              · simp only [h9, if_true, show ¬ (9 : Nat) = 7 by omega, if_false] at hT
                obtain ⟨u, rfl⟩ := hT
                exact ⟨hC1.setCell (S := fun b => b = gr ∨ b = b9) (p := ⟨b9, 3, none⟩) (fun _ => .inr rfl) _, u, heap_set hq⟩
              · simp only [h7, h9, if_false] at hT
                exact ⟨hC1.trans ((Kept.of_ext hT).mono (fun _ _ h => h.elim)), v3, (hT.block b9 (lt_block hq)).trans hq⟩
          · intro ix j v V V' hij _ hw hC hR hT
            obtain ⟨hC1, v3, hq⟩ := hC
            have hzc := hC1.size
            by_cases h7 : ix = 7
            · subst h7
              simp only [if_true] at hT
              rcases j with _ | _ | _ | _ | _ | _ | _ | _ | _ | _ | j
              · exact hR
              · exact hR
              · exact hR
              · exact hR
              · exact hR
              · exact hR
              · obtain ⟨kk, e1, e2, e3⟩ := hR
                exact ⟨kk, e1, e2, Kept.cs e3 hT (fun a ha hx h => by cases ha; have h' : kk = gr := h; omega)⟩
              · exact absurd rfl hij
              · exact hR
              · exact Bool.noConfusion (show false = true from hw.symm.trans (by kernel_rfl))
              · trivial
            · by_cases h9 : ix = 9
              · subst h9
                simp only [if_true, show ¬ (9 : Nat) = 7 by omega, if_false] at hT
                obtain ⟨u, rfl⟩ := hT
                have hkb := (Kept.refl (fun b => b = b9) V).setCell (p := ⟨b9, 3, none⟩) (fun _ => rfl) u
                rcases j with _ | _ | _ | _ | _ | _ | _ | _ | _ | _ | j
                · exact hR
                · exact hR
                · exact hR
                · exact hR
                · exact hR
                · exact hR
                · obtain ⟨kk, e1, e2, e3⟩ := hR
                  exact ⟨kk, e1, e2, Kept.cs e3 hkb (fun a ha hx h => by cases ha; have h' : kk = b9 := h; have := lt_block hq1; omega)⟩
                · exact ⟨Kept.row hR.1 hkb (fun b hb h => hR.2 b hb h), hR.2⟩
                · exact hR
                · exact absurd rfl hij
                · trivial
              · simp only [h7, h9, if_false] at hT
                rcases j with _ | _ | _ | _ | _ | _ | _ | _ | _ | _ | j
                · exact hR
                · exact hR
                · exact hR
                · exact hR
                · exact hR
                · exact hR
                · obtain ⟨kk, e1, e2, e3⟩ := hR
                  exact ⟨kk, e1, e2, e3.below hT⟩
                · exact ⟨own_below hR.1 hT, hR.2⟩
                · exact hR
                · obtain ⟨u, e1, e2⟩ := hR
                  exact ⟨u, (bcl hT (lt_block hq)).trans e1, own_below e2 hT⟩
                · trivial
          · intro ix o hio vals V hC haf hI
            obtain ⟨hC1, v3, hq⟩ := hC
            have hzc := hC1.size
            have r1 : (0 : Int) < (s.ds.length : Int) := by omega
            have r1n : 0 < s.ds.length := by omega
            have q3 : V.cell? ⟨b9, 3, none⟩ = some v3 := (cellsS hq).2.2.2
            have hfr : V.frozen? ⟨b9, 3, none⟩ = false := by simp [World.frozen?, hq]
            have hII : (∀ kk, kk = 7 ∨ kk = 9 → kk = ix ∨ waitsT _ _ kk ix = true) → _ := fun hk => hI (fun kk hkk h => hk kk (by simpa using h))
            rcases ix with _ | _ | _ | _ | _ | _ | _ | _ | _ | _ | ix
            all_goals first
              | (exfalso; simp at hio; done)
              | (simp at hio; subst hio; simp [bindD, rdB, Region.binds] at haf; simp [opYield_def, yieldUpon, yielded, relAct, dstAt, Act.put, Region.wanted, go_sem, haf, r1, r1n, hn1, Ext.refl]; done)
              | skip
            all_goals
              simp at hio
              subst hio
              simp [bindD, rdB, Region.binds] at haf
            · have h0 := hII (fun kk h => by rcases h with rfl | rfl <;> exact .inr (by kernel_rfl))
              simp [opYield_def, yieldUpon, yielded, relAct, dstAt, Act.put, Region.wanted, go_sem, haf, h0.2.1, Ext.refl]
            · have h0 := hII (fun kk h => by rcases h with rfl | rfl <;> exact .inr (by kernel_rfl))
              simp [opYield_def, yieldUpon, yielded, relAct, dstAt, Act.put, Region.wanted, go_sem, haf, h0.2.1, Ext.refl]
            · have h0 := hII (fun kk h => by rcases h with rfl | rfl <;> exact .inr (by kernel_rfl))
              simp [opYield_def, yieldUpon, yielded, relAct, dstAt, Act.put, Region.wanted, go_sem, haf, h0.2.2, Ext.refl]
            · simp [opYield_def, yieldUpon, yielded, relAct, dstAt, Act.put, Region.wanted, go_sem, haf, Blob.v]
              exact ⟨(Below.refl _ _).alloc (Nat.le_refl _) _, hzc, cs_new V 31 [x0.v] (0, 0)⟩
            · have h0 := hII (fun kk h => by
                rcases h with rfl | rfl
                · exact .inl rfl
                · exact .inr (by kernel_rfl))
              obtain ⟨e1, kk, e6, hkk, hc6⟩ := haf
              refine yield_blobs rfl (.tmp 60) (.tmp 65) Tryz.underlying26 rfl (v := .slice (some ⟨gr, 0, none⟩) s.ds.length capr) (by simp [relAct, dstAt, Act.put, Act.eval, e1]) h0.1 (by omega) (us := [x0.v]) (b := ⟨kk, 0, none⟩) (c := 1) (by simp [relAct, dstAt, Act.put, Act.eval, e6]) hc6 (fun u hu => by simp at hu; subst hu; rfl) (by simp; omega) ?_
              intro v' V' e7 e8
              refine ⟨e8.kept.mono (fun b _ h => by cases h; rfl), by rw [List.map_append]; exact e7, fun b hb h => ?_⟩
              rcases e8.at_ b hb with h3 | h3
              · cases h3
                exact hgb h
              · have := lt_block hq
                omega
            · obtain ⟨e8, e7, e7b⟩ := haf
              obtain ⟨A9, c9, e9⟩ := own_formD e7
              have hkb := (Kept.refl (fun b => b = b9) V).setCell (p := ⟨b9, 3, none⟩) (fun _ => rfl) (.slice A9 (s.ds.length + 1) c9)
              have hrow := Kept.row e7 hkb (fun b hb h => e7b b hb h)
              rw [e9] at hrow
              simp [opYield_def, yieldUpon, yielded, relAct, dstAt, Act.put, Region.wanted, go_sem, e8, e9, q3, hfr]
              first
                | exact ⟨⟨_, rfl⟩, hrow⟩
                | exact ⟨⟨_, rfl⟩, _, setc_same q3, hrow⟩
                | exact ⟨⟨_, rfl⟩, _, rfl, hrow⟩
          · intro vals V hC hR
            obtain ⟨hC1, v3, hq⟩ := hC
            obtain ⟨u, hu1, hu2⟩ : ∃ u, V.cell? ⟨b9, 3, none⟩ = some u ∧ V.ownsRow w7.heap.size 31 1 u (s.ds.length + 1) ((sw ++ [x0]).map Blob.v) := hR 9 (by show 9 < 10; omega) (fun _ _ => rfl)
            have hv3 : v3 = u := Option.some.inj ((cellsS hq).2.2.2.symm.trans hu1)
            subst hv3
            obtain ⟨Au, cu, rfl, _, hcu⟩ := Cs.of_own hu2
            have hzV := hC1.size
            have hbV := hbw1.trans (hC1.below (B := w2.heap.size) (by omega) (fun k hk he => by rcases he with h | h <;> omega))
            have HC62 := Lib.hid (Kept.cs HC61.out hC1 (fun a ha hx he => by
              have := HL6.out a.block (by rw [ha]; rfl)
              rcases he with h | h <;> omega))
            have HCu := Lib.hid hcu
            simp [relAct, dstAt, Act.put]
            clear hR hu1 hu2 hcu hC1 hq1 hc0 HOwn HC61 hbw1
            generalize vals 0 = x0' at *
            generalize vals 1 = x1' at *
            generalize vals 2 = x2' at *
            generalize vals 3 = x3' at *
            generalize vals 4 = x4' at *
            generalize vals 5 = x5' at *
            generalize vals 6 = x6' at *
            generalize vals 7 = x7' at *
            generalize vals 8 = x8' at *
            go_upto_region 11 with fail
            have hxl : (sw ++ [x0]).length = s.ds.length + 1 := by rw [List.length_append, hswl]; rfl
            have HXm : Hid (∀ x ∈ sw ++ [x0], x ∈ s.ds) := Lib.hid (fun x hx => by
              rcases List.mem_append.1 hx with h | h
              · exact (HSM.out x).1 h
              · simp at h
                subst h
                exact (HSM.out x).1 hx0m)
            have HXt : Hid (∀ y, y ∈ (s.ds.map fun d => canX s.t d.l) ↔ y ∈ ((sw ++ [x0]).map fun d => canX s.t d.l)) := Lib.hid (fun y => by
              rw [List.mem_map, List.mem_map]
              constructor
              · rintro ⟨d, hd, rfl⟩
                exact ⟨d, List.mem_append.2 (.inl ((HSM.out d).2 hd)), rfl⟩
              · rintro ⟨d, hd, rfl⟩
                exact ⟨d, HXm.out d hd, rfl⟩)
            have hfits : g.fits := ⟨HGS.out.t, HGS.out.al, HGS.out.lb, HGS.out.ttl, HGS.out.ex, HGS.out.bg, HGS.out.tg, lightN_small HLg.out, by omega⟩
            have HM1 : Hid (∀ W, Ext V W → Calls Tryz.prog 20 #[.agg #[.slice s.A s.n.length s.cap, .int .u16 s.t, .int .u32 s.ttl, .slice s.D s.ds.length s.dcap], .agg #[.int .u16 g.t, .int .u8 g.al, .int .u8 g.lb, .int .u32 g.ttl, .int .u32 g.ex, .int .u32 g.bg, .int .u16 g.tg, .slice SA g.n.length sc, .slice SS g.s.length ssc]] W fun e w' =>
                ∃ v ys, e = .returned v ∧ Told (s.ds.map fun d => canX s.t d.l) ys ∧ w'.ownsRow W.heap.size 5 1 v (msgL s.n T ys g).length ((msgL s.n T ys g).map byteV) ∧ Below W.heap.size W w') := Lib.hid (fun W hW => by
              have hb : Below w2.heap.size w2 W := hbV.trans (hW.mono (by omega))
              have hm := MessageG s.A s.D s.n s.cap s.dcap T s.ttl s.ds g SA SS sc ssc W hT (HS.out.1.below hb) HSm.out (HS.out.2.1.below hb) (HS.out.2.2.below hb) (by omega) (fun d hd => ⟨by have := HD5.out d hd; omega, (H5.out d hd).1, (H5.out d hd).2⟩) (fun d hd => by have := canX_len T d.l; have := HD5.out d hd; omega) hfits (HSA.out.below hb) (low_bytes_len g HLg.out) (ownN_len s.n g.lb HLn.out)
              unfold SigM.v at hm
              rw [← HT.out] at hm
              exact hm)
            have HM2 : Hid (∀ W, Ext V W → Calls Tryz.prog 20 #[.agg #[.slice A6 s.n.length c6, .int .u16 s.t, .int .u32 s.ttl, .slice Au (s.ds.length + 1) cu], .agg #[.int .u16 g.t, .int .u8 g.al, .int .u8 g.lb, .int .u32 g.ttl, .int .u32 g.ex, .int .u32 g.bg, .int .u16 g.tg, .slice SA g.n.length sc, .slice SS g.s.length ssc]] W fun e w' =>
                ∃ v ys, e = .returned v ∧ Told ((sw ++ [x0]).map fun d => canX s.t d.l) ys ∧ w'.ownsRow W.heap.size 5 1 v (msgL s.n T ys g).length ((msgL s.n T ys g).map byteV) ∧ Below W.heap.size W w') := Lib.hid (fun W hW => by
              have hb : Below w2.heap.size w2 W := hbV.trans (hW.mono (by omega))
              have hm := MessageG A6 Au (lower s.n) c6 cu T s.ttl (sw ++ [x0]) g SA SS sc ssc W hT (HC62.out.below hW) (lightN_small (lightN_lower HLn.out)) (HCu.out.below hW) (fun d hd => (HS.out.2.2.below hb) d (HXm.out d hd)) (by omega) (fun d hd => ⟨by have := HD5.out d (HXm.out d hd); omega, (H5.out d (HXm.out d hd)).1, (H5.out d (HXm.out d hd)).2⟩) (fun d hd => by have := canX_len T d.l; have := HD5.out d (HXm.out d hd); omega) hfits (HSA.out.below hb) (low_bytes_len g HLg.out) (ownN_len (lower s.n) g.lb (lightN_lower HLn.out))
              unfold SigM.v at hm
              rw [← HT.out, lower_len, hxl] at hm
              refine hm.mono fun e w' h => ?_
              obtain ⟨v, ys, h1, h2, h3, h4⟩ := h
              rw [msgL_lower] at h3
              exact ⟨v, ys, h1, h2, h3, h4⟩)
            clear hfits
            generalize ((sw ++ [x0]).map fun d => canX s.t d.l) = L2 at *
            generalize (s.ds.map fun d => canX s.t d.l) = L1 at *
            refine wp_region_m2 mixed0 (by kernel_rfl) [.is (.agg #[.slice s.A s.n.length s.cap, .int .u16 s.t, .int .u32 s.ttl, .slice s.D s.ds.length s.dcap]), .is (.agg #[.int .u16 g.t, .int .u8 g.al, .int .u8 g.lb, .int .u32 g.ttl, .int .u32 g.ex, .int .u32 g.bg, .int .u16 g.tg, .slice SA g.n.length sc, .slice SS g.s.length ssc]),
              msgF V.heap.size s.n T L1 g, .is (.agg #[.slice A6 s.n.length c6, .int .u16 s.t, .int .u32 s.ttl, .slice Au (s.ds.length + 1) cu]), .is (.agg #[.int .u16 g.t, .int .u8 g.al, .int .u8 g.lb, .int .u32 g.ttl, .int .u32 g.ex, .int .u32 g.bg, .int .u16 g.tg, .slice SA g.n.length sc, .slice SS g.s.length ssc]),
              msgF V.heap.size s.n T L2 g, .is (.bool true), .is (.bool true)] ?_ ?_
            · intro ix o hio vals W hE haf
              have hb : Below w2.heap.size w2 W := hbV.trans (hE.mono (by omega))
              obtain ⟨s0, s1, s2, s3⟩ := cellsS ((hb.block _ (show w.heap.size < w2.heap.size by omega)).trans HQ.out)
              obtain ⟨k0', k1', k2', k3', k4', k5', k6', k7', k8', _⟩ := cells9 ((hb.block _ (show w.heap.size + 1 < w2.heap.size by omega)).trans HGQ.out)
              obtain ⟨t0, t1, t2, t3⟩ := cellsS ((hE.block _ (lt_block hq)).trans hq)
              have hzE := hE.size
              rcases ix with _ | _ | _ | _ | _ | _ | _ | _ | ix
              all_goals first
                | (exfalso; simp at hio; done)
                | (simp at hio; subst hio; simp [bindD, rdB, Region.binds, factAt] at haf; simp [opYield_def, yieldUpon, yielded, relAct, dstAt, Act.put, Region.wanted, go_sem, haf, s0, s1, s2, s3, k0', k1', k2', k3', k4', k5', k6', k7', k8', t0, t1, t2, t3, Ext.refl, factAt]; done)
                | skip
              all_goals
                simp at hio
                subst hio
                simp [bindD, rdB, Region.binds, factAt] at haf
              · simp [opYield_def, yieldUpon, relAct, dstAt, Act.put, Region.wanted, go_sem, haf, factAt]
                refine (HM1.out W hE).mono fun e W' h => ?_
                obtain ⟨v, ys, h1, h2, h3, h4⟩ := h
                exact ⟨v, h1, h4, ys, h2, own_base h3 hzE⟩
              · simp [opYield_def, yieldUpon, relAct, dstAt, Act.put, Region.wanted, go_sem, haf, factAt]
                refine (HM2.out W hE).mono fun e W' h => ?_
                obtain ⟨v, ys, h1, h2, h3, h4⟩ := h
                exact ⟨v, h1, h4, ys, h2, own_base h3 hzE⟩
              · rw [msg_p, msg_p] at haf
                obtain ⟨⟨ys1, h1, h2⟩, ys2, h3, h4⟩ := haf
                have hys : ys1 = ys2 := told_same h1 h3 HXt.out
                subst hys
                obtain ⟨Aa, ca, ea, _, hca⟩ := Cs.of_own h2
                obtain ⟨Ab, cb, eb, _, hcb⟩ := Cs.of_own h4
                simp [opYield_def, yieldUpon, relAct, dstAt, Act.put, Region.wanted, go_sem, ea, eb, factAt]
                refine (HBytes Aa Ab _ _ ca cb W hca hcb).mono fun e W' h => ?_
                obtain ⟨h1, h2⟩ := h
                subst h2
                rw [decide_eq_true rfl] at h1
                exact ⟨h1, Ext.refl _⟩
            · intro vals W hE hF
              have h7 : vals 7 = .bool true := hF 7 (by show 7 < 8; omega)
              simp [relAct, dstAt, Act.put]
              rw [h7]
              clear hF h7
              have hbF := hb2.trans ((hbV.trans (hE.mono (by omega))).mono (by omega))
              go_wp2_with fail
              go_ret
              exact ⟨rfl, hbF⟩
end Nm
end Go.Proofs.YtkeimgamjnpcbaaGreat
