/-
  Texts merged by a program (MsgR, RSame).
-/
import Derived.StillTailTactics
import Derived.Deep.CutRange
import Derived.Test.YthogembgndkmpaaGreatDoorHk1
import Derived.Test.YthogembgndkmpaaGreatDoorHk2
import Derived.Test.YthogembgndkmpaaGreatDoorHk7
import Derived.Test.YthogembgndkmpaaGreatDoorHk10
import Derived.Test.YthogembgndkmpaaGreatDoorHk11
import Derived.Test.YthogembgndkmpaaGreatDoorHk13
set_option linter.unusedSimpArgs false
set_option linter.unusedVariables false
/- signetref18.Message: what is signed, by the reference. -/
namespace Go.Proofs.YthogembgndkmpaaGreatDoor
open Go.RowKit
namespace Nm
/-- the data laid in so far -/
def MsI (t : Nat) (ds : List Blob) (B0 : Nat) (W3 : World) (vi vl : Value) (wr : World) : Prop := ∃ (k : Nat) (ys : List Blob) (A : Option Addr) (c : Nat), k ≤ ds.length ∧ vi = .int .i64 (k : Int) ∧ vl = .slice A ys.length c ∧ ys.length ≤ c ∧ c ≤ maxLen ∧ (A = none → c = 0) ∧ ys.length ≤ k ∧
  Cs wr A (ys.map Blob.v) ∧ Blobs wr ys ∧ StrictOf ((ds.take k).map fun d => canX t d.l) (ys.map (·.l)) ∧ Below W3.heap.size W3 wr ∧ (∀ a, A = some a → W3.heap.size ≤ a.block) ∧ (∀ b ∈ ys, ∀ a, b.A = some a → b.l.map byteV ≠ [] → a.block < B0 ∨ W3.heap.size ≤ a.block)
def MsJ (ys : List Blob) (d : Lab) (w : World) (vj : Value) (wr : World) : Prop := ∃ j : Nat, j ≤ ys.length ∧ vj = .int .i64 (j : Int) ∧ (∀ y ∈ (ys.map (·.l)).take j, ltB y d) ∧ ∃ q, wr = w.drewN q
theorem wpList_bytesM {ops : Array Oper} {rest : List Oper} {o : Oper} {a : Act} {Q : Exit → Act → World → Prop} {w : World} {B : Nat} {v : Value} {n : Nat} {xs : Lab}
    (hown : w.ownsRow B 5 1 v n (xs.map byteV)) (hB : B ≤ w.heap.size) {A : Option Addr} {s : Lab} {c : Nat} (hs2 : Cs w A (s.map byteV)) (hgd : o.guard = none) (sl x : Operand) {t : TypeId} (ht : Tryz.prog.underlying t = some (.slice 5))
    (ho : o.op = .call { callee := .builtin .append, args := #[sl, x], argTypes := #[t, t] }) (hs : a.eval sl = v) (hx : a.eval x = .slice A s.length c) (hn : n + s.length ≤ 1000000000)
    (h : ∀ v' w', w'.ownsRow B 5 1 v' (n + s.length) ((xs ++ s).map byteV) → Moved v w v' w' → wpList Tryz.prog ops Q rest (a.put o.dst v') w') : wpList Tryz.prog ops Q (o :: rest) a w := by
  obtain ⟨i0, hi, hz0, hz1, hz2⟩ := info_parts info_u8
  cases A with
  | none =>
    have hsn : s = [] := by simpa using hs2.none_nil
    subst hsn
    refine wpList_nothing hgd sl x t ho ht hi hs hown hx ?_
    refine h v w ?_ (Moved.refl _ _)
    simpa using hown
  | some b =>
    refine wpList_plain hgd fun K hK => ?_
    obtain ⟨v', W', hr, h2, h3, _, hat⟩ := run_append_own_at (P := Tryz.prog) w B t o.type 5 i0 _ 1 1 ht hi hz0 hz1 hz2 rfl (by decide) v n _ hown b s.length c (s.map byteV) (by simp) hs2.cells (byteV_one s) (by unfold maxLen; omega) (by omega) hB
    unfold Oper.wp execOp
    simp only [ho, resolve, invoke, builtin, Sem.run_bind, Sem.run_pure, Result.andThen_ok, List.map_toArray, List.map_cons, List.map_nil, hs, hx, hr]
    rw [← List.map_append] at h2
    refine hK _ _ (h v' W' h2 ⟨Kept.of_grown h3, fun k hk => ?_⟩)
    rcases hat with hat | hat
    · exact .inl (hat ▸ hk)
    · rw [hat] at hk
      cases hk
      exact .inr (Nat.le_refl _)
theorem small_own {n : List Lab} (h : Small n) (lb : Nat) : Small (ownN n lb) := by
  unfold ownN
  split
  · exact h.lower
  · rename_i hlt
    refine ⟨?_, fun l hl => ?_⟩
    · have h1 := h.1
      rw [List.length_cons, List.length_drop, lower_len]
      omega
    · rcases List.mem_cons.1 hl with rfl | hl
      · decide
      · exact h.lower.2 l (List.mem_of_mem_drop hl)
def lines (hb : Lab) (xs : List Blob) : Lab := xs.flatMap (fun x => hb ++ be2 x.l.length ++ x.l)
def MsO (B : Nat) (w8 : World) (v6 : Value) (gb hb : Lab) (ys : List Blob) (vi vo : Value) (wr : World) : Prop := ∃ k : Nat, k ≤ ys.length ∧ vi = .int .i64 (k : Int) ∧ wr.ownsRow B 5 1 vo (gb ++ lines hb (ys.take k)).length ((gb ++ lines hb (ys.take k)).map byteV) ∧ Moved v6 w8 vo wr
theorem lines_len (hb : Lab) (xs : List Blob) (h1 : ∀ x ∈ xs, x.l.length ≤ 20000) (h2 : hb.length ≤ 10008) : ∀ k, k ≤ xs.length → (lines hb (xs.take k)).length ≤ k * 30010 := pieces_len hb xs h1 h2
theorem lines_step (hb : Lab) (xs : List Blob) (k : Nat) (x : Blob) (hx : xs[k]? = some x) : lines hb (xs.take (k + 1)) = lines hb (xs.take k) ++ hb ++ be2 x.l.length ++ x.l := by
  unfold lines
  rw [List.take_add_one, hx, List.flatMap_append]
  simp
theorem sliceDropS (A : Option Addr) (n c k : Nat) (I : Int) (hI : I = (k : Int)) (h1 : k ≤ n) (h2 : n ≤ c) (W : World) : (Instr.sliceAt 26 (.slice A n c) (some (.int .i64 I)) none none).run Tryz.prog W = .ok (.slice (piece A c k) (n - k) (c - k)) W := by
  subst hI
  unfold piece
  by_cases hc : c = k
  · have hn : n = k := by omega
    subst hc
    subst hn
    simp [go_sem]
  · have h3 : (k : Int) ≤ (n : Int) := by omega
    have h4 : (n : Int) ≤ (c : Int) := by omega
    simp [go_sem, hc, h1, h2, h3, h4]
theorem wpList_dropS {ops : Array Oper} {rest : List Oper} {o : Oper} {a : Act} {w : World} {Q : Exit → Act → World → Prop} (hgd : o.guard = none) (x lo : Operand) (ho : o.op = .slice 26 x (some lo) none none)
    {A : Option Addr} {n c k : Nat} {I : Int} (hx : a.eval x = .slice A n c) (hlo : a.eval lo = .int .i64 I) (hI : I = (k : Int)) (h1 : k ≤ n) (h2 : n ≤ c) (h : wpList Tryz.prog ops Q rest (a.put o.dst (.slice (piece A c k) (n - k) (c - k))) w) : wpList Tryz.prog ops Q (o :: rest) a w := by
  refine wpList_plain hgd fun K hK => ?_
  have hs := sliceDropS A n c k I hI h1 h2 w
  unfold Oper.wp execOp
  simp only [ho, hx, hlo, Sem.run_bind, Sem.run_pure, Result.andThen_ok, Option.map_some, Option.map_none, hs]
  exact hK _ _ h
theorem still_plain {P : Program} {ops : Array Oper} {w : World} {Q : Act → Prop} {a : Act} {o : Oper} {rest : List Oper} (hg : o.guard = none) (v : Value) (hr : (execOp a.eval o).run P w = .ok (.value v) w) (h : ∀ K : Act → Prop, (∀ a, wpStill P ops w Q rest a → K a) → K (a.put o.dst v)) : wpStill P ops w Q (o :: rest) a := by
  refine wpStill_step (fun K hK => ?_)
  have hw : Region.wanted o (yielded ops a.tmps) = true := by simp [Region.wanted, hg]
  rw [if_pos hw]
  unfold Oper.still
  rw [hr, Oper.stillUpon_value]
  exact h K hK
theorem still_skip {P : Program} {ops : Array Oper} {w : World} {Q : Act → Prop} {a : Act} {o : Oper} {rest : List Oper} (hw : Region.wanted o (yielded ops a.tmps) = false) (h : ∀ K : Act → Prop, (∀ a, wpStill P ops w Q rest a → K a) → K (a.put o.dst undef)) : wpStill P ops w Q (o :: rest) a := by
  refine wpStill_step (fun K hK => ?_)
  rw [if_neg (by rw [hw]; decide)]
  exact h K hK
theorem blobs_one (bs : List Blob) : ∀ u ∈ bs.map Blob.v, u.oneCell' = true := by
  intro u hu
  obtain ⟨b, _, rfl⟩ := List.mem_map.1 hu
  rfl
theorem ownCapsM {w : World} {B : Nat} {e : TypeId} {A : Option Addr} {n c : Nat} {xs : List Value} (h : w.ownsRow B e 1 (.slice A n c) n xs) (hn : 0 < n) : n ≤ c ∧ c ≤ maxLen ∧ A ≠ none := W.own_caps h hn
/-- bytes that lie somewhere -/
def bytesF (y : Lab) (A0 : Option Addr) (l0 : Lab) (B : Nat) : Fact := ⟨fun v W => ∃ A' c', v = .slice A' y.length c' ∧ Cs W A' (y.map byteV) ∧ (A' = A0 ∧ y = l0 ∨ ∀ a, A' = some a → B ≤ a.block), by
  intro v W W' hE h
  obtain ⟨A', c', h1, h2, h3⟩ := h
  exact ⟨A', c', h1, h2.below hE, h3⟩⟩
theorem bytesF_p (y : Lab) (A0 : Option Addr) (l0 : Lab) (B : Nat) (v : Value) (W : World) : (bytesF y A0 l0 B).p v W = ∃ A' c', v = .slice A' y.length c' ∧ Cs W A' (y.map byteV) ∧ (A' = A0 ∧ y = l0 ∨ ∀ a, A' = some a → B ≤ a.block) := rfl
set_option maxRecDepth 100000 in
set_option maxHeartbeats 20000000 in
theorem RMsg (A D : Option Addr) (n : List Lab) (cap dcap t : Nat) (sttl : Int) (ds : List Blob) (g : SigM) (SA SS : Option Addr) (sc ssc : Nat) (w : World) (ht : goodT t) (hA : Cs w A (n.map strV)) (hn : Small n) (hD : Cs w D (ds.map Blob.v)) (hds : Blobs w ds) (hdl : ds.length ≤ 20)
    (hcap : ∀ d ∈ ds, d.l.length ≤ 100000 ∧ d.l.length ≤ d.cap ∧ d.cap ≤ maxLen) (hcx : ∀ d ∈ ds, (canX t d.l).length ≤ 20000) (hg : g.fits) (hSA : Cs w SA (g.n.map strV)) (hgl : g.low.bytes.length ≤ 10000) (hwo : (wire (ownN n g.lb)).length ≤ 10000) :
    Calls Tryz.prog 13 #[.agg #[.slice A n.length cap, .int .u16 t, .int .u32 sttl, .slice D ds.length dcap], g.v SA sc SS ssc] w fun e w' =>
      ∃ v ys, e = .returned v ∧ StrictOf (ds.map fun d => canX t d.l) ys ∧ w'.ownsRow w.heap.size 5 1 v (msgL n t ys g).length ((msgL n t ys g).map byteV) ∧ Below w.heap.size w w' := by
  unfold SigM.v
  generalize hw2 : (w.alloc (.cells #[.slice A n.length cap, .int .u16 t, .int .u32 sttl, .slice D ds.length dcap] 34)).alloc (.cells #[.int .u16 g.t, .int .u8 g.al, .int .u8 g.lb, .int .u32 g.ttl, .int .u32 g.ex, .int .u32 g.bg, .int .u16 g.tg, .slice SA g.n.length sc, .slice SS g.s.length ssc] 41) = w2
  have hb2 : Below w.heap.size w w2 := by rw [← hw2]; exact ((Below.refl _ _).alloc (Nat.le_refl _) _).alloc (by simp) _
  have hsz2 : w2.heap.size = w.heap.size + 2 := by rw [← hw2]; simp
  have hs : w2.heap[w.heap.size]? = some (.cells #[.slice A n.length cap, .int .u16 t, .int .u32 sttl, .slice D ds.length dcap] 34 (0, 0)) := by
    rw [← hw2, Below.heap_alloc _ _ _ (by simp)]
    exact heap_alloc_new w _
  have hq : w2.heap[w.heap.size + 1]? = some (.cells #[.int .u16 g.t, .int .u8 g.al, .int .u8 g.lb, .int .u32 g.ttl, .int .u32 g.ex, .int .u32 g.bg, .int .u16 g.tg, .slice SA g.n.length sc, .slice SS g.s.length ssc] 41 (0, 0)) := by
    rw [← hw2]
    have := heap_alloc_new (w.alloc (.cells #[.slice A n.length cap, .int .u16 t, .int .u32 sttl, .slice D ds.length dcap] 34)) (.cells #[.int .u16 g.t, .int .u8 g.al, .int .u8 g.lb, .int .u32 g.ttl, .int .u32 g.ex, .int .u32 g.bg, .int .u16 g.tg, .slice SA g.n.length sc, .slice SS g.s.length ssc] 41)
    simpa using this
  obtain ⟨k0, k1, k2, k3, k4, k5, k6, k7, k8, kf⟩ := cells9 hq
  have f7 := kf 7
  have f8 := kf 8
  have HS := Lib.hid (And.intro hs hq)
  have HG := Lib.hid (And.intro hg (And.intro hgl hwo))
  have HD := Lib.hid (And.intro hD (And.intro hds (And.intro hcap hcx)))
  have HA := Lib.hid (And.intro hA (And.intro hn hSA))
  clear hs hq hg hgl hwo hD hds hcap hcx hA hn hSA kf
  go_enter Tryz.func13, Tryz.ntmps13
  go_wp2_with fail
  clear hw2
  have hq3 : (w2.setCell ⟨w.heap.size + 1, 8, none⟩ (.slice none 0 0)).heap[w.heap.size + 1]? = some (.cells #[.int .u16 g.t, .int .u8 g.al, .int .u8 g.lb, .int .u32 g.ttl, .int .u32 g.ex, .int .u32 g.bg, .int .u16 g.tg, .slice SA g.n.length sc, .slice none 0 0] 41 (0, 0)) := heap_set (i := 8) (v := .slice none 0 0) HS.out.2
  have hb3 : Below w.heap.size w (w2.setCell ⟨w.heap.size + 1, 8, none⟩ (.slice none 0 0)) := hb2.setCell (p := ⟨w.heap.size + 1, 8, none⟩) (by show w.heap.size ≤ w.heap.size + 1; omega) _
  have hs3 : (w2.setCell ⟨w.heap.size + 1, 8, none⟩ (.slice none 0 0)).heap[w.heap.size]? = some (.cells #[.slice A n.length cap, .int .u16 t, .int .u32 sttl, .slice D ds.length dcap] 34 (0, 0)) := by
    have := ((Kept.refl (fun k => k = w.heap.size + 1) w2).setCell (p := ⟨w.heap.size + 1, 8, none⟩) (fun _ => rfl) (.slice none 0 0)).block w.heap.size (by omega) (by omega)
    exact this.trans HS.out.1
  have hz3 : (w2.setCell ⟨w.heap.size + 1, 8, none⟩ (.slice none 0 0)).heap.size = w.heap.size + 2 := by simpa using hsz2
  generalize w2.setCell ⟨w.heap.size + 1, 8, none⟩ (.slice none 0 0) = w3 at *
  have hA3 := HA.out.2.2.below hb3
  have HB3 := Lib.hid (And.intro hq3 (And.intro hs3 hb3))
  clear hq3 hs3 hb3 k0 k1 k2 k3 k4 k5 k6 k7 k8 f7 f8 hb2 hsz2 HS
  refine (RLower SA g.n sc w3 hA3 HG.out.1.n.few).mono ?_
  rintro e w4 ⟨v4, rfl, hown4, hb4⟩
  obtain ⟨A4, c4, rfl, _, h4c⟩ := Cs.of_own hown4
  have hq4 := (hb4.block (w.heap.size + 1) (by omega)).trans HB3.out.1
  have hs4 := (hb4.block (w.heap.size) (by omega)).trans HB3.out.2.1
  have hz4 := hb4.size
  have hb04 := HB3.out.2.2.trans (hb4.mono (by omega))
  obtain ⟨k0, k1, k2, k3, k4, k5, k6, k7, k8, kf⟩ := cells9 hq4
  have f7 := kf 7
  have HQ4 := Lib.hid (And.intro hq4 (And.intro hs4 (And.intro hb04 (And.intro hown4 h4c))))
  clear hq4 hs4 hb04 kf hA3 hown4 h4c hb4
  go_wp2_with fail
  have hq5 : (w4.setCell ⟨w.heap.size + 1, 7, none⟩ (.slice A4 g.n.length c4)).heap[w.heap.size + 1]? = some (.cells #[.int .u16 g.t, .int .u8 g.al, .int .u8 g.lb, .int .u32 g.ttl, .int .u32 g.ex, .int .u32 g.bg, .int .u16 g.tg, .slice A4 g.n.length c4, .slice none 0 0] 41 (0, 0)) := heap_set (i := 7) (v := .slice A4 g.n.length c4) HQ4.out.1
  have hb5 : Below w.heap.size w (w4.setCell ⟨w.heap.size + 1, 7, none⟩ (.slice A4 g.n.length c4)) := HQ4.out.2.2.1.setCell (p := ⟨w.heap.size + 1, 7, none⟩) (by show w.heap.size ≤ w.heap.size + 1; omega) _
  have hk5 := (Kept.refl (fun k => k = w.heap.size + 1) w4).setCell (p := ⟨w.heap.size + 1, 7, none⟩) (fun _ => rfl) (.slice A4 g.n.length c4)
  have hs5 := (hk5.block w.heap.size (by omega) (by omega)).trans HQ4.out.2.1
  have hrow5 := Kept.row HQ4.out.2.2.2.1 hk5 (fun k hk => by have := (HQ4.out.2.2.2.1.lt k hk).1; omega)
  obtain ⟨A4', c4', e4', _, h4c5⟩ := Cs.of_own hrow5
  cases e4'
  have hz5 : (w4.setCell ⟨w.heap.size + 1, 7, none⟩ (.slice A4 g.n.length c4)).heap.size = w4.heap.size := by simp
  generalize w4.setCell ⟨w.heap.size + 1, 7, none⟩ (.slice A4 g.n.length c4) = w5 at *
  have hsb := RSigBytes g.low (SigM.low_fits HG.out.1) A4 none c4 0 w5 h4c5 (Cs.nil _ _)
  have hbytes : Hid (g.low.bytes = SigM.bytes { g with n := lower g.n, s := [] }) := Lib.hid rfl
  unfold SigM.v SigM.low at hsb
  simp only [lower_len, List.length_nil] at hsb
  have hgl := HG.out.2.1
  rw [← hbytes.out] at hsb
  generalize hgb : g.low.bytes = gb at *
  have HGB := Lib.hid hgb
  clear hgb
  have HQ5 := Lib.hid (And.intro hq5 (And.intro hs5 hb5))
  clear hq5 hs5 hb5 hk5 hrow5 h4c5 k0 k1 k2 k3 k4 k5 k6 k7 k8 f7 HQ4 HB3
  refine hsb.mono ?_
  rintro e w6 ⟨v6, rfl, hown6, hb6⟩
  have hz6 := hb6.size
  have hz7 : w.heap.size + 2 ≤ w6.heap.size := by omega
  have hq6 := (hb6.block (w.heap.size + 1) (by omega)).trans HQ5.out.1
  have hs6 := (hb6.block (w.heap.size) (by omega)).trans HQ5.out.2.1
  have hb06 := HQ5.out.2.2.trans (hb6.mono (by omega))
  have HQ6 := Lib.hid (And.intro hq6 (And.intro hs6 (And.intro hb06 (own_base hown6 (show w.heap.size + 2 ≤ w5.heap.size by omega)))))
  clear hq6 hs6 hb06 hown6 hb6 hsb HQ5 hz5 hz6 hz4 hz3
  go_wp2_with fail
  go_loopw [7, 6, 8, 9] (fun vi vl _ _ wr => MsI t ds w.heap.size w6 vi vl wr) (fun i _ _ _ _ => ds.length - (intOf i).toNat)
  case atStart => exact ⟨0, [], none, 0, Nat.zero_le _, rfl, rfl, Nat.le_refl _, by unfold maxLen; omega, fun _ => rfl, Nat.le_refl _, Cs.nil _ _, (fun b hb => by simp at hb), strict_nil, Below.refl _ _, (fun a ha => by cases ha), (fun b hb => by simp at hb)⟩
  case round =>
    obtain ⟨k, ys, Al, cl, hk, rfl, rfl, hyc, hcm, hnone, hyk, hcs, hbs, hst, hbel, hoA, hoB⟩ := hrel
    have HOF := Lib.hid (And.intro hoA hoB)
    clear hoA hoB
    have hsr := (hbel.block w.heap.size (by omega)).trans HQ6.out.2.1
    have hbw := HQ6.out.2.2.1.trans (hbel.mono (by omega))
    obtain ⟨s0, s1, s2, s3⟩ := cells4K hsr
    have hzr : w.heap.size + 2 ≤ wr.heap.size := Nat.le_trans hz7 hbel.size
    have HR := Lib.hid (And.intro hcs (And.intro hbs (And.intro hst (And.intro hbel (And.intro hsr hbw)))))
    clear hcs hbs hst hbel hsr hbw
    by_cases hlt : k < ds.length
    · have hbr := HR.out.2.2.2.2.2
      obtain ⟨bD, oD, rfl, hbD, hcD⟩ := Cs.blob HD.out.1 hlt
      have hcD2 := (hbr.cell (p := ⟨bD, oD + k, none⟩) hbD).trans hcD
      have hdm : ds[k] ∈ ds := List.getElem_mem hlt
      have hdl4 := HD.out.2.2.1 _ hdm
      have hcan : Hid (∀ W, Below wr.heap.size wr W → Calls Tryz.prog 30 #[.int .u16 (t : Int), .slice ds[k].A ds[k].l.length ds[k].cap] W fun e w' => Below W.heap.size W w' ∧ ∃ A' c', e = .returned (.slice A' (canX t ds[k].l).length c') ∧ Cs w' A' ((canX t ds[k].l).map byteV) ∧ (A' = ds[k].A ∧ canX t ds[k].l = ds[k].l ∨ ∀ a, A' = some a → W.heap.size ≤ a.block)) := Lib.hid fun W hW =>
        RCan t ht ds[k].A ds[k].l ds[k].cap W (Cs.below (Cs.below (HD.out.2.1 _ hdm) hbr) hW) hdl4.1 hdl4.2.1 hdl4.2.2
      have HDB : Hid (∀ a, ds[k].A = some a → ds[k].l.map byteV ≠ [] → a.block < w.heap.size) := Lib.hid (fun a ha hne => Cs.where (HD.out.2.1 _ hdm) ha hne)
      have h66 : w6.heap.size ≤ wr.heap.size := HR.out.2.2.2.1.size
      have htk2 : Hid ((ds.take (k + 1)).map (fun d => canX t d.l) = (ds.take k).map (fun d => canX t d.l) ++ [canX t ds[k].l]) := Lib.hid (by
        show _ = _
        rw [List.take_succ_eq_append_getElem hlt, List.map_append]; rfl)
      generalize ds[k] = dk at *
      generalize canX t dk.l = y at *
      clear hcD hbr
      go_wp2_with fail
      refine wp_region_x (by kernel_rfl) (by kernel_rfl) wr.heap.size (Nat.le_refl _) [.c (.is (.pointer (some ⟨w.heap.size, 1, none⟩))), .c (.is (.int .u16 (t : Int))), .c (.is (.pointer (some ⟨w.heap.size, 3, none⟩))), .c (.is (.slice (some ⟨bD, oD, none⟩) ds.length dcap)), .c (.is (.int .i64 (k : Int))), .c (.is (.pointer (some ⟨bD, oD + k, none⟩))), .c (.is (.slice dk.A dk.l.length dk.cap)),
        .c (bytesF y dk.A dk.l w6.heap.size), .d [7] (fun vs => .is (vs 7))] (by kernel_rfl) (fun i => 0) (fun j => if j = 7 then 3 else 0) (by kernel_rfl) ?_ (fun _ => True) trivial (fun _ _ _ _ => trivial) (fun _ _ _ _ => trivial) ?_ ?_
      · intro j vals
        rcases j with _ | _ | _ | _ | _ | _ | _ | _ | _ | j
        all_goals first
          | exact plain_is _
          | exact trivial
          | (rw [if_neg (by omega)]; exact plain_any)
      · intro i o hio vals W hE haf _
        have hz := hE.size
        have e1 := (bcl (o := 1) hE (by omega)).trans s1
        have e3 := (bcl (o := 3) hE (by omega)).trans s3
        have ed := (bcl (o := oD + k) hE (show bD < wr.heap.size by omega)).trans hcD2
        rcases i with _ | _ | _ | _ | _ | _ | _ | _ | _ | i
        all_goals first
          | (exfalso; simp at hio; done)
          | skip
        all_goals
          simp at hio
          subst hio
          simp [bindD, rdB, Region.binds, dfAt, DF.d_at] at haf
        all_goals first
          | (simp [opYield_def, yieldUpon, relAct, dstAt, Act.put, Region.wanted, go_sem, haf, e1, e3, ed, hlt, Ext.refl, dfAt, DF.d_at, kindX]; done)
          | skip
        · simp [opYield_def, yieldUpon, relAct, dstAt, Act.put, Region.wanted, go_sem, haf, dfAt, DF.d_at, kindX]
          refine (hcan.out W hE).mono fun e W' h5 => ?_
          obtain ⟨hb, A', c', he, hcy, hoy⟩ := h5
          exact ⟨_, he, hb, A', c', rfl, hcy, hoy.imp id (fun h a ha => Nat.le_trans h66 (Nat.le_trans hz (h a ha)))⟩
      · intro vals W hE hF
        have h7 := hF 7 (by show 7 < 9; omega) (by kernel_rfl)
        have h8 := hF 8 (by show 8 < 9; omega) (by kernel_rfl)
        simp only [dfAt, DF.d_at] at h7 h8
        have h7 : (bytesF y dk.A dk.l w6.heap.size).p (vals 7) W := h7
        rw [bytesF_p] at h7
        obtain ⟨Ay, cy, hv7, hcy, hoy⟩ := h7
        have HOY : Hid (∀ a, Ay = some a → y.map byteV ≠ [] → a.block < w.heap.size ∨ w6.heap.size ≤ a.block) := Lib.hid (fun a ha hne => by
          rcases hoy with ⟨h, he⟩ | h
          · rw [h] at ha; rw [he] at hne; exact .inl (HDB.out a ha hne)
          · exact .inr (h a ha))
        clear hoy
        have h8 : vals 8 = vals 7 := by simpa [DF.d_at] using h8
        simp [relAct, dstAt, Act.put]
        rw [h8, hv7]
        have hzW := hE.size
        have HRW := Lib.hid (And.intro (HR.out.1.below hE) (And.intro (HR.out.2.1.below hE) (And.intro HR.out.2.2.1 (And.intro (HR.out.2.2.2.1.trans (hE.mono HR.out.2.2.2.1.size)) (And.intro ((hE.block w.heap.size (by omega)).trans HR.out.2.2.2.2.1) (And.intro (HR.out.2.2.2.2.2.trans (hE.mono (by omega))) hcy))))))
        clear hF h8 hv7 hcy
        generalize vals 0 = z0 at *
        generalize vals 1 = z1 at *
        generalize vals 2 = z2 at *
        generalize vals 3 = z3 at *
        generalize vals 4 = z4 at *
        generalize vals 5 = z5 at *
        generalize vals 6 = z6 at *
        generalize vals 7 = z7 at *
        generalize vals 8 = z8 at *
        clear hcD2 s0 s1 s2 s3 hE hcan
        go_wp2_with fail
        go_loopw [9] (fun vj wq => MsJ ys y W vj wq) (fun vj _ => ys.length - (intOf vj).toNat)
        case atStart => exact ⟨0, Nat.zero_le _, rfl, fun y hy => by simp at hy, 0, rfl⟩
        case round =>
          obtain ⟨j, hj, rfl, hlow, q, hwq⟩ := hrel
          rw [hwq]
          clear hwq
          have hV : (∀ p, (W.drewN q).cell? p = W.cell? p) ∧ (W.drewN q).heap = W.heap := ⟨fun _ => rfl, rfl⟩
          have HLow := Lib.hid hlow
          clear hlow
          by_cases hjl : j < ys.length
          · -- [[
            skip
            obtain ⟨bL, oL, rfl, hbL, hcL⟩ := Cs.blob HRW.out.1 hjl
            have hcL2 : (W.drewN q).cell? ⟨bL, oL + j, none⟩ = some (.slice ys[j].A ys[j].l.length ys[j].cap) := hcL
            have hyo : Blob.ok (W.drewN q) ys[j] := HRW.out.2.1 _ (List.getElem_mem hjl)
            have hyy : Cs (W.drewN q) Ay (y.map byteV) := HRW.out.2.2.2.2.2.2
            have htk : Hid ((ys.map (·.l)).take (j + 1) = (ys.map (·.l)).take j ++ [ys[j].l]) := Lib.hid (by
              have : j < (ys.map (·.l)).length := by simpa using hjl
              rw [List.take_succ_eq_append_getElem this]
              simp)
            have hge : Hid ((ys.map (·.l))[j]? = some ys[j].l) := Lib.hid (by simp [hjl])
            generalize ys[j] = yj at *
            clear hcL hV
            have HV : Hid ((W.drewN q).heap = W.heap ∧ ∃ q', W.drewN q = W.drewN q') := Lib.hid ⟨rfl, q, rfl⟩
            generalize hVV : W.drewN q = V at *
            have HVV := Lib.hid hVV
            clear hVV
            have hv1 : (convert 28 9 (.slice yj.A yj.l.length yj.cap)).run Tryz.prog V.drew = .ok (.string (strB yj.l)) V.drew :=
              run_str (P := Tryz.prog) V.drew Tryz.underlying28 Tryz.underlying5 Tryz.underlying9 yj.cap (show Cs V.drew yj.A (yj.l.map byteV) from hyo)
            have hv2 : (convert 28 9 (.slice Ay y.length cy)).run Tryz.prog V.drew = .ok (.string (strB y)) V.drew :=
              run_str (P := Tryz.prog) V.drew Tryz.underlying28 Tryz.underlying5 Tryz.underlying9 cy (show Cs V.drew Ay (y.map byteV) from hyy)
            have hcL3 : V.drew.cell? ⟨bL, oL + j, none⟩ = some (.slice yj.A yj.l.length yj.cap) := hcL2
            have hyc2 : ys.length ≤ cl := hyc
            go_wp2_with fail
            go_still mixed
            change Exit.then _ _ _ _ V.drew
            have hVV := HVV.out
            subst hVV
            have hQ : ∃ q', (W.drewN q).drew = W.drewN q' := ⟨q + 1, rfl⟩
            rw [strB_toList, strB_toList, less_lt]
            have HF : Hid (Cs (W.drewN q).drew.drew (some ⟨bL, oL, none⟩) (ys.map Blob.v) ∧ Blobs (W.drewN q).drew.drew ys ∧ Below w6.heap.size w6 (W.drewN q).drew.drew ∧ Cs (W.drewN q).drew.drew Ay (y.map byteV)) := Lib.hid ⟨HRW.out.1, HRW.out.2.1, below_drewN HRW.out.2.2.2.1 (q + 1 + 1), HRW.out.2.2.2.2.2.2⟩
            by_cases hlty : ltB yj.l y
            · rw [decide_eq_true hlty]
              go_wp2_with fail
              refine ⟨⟨j + 1, hjl, by go_num, ?_, q + 1, rfl⟩, by simp [intOf]; omega⟩
              intro z hz
              rw [htk.out, List.mem_append, List.mem_singleton] at hz
              rcases hz with hz | rfl
              · exact HLow.out z hz
              · exact hlty
            · rw [decide_eq_false hlty]
              go_wp2_with fail
              have HVF : Hid (∀ V2, V2 = W.drewN (q + 1) → Cs V2.drew (some ⟨bL, oL, none⟩) (ys.map Blob.v) ∧ Blobs V2.drew ys ∧ Below w6.heap.size w6 V2.drew ∧ Cs V2.drew Ay (y.map byteV) ∧ V2.drew.cell? ⟨bL, oL + j, none⟩ = some (.slice yj.A yj.l.length yj.cap) ∧ Blob.ok V2.drew yj) := Lib.hid (by
                intro V2 h2
                subst h2
                exact ⟨HRW.out.1, HRW.out.2.1, below_drewN HRW.out.2.2.2.1 (q + 1 + 1), HRW.out.2.2.2.2.2.2, hcL2, hyo⟩)
              generalize hV2 : W.drewN (q + 1) = V2 at *
              obtain ⟨f1, f2, f3, f4, f5, f6⟩ := HVF.out V2 rfl
              have hw1 : (convert 28 9 (.slice yj.A yj.l.length yj.cap)).run Tryz.prog V2.drew = .ok (.string (strB yj.l)) V2.drew :=
                run_str (P := Tryz.prog) V2.drew Tryz.underlying28 Tryz.underlying5 Tryz.underlying9 yj.cap f6
              have hw2 : (convert 28 9 (.slice Ay y.length cy)).run Tryz.prog V2.drew = .ok (.string (strB y)) V2.drew :=
                run_str (P := Tryz.prog) V2.drew Tryz.underlying28 Tryz.underlying5 Tryz.underlying9 cy f4
              have hne : ((j : Int) == (ys.length : Int)) = false := by simp; omega
              have HF := Lib.hid (And.intro f1 (And.intro f2 (And.intro f3 f4)))
              clear hV2 f1 f2 f3 f4 f6 HVF hv1 hv2 hcL3
              go_still mixed
              change Exit.then _ _ _ _ V2.drew
              rw [strB_toList, strB_toList]
              have hge2 := hge.out
              by_cases heq : yj.l = y
              · have hbe : (yj.l == y) = true := by simp [heq]
                rw [hbe]
                generalize V2.drew = U at *
                go_wp2_with fail
                refine ⟨⟨k + 1, ys, _, cl, hlt, by go_num, rfl, hyc, hcm, (fun h => by cases h), by omega, HF.out.1, HF.out.2.1, ?_, HF.out.2.2.1, HOF.out.1, HOF.out.2⟩, by simp [intOf]; omega⟩
                rw [htk2.out]
                refine strict_there HR.out.2.2.1 ?_
                rw [← heq]
                exact List.mem_of_getElem? hge.out
              · have hbe : (yj.l == y) = false := by simp [heq]
                rw [hbe]
                have HGE : Hid (∀ z, (ys.map (·.l))[j]? = some z → ltB y z) := Lib.hid (by
                  intro z hz
                  rw [hge.out] at hz
                  cases hz
                  rcases ltB_tot yj.l y with h | h | h
                  · exact absurd h hlty
                  · exact absurd h heq
                  · exact h)
                generalize V2.drew = U at *
                go_wp2_with fail
                have HU : Hid (Cs U (some ⟨bL, oL, none⟩) (ys.map Blob.v) ∧ Blobs U ys ∧ Below w6.heap.size w6 U ∧ Cs U Ay (y.map byteV)) := Lib.hid HF.out
                refine wp_region_x (by kernel_rfl) (by kernel_rfl) U.heap.size (Nat.le_refl _) [.c (.is (.slice (some ⟨bL, oL, none⟩) ys.length cl)), .c (.is (.int .i64 (j : Int))), .c (.is (.int .i64 (j : Int))), .c (.is (.slice (some ⟨bL, oL, none⟩) j j)), .c (.is (.slice Ay y.length cy)), .c (.own U.heap.size 28 1 1 [.slice Ay y.length cy]), .c (.is (.slice (some ⟨bL, oL, none⟩) ys.length cl)), .c (.is (.int .i64 (j : Int))),
                  .c (.is (.slice (piece (some ⟨bL, oL, none⟩) cl j) (ys.length - j) (cl - j))), .c (.own U.heap.size 28 1 (1 + (ys.length - j)) ([.slice Ay y.length cy] ++ (ys.drop j).map Blob.v)), .c (.own U.heap.size 28 1 (j + (1 + (ys.length - j))) ((ys.take j).map Blob.v ++ ([.slice Ay y.length cy] ++ (ys.drop j).map Blob.v))), .d [10] (fun vs => .is (vs 10))] (by kernel_rfl) (fun i => if i = 9 then 2 else 0) (fun j => if j = 5 ∨ j = 9 ∨ j = 10 then 1 else 0) (by kernel_rfl) ?_ (fun _ => True) trivial (fun _ _ _ _ => trivial) (fun _ _ _ _ => trivial) ?_ ?_
                · intro j vals
                  rcases j with _ | _ | _ | _ | _ | _ | _ | _ | _ | _ | _ | _ | j
                  all_goals first
                    | exact plain_is _
                    | exact kind_own _ _ _ _ _ _ (Nat.le_refl _)
                    | (rw [if_neg (by omega)]; exact plain_any)
                · intro i o hio vals W2 hE haf _
                  rcases i with _ | _ | _ | _ | _ | _ | _ | _ | _ | _ | _ | _ | i
                  all_goals first
                    | (exfalso; simp at hio; done)
                    | skip
                  all_goals
                    simp at hio
                    subst hio
                    simp [bindD, rdB, Region.binds, dfAt, DF.d_at] at haf
                  all_goals first
                    | (simp [opYield_def, yieldUpon, relAct, dstAt, Act.put, Region.wanted, go_sem, haf, Ext.refl, dfAt, DF.d_at, kindX]; done)
                    | skip
                  · refine yield_slice3 rfl (.tmp 65) (.tmp 66) (.tmp 67) rfl (A := (some ⟨bL, oL, none⟩)) (n := ys.length) (c := cl) (k := j) (I := (j : Int)) (by simp [relAct, dstAt, Act.put, Act.eval, haf]) (by simp [relAct, dstAt, Act.put, Act.eval, haf]) (by simp [relAct, dstAt, Act.put, Act.eval, haf]) rfl hj hyc ?_
                    exact ⟨Ext.refl _, rfl⟩
                  · simp [opYield_def, yieldUpon, relAct, dstAt, Act.put, Region.wanted, go_sem, haf, dfAt, DF.d_at, kindX]
                    exact ⟨(Below.refl _ _).alloc (Nat.le_refl _) _, own_rowC W2 U.heap.size 28 [.slice Ay y.length cy] hE.size (by simp)⟩
                  · refine yield_dropB rfl (.tmp 71) (.tmp 72) rfl (A := (some ⟨bL, oL, none⟩)) (n := ys.length) (c := cl) (k := j) (I := (j : Int)) (by simp [relAct, dstAt, Act.put, Act.eval, haf]) (by simp [relAct, dstAt, Act.put, Act.eval, haf]) rfl hj hyc ?_
                    exact ⟨Ext.refl _, rfl⟩
                  · obtain ⟨h5, h8⟩ := haf
                    have hcsU := (HU.out.1.below hE).drop' j cl (by simpa using hyc)
                    rw [← List.map_drop] at hcsU
                    have hdl : ((ys.drop j).map Blob.v).length = ys.length - j := by simp
                    refine yield_rowsB rfl (.tmp 70) (.tmp 73) Tryz.underlying32 rfl (v := vals 5) (by simp [relAct, dstAt, Act.put, Act.eval]) h5 hE.size (us := (ys.drop j).map Blob.v) (A := piece (some ⟨bL, oL, none⟩) cl j) (c := cl - j) (by rw [hdl]; simp [relAct, dstAt, Act.put, Act.eval, h8]) hcsU (blobs_one _) (by rw [hdl]; omega) ?_
                    intro v' W' g1 g2
                    rw [hdl] at g1
                    exact ⟨g2, g1⟩
                  · obtain ⟨h3, h9⟩ := haf
                    have h9 : W2.ownsRow U.heap.size 28 1 (vals 9) (1 + (ys.length - j)) ([.slice Ay y.length cy] ++ (ys.drop j).map Blob.v) := by simpa [List.map_drop] using h9
                    obtain ⟨A9, c9, e9, _, hc9⟩ := Cs.of_own h9
                    have hne : A9 ≠ none := fun h => by
                      have := ownCapsM (by rw [e9] at h9; exact h9) (by omega)
                      exact this.2.2 h
                    obtain ⟨a9, rfl⟩ : ∃ a, A9 = some a := by cases A9 with | none => exact absurd rfl hne | some a => exact ⟨a, rfl⟩
                    have htU : Cs W2 (some ⟨bL, oL, none⟩) ((ys.take j).map Blob.v) := by
                      have := (HU.out.1.below hE).take' j
                      rw [← List.map_take] at this
                      exact this
                    refine yield_growB rfl (.tmp 68) (.tmp 74) Tryz.underlying32 rfl (ao := (some ⟨bL, oL, none⟩)) (n := j) (olds := (ys.take j).map Blob.v) (by simp [relAct, dstAt, Act.put, Act.eval, h3]) (fun h => by have := hnone h; omega) (by simp; omega) htU (ad := a9) (m := 1 + (ys.length - j)) (c := c9) (news := [.slice Ay y.length cy] ++ (ys.drop j).map Blob.v) (by simp [relAct, dstAt, Act.put, Act.eval, e9]) (by simp; omega) hc9 (fun u hu => by rcases List.mem_cons.1 hu with rfl | hu; rfl; exact blobs_one _ u hu) (by omega) (by omega) ?_
                    intro v' W' g1 g2
                    exact ⟨g2, own_base g1 hE.size⟩
                · intro vals W2 hE hF
                  have h10 := hF 10 (by show 10 < 12; omega) (by kernel_rfl)
                  have h11 := hF 11 (by show 11 < 12; omega) (by kernel_rfl)
                  simp only [dfAt, DF.d_at] at h10 h11
                  have h10 : W2.ownsRow U.heap.size 28 1 (vals 10) (j + (1 + (ys.length - j))) ((ys.take j).map Blob.v ++ ([.slice Ay y.length cy] ++ (ys.drop j).map Blob.v)) := h10
                  have h11 : vals 11 = vals 10 := by simpa [DF.d_at] using h11
                  obtain ⟨An, cn, e10, _, hcn⟩ := Cs.of_own h10
                  have hcap := ownCapsM (by rw [e10] at h10; exact h10) (by omega)
                  have hlen : (ys.take j ++ (⟨Ay, y, cy⟩ : Blob) :: ys.drop j).length = j + (1 + (ys.length - j)) := by simp; omega
                  have hN : MsI t ds w.heap.size w6 (.int .i64 ((k : Int) + 1)) (vals 10) W2 := by
                    refine ⟨k + 1, ys.take j ++ (⟨Ay, y, cy⟩ : Blob) :: ys.drop j, An, cn, hlt, by go_num, by rw [hlen]; exact e10, by rw [hlen]; exact hcap.1, hcap.2.1, fun h => absurd h hcap.2.2, by rw [hlen]; omega, ?_, ?_, ?_, HU.out.2.2.1.trans (hE.mono HU.out.2.2.1.size), fun a ha => Nat.le_trans HU.out.2.2.1.size (h10.lt a.block (by rw [e10, ha]; rfl)).1, ?_⟩
                    · simpa [Blob.v] using hcn
                    · intro b hb
                      rcases List.mem_append.1 hb with hb | hb
                      · exact Cs.below (HU.out.2.1 b (List.mem_of_mem_take hb)) hE
                      · rcases List.mem_cons.1 hb with rfl | hb
                        · exact HU.out.2.2.2.below hE
                        · exact Cs.below (HU.out.2.1 b (List.mem_of_mem_drop hb)) hE
                    · rw [htk2.out]
                      have := strict_ins HR.out.2.2.1 (by simpa using hj) HLow.out HGE.out
                      simpa [List.map_take, List.map_drop] using this
                    · intro b hb a ha hne
                      rcases List.mem_append.1 hb with hb | hb
                      · exact HOF.out.2 b (List.mem_of_mem_take hb) a ha hne
                      · rcases List.mem_cons.1 hb with rfl | hb
                        · exact HOY.out a ha hne
                        · exact HOF.out.2 b (List.mem_of_mem_drop hb) a ha hne
                  simp [relAct, dstAt, Act.put]
                  rw [h11]
                  have HN := Lib.hid hN
                  clear hF h10 h11 hN hcn hcap e10
                  generalize vals 0 = x0 at *
                  generalize vals 1 = x1 at *
                  generalize vals 2 = x2 at *
                  generalize vals 3 = x3 at *
                  generalize vals 4 = x4 at *
                  generalize vals 5 = x5 at *
                  generalize vals 6 = x6 at *
                  generalize vals 7 = x7 at *
                  generalize vals 8 = x8 at *
                  generalize vals 9 = x9 at *
                  generalize vals 10 = x10 at *
                  generalize vals 11 = x11 at *
                  go_wp2_with fail
                  refine ⟨?_, by simp [intOf]; omega⟩
                  first
                    | exact HN.out
                    | ((repeat apply Exists.intro); exact ⟨HN.out, rfl⟩)
            -- ]]
          · have hjl2 : j = ys.length := by omega
            have HJL := Lib.hid hjl2
            clear hjl2 hjl
            clear hV
            have HFF : Hid (∀ q2, Cs (W.drewN q2).drew Al (ys.map Blob.v) ∧ Blobs (W.drewN q2).drew ys ∧ Below w6.heap.size w6 (W.drewN q2).drew ∧ Cs (W.drewN q2).drew Ay (y.map byteV)) := Lib.hid (fun q2 => ⟨HRW.out.1, HRW.out.2.1, below_drewN HRW.out.2.2.2.1 (q2 + 1), HRW.out.2.2.2.2.2.2⟩)
            have HVG : Hid (∀ V2, V2 = W.drewN q → ∃ q', V2.drew = W.drewN q') := Lib.hid (fun V2 h => by subst h; exact ⟨q + 1, rfl⟩)
            generalize hVV : W.drewN q = V at *
            have HVV := Lib.hid hVV
            clear hVV
            go_wp2_with fail
            refine wp_region_still_lit mixed (by kernel_rfl) ?_
            still_step
            still_step
            still_step
            obtain ⟨bb, HBF⟩ : ∃ bb : Bool, Hid (bb = false) := ⟨false, Lib.hid rfl⟩
            refine still_plain rfl (Value.bool bb) ?hr (fun K hK => ?_)
            case hr => obtain rfl := HBF.out; have hj := HJL.out; simp [execOp, go_sem, hj]
            go_simp
            refine hK _ ?_
            clear hK K
            still_step
            refine still_skip ?hw (fun K hK => ?_)
            case hw => obtain rfl := HBF.out; rfl
            go_simp
            refine hK _ ?_
            clear hK K
            refine still_skip ?hw (fun K hK => ?_)
            case hw => obtain rfl := HBF.out; rfl
            go_simp
            refine hK _ ?_
            clear hK K
            refine still_skip ?hw (fun K hK => ?_)
            case hw => obtain rfl := HBF.out; rfl
            go_simp
            refine hK _ ?_
            clear hK K
            refine still_skip ?hw (fun K hK => ?_)
            case hw => obtain rfl := HBF.out; rfl
            go_simp
            refine hK _ ?_
            clear hK K
            refine still_skip ?hw (fun K hK => ?_)
            case hw => obtain rfl := HBF.out; rfl
            go_simp
            refine hK _ ?_
            clear hK K
            refine still_skip ?hw (fun K hK => ?_)
            case hw => obtain rfl := HBF.out; rfl
            go_simp
            refine hK _ ?_
            clear hK K
            refine still_skip ?hw (fun K hK => ?_)
            case hw => obtain rfl := HBF.out; rfl
            go_simp
            refine hK _ ?_
            clear hK K
            refine still_skip ?hw (fun K hK => ?_)
            case hw => obtain rfl := HBF.out; rfl
            go_simp
            refine hK _ ?_
            clear hK K
            refine still_plain rfl (Value.bool bb) ?hr (fun K hK => ?_)
            case hr => obtain rfl := HBF.out; simp [execOp, go_sem]
            go_simp
            refine hK _ ?_
            clear hK K
            refine wpStill_nil ?_
            obtain rfl := HBF.out
            clear HBF
            change Exit.then _ _ _ _ V.drew
            obtain ⟨q2, hq2⟩ := HVG.out V rfl
            rw [hq2]
            clear hq2 HVG HVV
            have HF2 := Lib.hid (HFF.out q2)
            have hF3 : Hid (∀ V2, V2 = W.drewN q2 → Cs V2.drew Al (ys.map Blob.v) ∧ Blobs V2.drew ys ∧ Below w6.heap.size w6 V2.drew ∧ Cs V2.drew Ay (y.map byteV)) := Lib.hid (fun V2 h => by subst h; exact HF2.out)
            generalize hV2 : W.drewN q2 = V2 at *
            have HF := Lib.hid (hF3.out V2 rfl)
            clear hV2 hF3 HF2 HFF
            go_wp2_with fail
            refine wp_region_still_lit mixed (by kernel_rfl) ?_
            still_step
            still_step
            still_step
            obtain ⟨bb, HBF⟩ : ∃ bb : Bool, Hid (bb = true) := ⟨true, Lib.hid rfl⟩
            refine still_plain rfl (Value.bool bb) ?hr (fun K hK => ?_)
            case hr => obtain rfl := HBF.out; have hj := HJL.out; simp [execOp, go_sem, hj]
            go_simp
            refine hK _ ?_
            clear hK K
            still_step
            refine still_skip ?hw (fun K hK => ?_)
            case hw => obtain rfl := HBF.out; rfl
            go_simp
            refine hK _ ?_
            clear hK K
            refine still_skip ?hw (fun K hK => ?_)
            case hw => obtain rfl := HBF.out; rfl
            go_simp
            refine hK _ ?_
            clear hK K
            refine still_skip ?hw (fun K hK => ?_)
            case hw => obtain rfl := HBF.out; rfl
            go_simp
            refine hK _ ?_
            clear hK K
            refine still_skip ?hw (fun K hK => ?_)
            case hw => obtain rfl := HBF.out; rfl
            go_simp
            refine hK _ ?_
            clear hK K
            refine still_skip ?hw (fun K hK => ?_)
            case hw => obtain rfl := HBF.out; rfl
            go_simp
            refine hK _ ?_
            clear hK K
            refine still_skip ?hw (fun K hK => ?_)
            case hw => obtain rfl := HBF.out; rfl
            go_simp
            refine hK _ ?_
            clear hK K
            refine still_skip ?hw (fun K hK => ?_)
            case hw => obtain rfl := HBF.out; rfl
            go_simp
            refine hK _ ?_
            clear hK K
            refine still_skip ?hw (fun K hK => ?_)
            case hw => obtain rfl := HBF.out; rfl
            go_simp
            refine hK _ ?_
            clear hK K
            refine still_plain rfl (Value.bool bb) ?hr (fun K hK => ?_)
            case hr => obtain rfl := HBF.out; simp [execOp, go_sem]
            go_simp
            refine hK _ ?_
            clear hK K
            refine wpStill_nil ?_
            obtain rfl := HBF.out
            clear HBF
            change Exit.then _ _ _ _ V2.drew
            have HGE : Hid (∀ z, (ys.map (·.l))[j]? = some z → ltB y z) := Lib.hid (fun z hz => by
              have hjl3 := HJL.out
              rw [List.getElem?_eq_none (by rw [List.length_map]; omega)] at hz
              cases hz)
            generalize V2.drew = U at *
            go_wp2_with fail
            have HU : Hid (Cs U Al (ys.map Blob.v) ∧ Blobs U ys ∧ Below w6.heap.size w6 U ∧ Cs U Ay (y.map byteV)) := Lib.hid HF.out
            refine wp_region_x (by kernel_rfl) (by kernel_rfl) U.heap.size (Nat.le_refl _) [.c (.is (.slice Al ys.length cl)), .c (.is (.int .i64 (j : Int))), .c (.is (.int .i64 (j : Int))), .c (.is (.slice Al j j)), .c (.is (.slice Ay y.length cy)), .c (.own U.heap.size 28 1 1 [.slice Ay y.length cy]), .c (.is (.slice Al ys.length cl)), .c (.is (.int .i64 (j : Int))),
              .c (.is (.slice (piece Al cl j) (ys.length - j) (cl - j))), .c (.own U.heap.size 28 1 (1 + (ys.length - j)) ([.slice Ay y.length cy] ++ (ys.drop j).map Blob.v)), .c (.own U.heap.size 28 1 (j + (1 + (ys.length - j))) ((ys.take j).map Blob.v ++ ([.slice Ay y.length cy] ++ (ys.drop j).map Blob.v))), .d [10] (fun vs => .is (vs 10))] (by kernel_rfl) (fun i => if i = 9 then 2 else 0) (fun j => if j = 5 ∨ j = 9 ∨ j = 10 then 1 else 0) (by kernel_rfl) ?_ (fun _ => True) trivial (fun _ _ _ _ => trivial) (fun _ _ _ _ => trivial) ?_ ?_
            · intro j vals
              rcases j with _ | _ | _ | _ | _ | _ | _ | _ | _ | _ | _ | _ | j
              all_goals first
                | exact plain_is _
                | exact kind_own _ _ _ _ _ _ (Nat.le_refl _)
                | (rw [if_neg (by omega)]; exact plain_any)
            · intro i o hio vals W2 hE haf _
              rcases i with _ | _ | _ | _ | _ | _ | _ | _ | _ | _ | _ | _ | i
              all_goals first
                | (exfalso; simp at hio; done)
                | skip
              all_goals
                simp at hio
                subst hio
                simp [bindD, rdB, Region.binds, dfAt, DF.d_at] at haf
              all_goals first
                | (simp [opYield_def, yieldUpon, relAct, dstAt, Act.put, Region.wanted, go_sem, haf, Ext.refl, dfAt, DF.d_at, kindX]; done)
                | skip
              · refine yield_slice3 rfl (.tmp 65) (.tmp 66) (.tmp 67) rfl (A := Al) (n := ys.length) (c := cl) (k := j) (I := (j : Int)) (by simp [relAct, dstAt, Act.put, Act.eval, haf]) (by simp [relAct, dstAt, Act.put, Act.eval, haf]) (by simp [relAct, dstAt, Act.put, Act.eval, haf]) rfl hj hyc ?_
                exact ⟨Ext.refl _, rfl⟩
              · simp [opYield_def, yieldUpon, relAct, dstAt, Act.put, Region.wanted, go_sem, haf, dfAt, DF.d_at, kindX]
                exact ⟨(Below.refl _ _).alloc (Nat.le_refl _) _, own_rowC W2 U.heap.size 28 [.slice Ay y.length cy] hE.size (by simp)⟩
              · refine yield_dropB rfl (.tmp 71) (.tmp 72) rfl (A := Al) (n := ys.length) (c := cl) (k := j) (I := (j : Int)) (by simp [relAct, dstAt, Act.put, Act.eval, haf]) (by simp [relAct, dstAt, Act.put, Act.eval, haf]) rfl hj hyc ?_
                exact ⟨Ext.refl _, rfl⟩
              · obtain ⟨h5, h8⟩ := haf
                have hcsU := (HU.out.1.below hE).drop' j cl (by simpa using hyc)
                rw [← List.map_drop] at hcsU
                have hdl : ((ys.drop j).map Blob.v).length = ys.length - j := by simp
                refine yield_rowsB rfl (.tmp 70) (.tmp 73) Tryz.underlying32 rfl (v := vals 5) (by simp [relAct, dstAt, Act.put, Act.eval]) h5 hE.size (us := (ys.drop j).map Blob.v) (A := piece Al cl j) (c := cl - j) (by rw [hdl]; simp [relAct, dstAt, Act.put, Act.eval, h8]) hcsU (blobs_one _) (by rw [hdl]; omega) ?_
                intro v' W' g1 g2
                rw [hdl] at g1
                exact ⟨g2, g1⟩
              · obtain ⟨h3, h9⟩ := haf
                have h9 : W2.ownsRow U.heap.size 28 1 (vals 9) (1 + (ys.length - j)) ([.slice Ay y.length cy] ++ (ys.drop j).map Blob.v) := by simpa [List.map_drop] using h9
                obtain ⟨A9, c9, e9, _, hc9⟩ := Cs.of_own h9
                have hne : A9 ≠ none := fun h => by
                  have := ownCapsM (by rw [e9] at h9; exact h9) (by omega)
                  exact this.2.2 h
                obtain ⟨a9, rfl⟩ : ∃ a, A9 = some a := by cases A9 with | none => exact absurd rfl hne | some a => exact ⟨a, rfl⟩
                have htU : Cs W2 Al ((ys.take j).map Blob.v) := by
                  have := (HU.out.1.below hE).take' j
                  rw [← List.map_take] at this
                  exact this
                refine yield_growB rfl (.tmp 68) (.tmp 74) Tryz.underlying32 rfl (ao := Al) (n := j) (olds := (ys.take j).map Blob.v) (by simp [relAct, dstAt, Act.put, Act.eval, h3]) (fun h => by have := hnone h; omega) (by simp; omega) htU (ad := a9) (m := 1 + (ys.length - j)) (c := c9) (news := [.slice Ay y.length cy] ++ (ys.drop j).map Blob.v) (by simp [relAct, dstAt, Act.put, Act.eval, e9]) (by simp; omega) hc9 (fun u hu => by rcases List.mem_cons.1 hu with rfl | hu; rfl; exact blobs_one _ u hu) (by omega) (by omega) ?_
                intro v' W' g1 g2
                exact ⟨g2, own_base g1 hE.size⟩
            · intro vals W2 hE hF
              have h10 := hF 10 (by show 10 < 12; omega) (by kernel_rfl)
              have h11 := hF 11 (by show 11 < 12; omega) (by kernel_rfl)
              simp only [dfAt, DF.d_at] at h10 h11
              have h10 : W2.ownsRow U.heap.size 28 1 (vals 10) (j + (1 + (ys.length - j))) ((ys.take j).map Blob.v ++ ([.slice Ay y.length cy] ++ (ys.drop j).map Blob.v)) := h10
              have h11 : vals 11 = vals 10 := by simpa [DF.d_at] using h11
              obtain ⟨An, cn, e10, _, hcn⟩ := Cs.of_own h10
              have hcap := ownCapsM (by rw [e10] at h10; exact h10) (by omega)
              have hlen : (ys.take j ++ (⟨Ay, y, cy⟩ : Blob) :: ys.drop j).length = j + (1 + (ys.length - j)) := by simp; omega
              have hN : MsI t ds w.heap.size w6 (.int .i64 ((k : Int) + 1)) (vals 10) W2 := by
                refine ⟨k + 1, ys.take j ++ (⟨Ay, y, cy⟩ : Blob) :: ys.drop j, An, cn, hlt, by go_num, by rw [hlen]; exact e10, by rw [hlen]; exact hcap.1, hcap.2.1, fun h => absurd h hcap.2.2, by rw [hlen]; omega, ?_, ?_, ?_, HU.out.2.2.1.trans (hE.mono HU.out.2.2.1.size), fun a ha => Nat.le_trans HU.out.2.2.1.size (h10.lt a.block (by rw [e10, ha]; rfl)).1, ?_⟩
                · simpa [Blob.v] using hcn
                · intro b hb
                  rcases List.mem_append.1 hb with hb | hb
                  · exact Cs.below (HU.out.2.1 b (List.mem_of_mem_take hb)) hE
                  · rcases List.mem_cons.1 hb with rfl | hb
                    · exact HU.out.2.2.2.below hE
                    · exact Cs.below (HU.out.2.1 b (List.mem_of_mem_drop hb)) hE
                · rw [htk2.out]
                  have := strict_ins HR.out.2.2.1 (by simpa using hj) HLow.out HGE.out
                  simpa [List.map_take, List.map_drop] using this
                · intro b hb a ha hne
                  rcases List.mem_append.1 hb with hb | hb
                  · exact HOF.out.2 b (List.mem_of_mem_take hb) a ha hne
                  · rcases List.mem_cons.1 hb with rfl | hb
                    · exact HOY.out a ha hne
                    · exact HOF.out.2 b (List.mem_of_mem_drop hb) a ha hne
              simp [relAct, dstAt, Act.put]
              rw [h11]
              have HN := Lib.hid hN
              clear hF h10 h11 hN hcn hcap e10
              generalize vals 0 = x0 at *
              generalize vals 1 = x1 at *
              generalize vals 2 = x2 at *
              generalize vals 3 = x3 at *
              generalize vals 4 = x4 at *
              generalize vals 5 = x5 at *
              generalize vals 6 = x6 at *
              generalize vals 7 = x7 at *
              generalize vals 8 = x8 at *
              generalize vals 9 = x9 at *
              generalize vals 10 = x10 at *
              generalize vals 11 = x11 at *
              go_wp2_with fail
              refine ⟨?_, by simp [intOf]; omega⟩
              first
                | exact HN.out
                | ((repeat apply Exists.intro); exact ⟨HN.out, rfl⟩)
    · have hkl : k = ds.length := by omega
      have hst := HR.out.2.2.1
      rw [hkl, List.take_length] at hst
      have HST := Lib.hid (And.intro hst (show ys.length ≤ ds.length by omega))
      clear hst hkl hk hyk
      have hAr := HA.out.1.below HR.out.2.2.2.2.2
      go_wp2_with fail
      refine (RLower A n cap wr hAr HA.out.2.1.few).mono ?_
      rintro e w7 ⟨v7, rfl, hown7, hb7⟩
      obtain ⟨A7, c7, rfl, _, h7c⟩ := Cs.of_own hown7
      have hc7c : n.length ≤ c7 := own_capM hown7
      have H7b : Hid (∀ a, A7 = some a → w6.heap.size ≤ a.block) := Lib.hid (fun a ha => Nat.le_trans HR.out.2.2.2.1.size (hown7.lt a.block (by rw [ha]; rfl)).1)
      have hc7m : A7 = none → n.length = 0 := fun h => by
        have := h7c
        rw [h] at this
        have h2 := this.none_nil
        have h3 := congrArg List.length h2
        rw [List.length_map, lower_len] at h3
        simpa using h3
      have hq7 := ((hb7.block (w.heap.size + 1) (by omega)).trans ((HR.out.2.2.2.1.block (w.heap.size + 1) (by omega)).trans HQ6.out.1))
      obtain ⟨k0, k1, k2, k3, k4, k5, k6, k7, k8, kf⟩ := cells9 hq7
      have hs7 := (hb7.block w.heap.size (by omega)).trans HR.out.2.2.2.2.1
      have hb67 := HR.out.2.2.2.1.trans (hb7.mono HR.out.2.2.2.1.size)
      have H7 := Lib.hid (And.intro h7c (And.intro hq7 (And.intro hs7 (And.intro hb67 (And.intro (HR.out.1.below hb7) (HR.out.2.1.below hb7))))))
      have HLB := Lib.hid (And.intro HG.out.1.lb HG.out.2.2)
      have hz77 := hb7.size
      have h67 : w6.heap.size ≤ w7.heap.size := hb67.size
      have hlb := HG.out.1.lb
      have hwl8 : IntKind.i64.wrap (g.lb : Int) = g.lb := by rw [IntKind.wrap_i64]; omega
      have hnl := HA.out.2.1.1
      clear hown7 hq7 hs7 hb67 h7c s0 s1 s2 s3 hAr hb7 k3 k4 k5 k6 k7 k8 kf k0 k1
      go_upto_if 85 with fail
      go_cut [10] from 76 to 93 (fun v wx => ∃ A' c', v = .slice A' (ownN n g.lb).length c' ∧ Cs wx A' ((ownN n g.lb).map strV) ∧ Below w7.heap.size w7 wx ∧ ∀ a, A' = some a → w6.heap.size ≤ a.block)
      case first =>
        by_cases hle : n.length ≤ g.lb
        · have hle2 : ¬ ((g.lb : Int) < (n.length : Int)) := by omega
          have hO : Hid (ownN n g.lb = lower n) := Lib.hid (by unfold ownN; rw [if_pos hle])
          go_wp2_with fail
          go_meet
          case rel => exact ⟨A7, c7, by rw [hO.out, lower_len], by rw [hO.out]; exact H7.out.1, Below.refl _ _, H7b.out⟩
        · have hgti : (g.lb : Int) < (n.length : Int) := by omega
          obtain ⟨kk, hk1, hk2, hk3⟩ : ∃ kk : Nat, n.length - g.lb = kk ∧ ((n.length : Int) - (g.lb : Int) = (kk : Int)) ∧ kk ≤ n.length := ⟨n.length - g.lb, rfl, by omega, by omega⟩
          have hO : Hid (ownN n g.lb = star :: (lower n).drop kk) := Lib.hid (by unfold ownN; rw [if_neg hle, hk1])
          have hcs2 := H7.out.1.drop' kk c7 (by rw [List.length_map, lower_len]; exact hc7c)
          rw [← List.map_drop] at hcs2
          have hsl : ((lower n).drop kk).length = n.length - kk := by rw [List.length_drop, lower_len]
          have hst : (w7.alloc (.cells #[.string (strB star)] 9)).ownsRow w7.heap.size 9 1 (.slice (some ⟨w7.heap.size, 0, none⟩) 1 1) 1 ([star].map strV) := own_rowC w7 w7.heap.size 9 ([star].map strV) (Nat.le_refl _) (by simp)
          have hb8 : Below w7.heap.size w7 (w7.alloc (.cells #[.string (strB star)] 9)) := (Below.refl _ _).alloc (Nat.le_refl _) _
          have HST2 := Lib.hid (And.intro hst (And.intro hb8 (hcs2.below hb8)))
          clear hst hb8 hcs2
          generalize hsd : (lower n).drop kk = sd at *
          have hk4 : IntKind.i64.wrap ((n.length : Int) - (g.lb : Int)) = (kk : Int) := by rw [IntKind.wrap_i64]; omega
          go_wp2_with (first
            | (refine wpList_dropS rfl (.tmp 87) (.tmp 91) rfl (A := A7) (n := n.length) (c := c7) (k := kk) rfl rfl (by omega) (by omega) (by omega) ?_)
            | (at_builtin; refine wpList_names HST2.out.1 (by simp) HST2.out.2.2 rfl (.tmp 86) (.tmp 92) Tryz.underlying26 rfl rfl (s := sd) (c := _) (by rw [hsl]; rfl) (by omega) ?_; intro v9 w9 hown9 hb9))
          obtain ⟨A9, c9, rfl, _, hcs9⟩ := Cs.of_own hown9
          have hbl9 : ∀ a, A9 = some a → w6.heap.size ≤ a.block := fun a ha => Nat.le_trans h67 (hown9.lt a.block (by rw [ha]; rfl)).1
          go_meet
          case rel => exact ⟨A9, c9, by rw [hO.out, List.length_cons, Nat.add_comm], by rw [hO.out]; exact hcs9, HST2.out.2.1.trans hb9, hbl9⟩
      case rest =>
        obtain ⟨AO, cO, rfl, hcO, hb8, hAO⟩ := hcut
        clear k2 hwl8 hlb
        have hs8 := (hb8.block w.heap.size (by omega)).trans H7.out.2.2.1
        have hq8 := (hb8.block (w.heap.size + 1) (by omega)).trans H7.out.2.1
        have hl8 := H7.out.2.2.2.2.1.below hb8
        have hbs8 := H7.out.2.2.2.2.2.below hb8
        have hb68 := H7.out.2.2.2.1.trans (hb8.mono h67)
        have hr8 := own_below HQ6.out.2.2.2 hb68
        have hv6 : ∀ b, v6.ownBlock = some b → w.heap.size + 2 ≤ b ∧ b < w6.heap.size := fun b hb => HQ6.out.2.2.2.lt b hb
        have hb08 := HQ6.out.2.2.1.trans (hb68.mono (by omega))
        have hsm := small_own HA.out.2.1 g.lb
        have hwl := HLB.out.2
        have hyl : ∀ x ∈ ys, x.l.length ≤ 20000 := fun x hx => by
          obtain ⟨d, hd, hdx⟩ := List.mem_map.1 ((HST.out.1.2 x.l).1 (List.mem_map.2 ⟨x, hx, rfl⟩))
          rw [← hdx]
          exact HD.out.2.2.2 d hd
        have hhl : (headO (ownN n g.lb) t g.ttl).length ≤ 10008 := by
          unfold headO
          simp [be2, be4]
          omega
        have HMSG : Hid (∀ hb, headO (ownN n g.lb) t g.ttl = hb → msgL n t (ys.map (·.l)) g = gb ++ lines hb ys) := Lib.hid (fun hb h => by
          unfold msgL lines
          rw [HGB.out, h, List.flatMap_map])
        have HHB : Hid (∀ wn, wire (ownN n g.lb) = wn → headO (ownN n g.lb) t g.ttl = wn ++ be2 t ++ be2 1 ++ be4 g.ttl) := Lib.hid (fun wn h => by
          unfold headO
          rw [h]
          simp [be2])
        have HWi : Hid (∀ W, Cs W AO ((ownN n g.lb).map strV) → Calls Tryz.prog 31 #[.slice AO (ownN n g.lb).length cO] W fun e w' => ∃ v, e = .returned v ∧ w'.ownsRow W.heap.size 5 1 v (wire (ownN n g.lb)).length ((wire (ownN n g.lb)).map byteV) ∧ Below W.heap.size W w') := Lib.hid fun W hW => RWire AO (ownN n g.lb) cO W hW hsm
        have HF8 := Lib.hid (And.intro hs8 (And.intro hq8 (And.intro hl8 (And.intro hbs8 (And.intro hr8 (And.intro hv6 (And.intro hb08 (And.intro hcO (And.intro hAO (And.intro hyl HLB.out.1))))))))))
        have htt : t < 65536 := by unfold goodT at ht; omega
        have hgl10 : gb.length ≤ 10000 := hgl
        have hz8 : w.heap.size + 2 ≤ wc.heap.size := Nat.le_trans hz7 hb68.size
        have HTT := Lib.hid (And.intro HG.out.1.ttl htt)
        clear hs8 hq8 hl8 hbs8 hb68 hr8 hv6 hb08 hcO hAO hyl hsm hb8 htt
        generalize hhb : headO (ownN n g.lb) t g.ttl = hb at *
        generalize hwn : wire (ownN n g.lb) = wn at *
        generalize hon : ownN n g.lb = on at *
        have HE := Lib.hid (And.intro (HHB.out wn rfl) (And.intro (HMSG.out hb rfl) hon))
        clear HHB HMSG hhb hwn hon
        go_wp2_with fail
        go_loopw [12, 5] (fun vi vo wr => MsO (w.heap.size + 2) wc v6 gb hb ys vi vo wr) (fun vi _ _ => ys.length - (intOf vi).toNat)
        case atStart => exact ⟨0, Nat.zero_le _, rfl, by simpa [lines] using HF8.out.2.2.2.2.1, Moved.refl _ _⟩
        case round =>
          obtain ⟨i, hi, rfl, hown, hmv⟩ := hrel
          have hzr := hmv.kept.size
          have HKC : Hid (∀ (v : Value) (W : World), Moved v6 wc v W → Cs W Al (ys.map Blob.v) ∧ Blobs W ys ∧ Cs W AO (on.map strV) ∧ W.heap[w.heap.size]? = some (.cells #[.slice A n.length cap, .int .u16 t, .int .u32 sttl, .slice D ds.length dcap] 34 (0, 0)) ∧ W.heap[w.heap.size + 1]? = some (.cells #[.int .u16 g.t, .int .u8 g.al, .int .u8 g.lb, .int .u32 g.ttl, .int .u32 g.ex, .int .u32 g.bg, .int .u16 g.tg, .slice A4 g.n.length c4, .slice none 0 0] 41 (0, 0))) := Lib.hid (fun v W hm => by
            obtain ⟨f1, f2, f3, f4, f5, f6, f7, f8, f9, f10, f11⟩ := HF8.out
            refine ⟨Kept.cs f3 hm.kept (fun a ha _ e => ?_), fun b hb => Kept.cs (f4 b hb) hm.kept (fun a ha hne e => ?_), Kept.cs f8 hm.kept (fun a ha _ e => ?_), (hm.kept.block w.heap.size (by omega) (fun e => ?_)).trans f1, (hm.kept.block (w.heap.size + 1) (by omega) (fun e => ?_)).trans f2⟩
            · have h1 := HOF.out.1 a ha
              have h2 := (f6 _ e.symm).2
              omega
            · have h1 := HOF.out.2 b hb a ha hne
              have h2 := f6 _ e.symm
              omega
            · have h1 := f9 a ha
              have h2 := (f6 _ e.symm).2
              omega
            · have h2 := (f6 _ e.symm).1
              omega
            · have h2 := (f6 _ e.symm).1
              omega)
          by_cases hil : i < ys.length
          · obtain ⟨g1, g2, g3, g4, g5⟩ := HKC.out u5 wr hmv
            have hLl : (gb ++ lines hb (ys.take i)).length ≤ 10000 + i * 30010 := by
              have := lines_len hb ys HF8.out.2.2.2.2.2.2.2.2.2.1 hhl i (by omega)
              rw [List.length_append]
              omega
            have hi20 : i ≤ 20 := by have := HST.out.2; omega
            obtain ⟨x, hx⟩ : ∃ x, ys[i]? = some x := ⟨_, List.getElem?_eq_getElem hil⟩
            have hxl := HF8.out.2.2.2.2.2.2.2.2.2.1 x (List.mem_of_getElem? hx)
            have HLS : Hid (gb ++ lines hb (ys.take (i + 1)) = (gb ++ lines hb (ys.take i)) ++ wn ++ be2 t ++ be2 1 ++ be4 g.ttl ++ be2 x.l.length ++ x.l) := Lib.hid (by
              rw [lines_step hb ys i x hx, HE.out.1]
              simp only [List.append_assoc])
            have hwnl : wn.length ≤ 10000 := hwl
            have HX := Lib.hid hx
            generalize gb ++ lines hb (ys.take i) = L at *
            have HOWN := Lib.hid (And.intro hown hmv)
            clear hown hmv hx g1 g2 g4 g5
            go_wp2_with fail
            refine (HWi.out wr g3).mono ?_
            rintro e w10 ⟨vW, rfl, hownW, hbW⟩
            obtain ⟨AW, cW, rfl, _, hcW⟩ := Cs.of_own hownW
            have ho10 := own_below HOWN.out.1 hbW
            have hm10 := HOWN.out.2.after hbW
            have hB10 : w.heap.size + 2 ≤ w10.heap.size := by have := hbW.size; omega
            clear hownW g3 hbW
            go_wp2_with (first
              | (at_builtin; refine wpList_bytesM ho10 hB10 hcW rfl (.tmp 100) (.tmp 102) Tryz.underlying28 rfl rfl rfl (by omega) ?_; intro v11 w11 hown11 hm11; have H11 := Lib.hid (And.intro hown11 (hm10.trans hm11)); clear hown11 hm11; obtain ⟨_, _, _, g4, _⟩ := HKC.out v11 w11 H11.out.2; obtain ⟨s0, s1, s2, s3⟩ := cells4K g4; clear s0 s2 s3 g4))
            rw [show ((t : Int) % 4294967296) = (t : Int) from by have := HTT.out.2; omega]
            have hB11 : w.heap.size + 2 ≤ w11.heap.size := Nat.le_trans hz8 H11.out.2.kept.size
            refine (RPut2 (w.heap.size + 2) v11 (L.length + wn.length) (L ++ wn) t w11 H11.out.1 hB11 (by omega) (by have := HTT.out.2; omega)).mono ?_
            rintro e w12 ⟨v12, rfl, hown12, hm12⟩
            have H12 := Lib.hid (And.intro hown12 (H11.out.2.trans hm12))
            have hB12 : w.heap.size + 2 ≤ w12.heap.size := Nat.le_trans hz8 H12.out.2.kept.size
            clear hown12 hm12 s1 ho10 hm10 hcW H11
            go_wp2_with fail
            refine (RPut2 (w.heap.size + 2) v12 (L.length + wn.length + 2) (L ++ wn ++ be2 t) 1 w12 H12.out.1 hB12 (by omega) (by omega)).mono ?_
            rintro e w13 ⟨v13, rfl, hown13, hm13⟩
            have H13 := Lib.hid (And.intro hown13 (H12.out.2.trans hm13))
            have hB13 : w.heap.size + 2 ≤ w13.heap.size := Nat.le_trans hz8 H13.out.2.kept.size
            obtain ⟨g1, g2, _, _, g5⟩ := HKC.out v13 w13 H13.out.2
            obtain ⟨bL, oL, hAl, hbL, hcL⟩ := g1 i x.v (by rw [List.getElem?_map, HX.out]; rfl)
            have hcx : Cs w13 x.A (x.l.map byteV) := g2 x (List.mem_of_getElem? HX.out)
            obtain ⟨_, _, _, k3, _, _, _, _, _, _⟩ := cells9 g5
            have hob : ∀ b, v13.ownBlock = some b → v6.ownBlock = some b ∨ wc.heap.size ≤ b := fun b hb => H13.out.2.at_ b hb
            have hobL : v13.ownBlock ≠ some bL := fun h => by
              have h1 : w6.heap.size ≤ bL := HOF.out.1 _ hAl
              rcases hob bL h with h2 | h2
              · have := (HF8.out.2.2.2.2.2.1 bL h2).2
                omega
              · have := Cs.where HF8.out.2.2.1 hAl (by intro h0; have := congrArg List.length h0; simp at this; rw [this] at hil; simp at hil)
                simp only at this
                omega
            have hobG : v13.ownBlock ≠ some (w.heap.size + 1) := fun h => by
              rcases hob _ h with h2 | h2
              · have := (HF8.out.2.2.2.2.2.1 _ h2).1
                omega
              · omega
            have HC13 := Lib.hid (And.intro hob (And.intro hobL (And.intro hobG (And.intro hcx hAl))))
            subst hAl
            clear hown13 hm13 H12 g1 g2 g5 hob hobL hobG hcx
            go_wp2_with fail
            have hown13 := H13.out.1
            refine wp_region_r2 (by kernel_rfl) (by kernel_rfl) (fun i j => i == 10 && j == 3) (by kernel_rfl) (fun i U U' => if i = 3 ∨ i = 10 then Kept (fun b => v13.ownBlock = some b ∨ w13.heap.size ≤ b) U U' else U' = U)
              (fun U => Kept (fun b => v13.ownBlock = some b ∨ w13.heap.size ≤ b) w13 U)
              (fun j v U => match j with
                | 0 => v = v13
                | 1 => v = .pointer (some ⟨w.heap.size + 1, 3, none⟩)
                | 2 => v = .int .u32 g.ttl
                | 3 => U.ownsRow (w.heap.size + 2) 5 1 v (L.length + wn.length + 2 + 2 + 4) ((L ++ wn ++ be2 t ++ be2 1 ++ be4 g.ttl).map byteV) ∧ ∀ b, v.ownBlock = some b → v13.ownBlock = some b ∨ w13.heap.size ≤ b
                | 4 => v = .slice (some ⟨bL, oL, none⟩) ys.length cl
                | 5 => v = .int .i64 (i : Int)
                | 6 => v = .pointer (some ⟨bL, oL + i, none⟩)
                | 7 => v = x.v
                | 8 => v = .int .i64 (x.l.length : Int)
                | 9 => v = .int .u32 (x.l.length : Int)
                | 10 => U.ownsRow (w.heap.size + 2) 5 1 v (L.length + wn.length + 2 + 2 + 4 + 2) ((L ++ wn ++ be2 t ++ be2 1 ++ be4 g.ttl ++ be2 x.l.length).map byteV) ∧ ∀ b, v.ownBlock = some b → v13.ownBlock = some b ∨ w13.heap.size ≤ b
                | 11 => U.ownsRow (w.heap.size + 2) 5 1 v (L.length + wn.length + 2 + 2 + 4 + 2) ((L ++ wn ++ be2 t ++ be2 1 ++ be4 g.ttl ++ be2 x.l.length).map byteV) ∧ ∀ b, v.ownBlock = some b → v13.ownBlock = some b ∨ w13.heap.size ≤ b
                | _ => True) (fun U => U.ownsRow (w.heap.size + 2) 5 1 v13 (L.length + wn.length + 2 + 2) ((L ++ wn ++ be2 t ++ be2 1).map byteV)) (fun i => i == 3 || i == 10) hown13 ?_ ((Kept.refl _ _).drew) ?_ ?_ ?_ ?_
            · intro i U U' h1 _ h3 h4
              have hi2 : ¬ (i = 3 ∨ i = 10) := by simpa using h1
              rw [if_neg hi2] at h4
              rw [h4]
              exact h3
            · intro i U U' h1 h2
              by_cases hi2 : i = 3 ∨ i = 10
              · rw [if_pos hi2] at h2
                exact h1.trans h2
              · rw [if_neg hi2] at h2
                rw [h2]
                exact h1
            · intro i j v U U' hij hk0 hwt hC hR hT
              by_cases hi2 : i = 3 ∨ i = 10
              · rcases j with _ | _ | _ | _ | _ | _ | _ | _ | _ | _ | _ | _ | j
                all_goals first
                  | exact hR
                  | (exfalso
                     rcases hi2 with rfl | rfl
                     · exact hij rfl
                     · simp at hk0; done)
                  | (exfalso
                     rcases hi2 with rfl | rfl
                     · exact absurd (hwt.symm.trans (by kernel_rfl) : false = true) (by decide)
                     · exact hij rfl)
                  | (exfalso
                     rcases hi2 with rfl | rfl
                     · exact absurd (hwt.symm.trans (by kernel_rfl) : false = true) (by decide)
                     · exact absurd (hwt.symm.trans (by kernel_rfl) : false = true) (by decide))
              · rw [if_neg hi2] at hT
                rw [hT]
                exact hR
            · intro i' o hio vals U hC haf hI0
              have hxm : ((x.l.length : Int) % 4294967296) = (x.l.length : Int) := by omega
              have hxw : IntKind.u32.wrap (x.l.length : Int) = (x.l.length : Int) := by simp [IntKind.wrap, IntKind.bits, IntKind.signed]; omega
              have hBU : w.heap.size + 2 ≤ U.heap.size := Nat.le_trans hB13 hC.size
              have e3 : U.cell? ⟨w.heap.size + 1, 3, none⟩ = some (.int .u32 g.ttl) := (hC.cell (b := w.heap.size + 1) (o := 3) (by omega) (fun h => by rcases h with h | h; exact HC13.out.2.2.1 h; omega)).trans k3
              have eL : U.cell? ⟨bL, oL + i, none⟩ = some x.v := (hC.cell (b := bL) (o := oL + i) hbL (fun h => by rcases h with h | h; exact HC13.out.2.1 h; omega)).trans hcL
              rcases i' with _ | _ | _ | _ | _ | _ | _ | _ | _ | _ | _ | _ | i'
              all_goals first
                | (exfalso; simp at hio; done)
                | skip
              all_goals
                simp at hio
                subst hio
                simp [bindD, rdB, Region.binds] at haf
              all_goals first
                | (simp [opYield_def, yieldUpon, relAct, dstAt, Act.put, Region.wanted, go_sem, haf, e3, eL, hil, Blob.v, hxw]; done)
                | skip
              · obtain ⟨h0, h2⟩ := haf
                have hI := hI0 (fun k hk hk2 => by
                  by_cases h3 : k = 3
                  · exact .inl h3
                  · by_cases h10 : k = 10
                    · subst h10; exact .inr (by kernel_rfl)
                    · exfalso; simp [h3, h10] at hk2)
                simp [opYield_def, yieldUpon, relAct, dstAt, Act.put, Region.wanted, go_sem, h0, h2]
                refine (RPut4 (w.heap.size + 2) v13 _ _ g.ttl U hI hBU (by omega) HTT.out.1).mono fun e U' h5 => ?_
                obtain ⟨v, he, ho, hm⟩ := h5
                refine ⟨v, he, hm.kept.mono (fun b hb e => .inl e.symm), by simpa using ho, fun b hb => ?_⟩
                rcases hm.at_ b hb with h | h
                · exact .inl h
                · exact .inr (Nat.le_trans hC.size h)
              · obtain ⟨⟨h3, h3b⟩, h9⟩ := haf
                have h3 : U.ownsRow (w.heap.size + 2) 5 1 (vals 3) (L.length + wn.length + 2 + 2 + 4) ((L ++ wn ++ be2 t ++ be2 1 ++ be4 g.ttl).map byteV) := by simpa using h3
                simp [opYield_def, yieldUpon, relAct, dstAt, Act.put, Region.wanted, go_sem, h9]
                refine (RPut2 (w.heap.size + 2) (vals 3) _ _ x.l.length U h3 hBU (by omega) (by omega)).mono fun e U' h5 => ?_
                obtain ⟨v, he, ho, hm⟩ := h5
                refine ⟨v, he, hm.kept.mono (fun b hb e => h3b b e.symm), by simpa using ho, fun b hb => ?_⟩
                rcases hm.at_ b hb with h | h
                · exact h3b b h
                · exact .inr (Nat.le_trans hC.size h)
              · simp [opYield_def, yieldUpon, relAct, dstAt, Act.put, Region.wanted, go_sem]
                simpa using haf
            · intro vals U hC hR
              have h11 := hR 11 (by show 11 < 12; omega) (fun i hi => by simp)
              have h11 : U.ownsRow (w.heap.size + 2) 5 1 (vals 11) (L.length + wn.length + 2 + 2 + 4 + 2) ((L ++ wn ++ be2 t ++ be2 1 ++ be4 g.ttl ++ be2 x.l.length).map byteV) ∧ ∀ b, (vals 11).ownBlock = some b → v13.ownBlock = some b ∨ w13.heap.size ≤ b := h11
              have hmU : Moved v13 w13 (vals 11) U := ⟨⟨hC.os, hC.tape, hC.output, hC.size, fun k hk hS => hC.block k hk (fun h => by rcases h with h | h; exact hS h.symm; omega)⟩, h11.2⟩
              have H14 := Lib.hid (And.intro h11.1 (H13.out.2.trans hmU))
              have hBU : w.heap.size + 2 ≤ U.heap.size := Nat.le_trans hB13 hC.size
              obtain ⟨g1, g2, _, _, _⟩ := HKC.out (vals 11) U H14.out.2
              have hcL2 : U.cell? ⟨bL, oL + i, none⟩ = some (.slice x.A x.l.length x.cap) := by
                obtain ⟨b', o', e', _, hh⟩ := g1 i x.v (by rw [List.getElem?_map, HX.out]; rfl)
                cases e'
                exact hh
              have hcx2 : Cs U x.A (x.l.map byteV) := g2 x (List.mem_of_getElem? HX.out)
              have h14 := H14.out.1
              simp [relAct, dstAt, Act.put]
              clear hR h11 hmU g1 g2 hC
              generalize vals 0 = y0 at *
              generalize vals 1 = y1 at *
              generalize vals 2 = y2 at *
              generalize vals 3 = y3 at *
              generalize vals 4 = y4 at *
              generalize vals 5 = y5 at *
              generalize vals 6 = y6 at *
              generalize vals 7 = y7 at *
              generalize vals 8 = y8 at *
              generalize vals 9 = y9 at *
              generalize vals 10 = y10 at *
              generalize vals 11 = y11 at *
              clear hcL k3 hbL hown13
              go_wp2_with (first
                | (at_builtin; refine wpList_bytesM h14 hBU hcx2 rfl (.tmp 121) (.tmp 125) Tryz.underlying28 rfl rfl rfl (by omega) ?_; intro v15 w15 hown15 hm15))
              have hN : MsO (w.heap.size + 2) wc v6 gb hb ys (.int .i64 ((i : Int) + 1)) v15 w15 := by
                refine ⟨i + 1, hil, by go_num, ?_, H14.out.2.trans hm15⟩
                rw [HLS.out]
                have hl : ((L ++ wn ++ be2 t ++ be2 1 ++ be4 g.ttl ++ be2 x.l.length) ++ x.l).length = L.length + wn.length + 2 + 2 + 4 + 2 + x.l.length := by
                  simp only [List.length_append]
                  rfl
                rw [hl]
                exact hown15
              refine ⟨?_, by simp [intOf]; omega⟩
              first
                | exact hN
                | ((repeat apply Exists.intro); exact ⟨hN, rfl⟩)
          · have hil2 : i = ys.length := by omega
            subst hil2
            rw [List.take_length] at hown
            have hbF := HF8.out.2.2.2.2.2.2.1
            have HFin := Lib.hid (And.intro hown (hbF.trans (hmv.below HF8.out.2.2.2.2.1 (by omega) |>.mono (by omega))))
            clear hown hmv hbF
            go_wp2_with fail
            go_ret
            refine ⟨_, ys.map (·.l), rfl, HST.out.1, ?_, HFin.out.2⟩
            rw [HE.out.2.1]
            exact own_base HFin.out.1 (by omega)
end Nm
end Go.Proofs.YthogembgndkmpaaGreatDoor

/- signetref3.Same, Within. -/
namespace Go.Proofs.YthogembgndkmpaaGreatDoor
open Go.RowKit
namespace Nm
theorem lower_eq_iff (a b : List Lab) : lower a = lower b ↔ a.length = b.length ∧ ∀ i (h1 : i < a.length) (h2 : i < b.length), low a[i] = low b[i] := by
  unfold lower
  constructor
  · intro h
    have hl : a.length = b.length := by have := congrArg List.length h; simpa using this
    refine ⟨hl, fun i h1 h2 => ?_⟩
    have h3 : (a.map low)[i]? = (b.map low)[i]? := by rw [h]
    rw [List.getElem?_map, List.getElem?_map, List.getElem?_eq_getElem h1, List.getElem?_eq_getElem h2] at h3
    simpa using h3
  · rintro ⟨hl, h⟩
    refine List.ext_getElem (by simpa using hl) (fun i h1 h2 => ?_)
    rw [List.getElem_map, List.getElem_map]
    exact h i (by simpa using h1) (by simpa using h2)
def SmR (a b : List Lab) (w : World) (vi : Value) (wr : World) : Prop := ∃ k : Nat, k ≤ a.length ∧ vi = .int .i64 (k : Int) ∧ (∀ i (h1 : i < a.length) (h2 : i < b.length), i < k → low a[i] = low b[i]) ∧ Below w.heap.size w wr
set_option maxRecDepth 100000 in
set_option maxHeartbeats 4000000 in
theorem RSame (A B : Option Addr) (a b : List Lab) (ca cb : Nat) (w : World) (hca : Cs w A (a.map strV)) (hcb : Cs w B (b.map strV)) (ha : Few a) (hb : Few b) :
    Calls Tryz.prog 37 #[.slice A a.length ca, .slice B b.length cb] w fun e w' => Below w.heap.size w w' ∧ e = .returned (.bool (same a b)) := by
  have HF := Lib.hid (And.intro ha hb)
  have hal := ha.1
  have hbl := hb.1
  clear ha hb
  by_cases hl : a.length = b.length
  · go_enter Tryz.func37, Tryz.ntmps37
    have hlb : ((a.length : Int) != (b.length : Int)) = false := by simp; omega
    have HLe := Lib.hid hl
    have HCS := Lib.hid (And.intro hca hcb)
    clear hl hca hcb
    go_wp2_with fail
    go_loopw [5] (fun v wr => SmR a b w v wr) (fun v _ => a.length - (intOf v).toNat)
    case atStart => exact ⟨0, Nat.zero_le _, rfl, fun i _ _ h => by omega, Below.refl _ _⟩
    case round =>
      obtain ⟨k, hk, rfl, hsm, hbel⟩ := hrel
      have HSM := Lib.hid (And.intro hsm hbel)
      clear hsm hbel
      by_cases hlt : k < a.length
      · have hlt2 : k < b.length := by have := HLe.out; omega
        obtain ⟨ba, oa, rfl, hba, hc0⟩ := Cs.str HCS.out.1 hlt
        obtain ⟨bb, ob, rfl, hbb, hd0⟩ := Cs.str HCS.out.2 hlt2
        have hc1 := (HSM.out.2.cell (p := ⟨ba, oa + k, none⟩) hba).trans hc0
        have hd1 := (HSM.out.2.cell (p := ⟨bb, ob + k, none⟩) hbb).trans hd0
        have hxl : a[k].length ≤ 1000000 := by have := HF.out.1.2 a[k] (List.getElem_mem hlt); omega
        have hyl : b[k].length ≤ 1000000 := by have := HF.out.2.2 b[k] (List.getElem_mem hlt2); omega
        have HEQ : Hid (low a[k] = low b[k] → ∀ i (h1 : i < a.length) (h2 : i < b.length), i < k + 1 → low a[i] = low b[i]) := Lib.hid (fun h i h1 h2 h3 => by
          by_cases hik : i = k
          · subst hik; exact h
          · exact HSM.out.1 i h1 h2 (by omega))
        have HNE : Hid (¬ low a[k] = low b[k] → same a b = false) := Lib.hid (fun h => by
          cases hs : same a b
          · rfl
          · exact absurd (((lower_eq_iff a b).1 ((same_iff a b).1 hs)).2 k hlt hlt2) h)
        have HSZ : Hid (w.heap.size ≤ wr.heap.size) := Lib.hid HSM.out.2.size
        generalize a[k] = x at *
        generalize b[k] = y at *
        have hxb := LowText x
        have hyb := LowText y
        have HT := Lib.hid (And.intro hxb hyb)
        clear hxb hyb hc0 hd0
        go_wp2_with fail
        have hbaw : ba < wr.heap.size := Nat.lt_of_lt_of_le hba HSZ.out
        have hbbw : bb < wr.heap.size := Nat.lt_of_lt_of_le hbb HSZ.out
        refine wp_region_x (by kernel_rfl) (by kernel_rfl) wr.heap.size (Nat.le_refl _) [.c (.is (.slice (some ⟨ba, oa, none⟩) a.length ca)), .c (.is (.int .i64 (k : Int))), .c (.is (.pointer (some ⟨ba, oa + k, none⟩))), .c (.is (.string (strB x))), .c (.is (.string (strB (low x)))),
          .c (.is (.slice (some ⟨bb, ob, none⟩) b.length cb)), .c (.is (.int .i64 (k : Int))), .c (.is (.pointer (some ⟨bb, ob + k, none⟩))), .c (.is (.string (strB y))), .c (.is (.string (strB (low y)))), .c (.is (.bool (!(low x == low y))))] (by kernel_rfl) (fun i => 0) (fun j => 0) (by kernel_rfl) ?_ (fun _ => True) trivial (fun _ _ _ _ => trivial) (fun _ _ _ _ => trivial) ?_ ?_
        · intro j vals
          rcases j with _ | _ | _ | _ | _ | _ | _ | _ | _ | _ | _ | j
          all_goals first
            | exact plain_is _
            | exact plain_any
        · intro i o hio vals W hE haf _
          have e1 := (bcl (o := oa + k) hE hbaw).trans hc1
          have e2 := (bcl (o := ob + k) hE hbbw).trans hd1
          rcases i with _ | _ | _ | _ | _ | _ | _ | _ | _ | _ | _ | i
          all_goals first
            | (exfalso; simp at hio; done)
            | skip
          all_goals
            simp at hio
            subst hio
            simp [bindD, rdB, Region.binds, dfAt, DF.d_at] at haf
          all_goals first
            | (simp [opYield_def, yieldUpon, relAct, dstAt, Act.put, Region.wanted, go_sem, haf, e1, e2, hlt, hlt2, Ext.refl, dfAt, DF.d_at, kindX, strB_toList]; done)
            | skip
          · simp [opYield_def, yieldUpon, relAct, dstAt, Act.put, Region.wanted, go_sem, haf, dfAt, DF.d_at, kindX]
            refine (HT.out.1 W hxl).mono fun e W' h5 => ?_
            exact ⟨h5.1, h5.2⟩
          · simp [opYield_def, yieldUpon, relAct, dstAt, Act.put, Region.wanted, go_sem, haf, dfAt, DF.d_at, kindX]
            refine (HT.out.2 W hyl).mono fun e W' h5 => ?_
            exact ⟨h5.1, h5.2⟩
        · intro vals W hE hF
          have h10 := hF 10 (by show 10 < 11; omega) (by kernel_rfl)
          simp only [dfAt, DF.d_at] at h10
          have h10 : vals 10 = .bool (!(low x == low y)) := by simpa [DF.d_at] using h10
          simp [relAct, dstAt, Act.put]
          rw [h10]
          have hbW := HSM.out.2.trans (hE.mono HSZ.out)
          clear hF h10
          by_cases he : low x = low y
          · have hbb2 : (low x == low y) = true := by simp [he]
            rw [hbb2]
            have hall := HEQ.out he
            have HALL := Lib.hid hall
            clear hall
            go_wp2_with fail
            exact ⟨⟨k + 1, hlt, by go_num, HALL.out, hbW⟩, by simp [intOf]; omega⟩
          · have hbb2 : (low x == low y) = false := by simp [he]
            rw [hbb2]
            go_wp2_with fail
            go_ret
            exact ⟨hbW, by rw [HNE.out he]; rfl⟩
      · have hkl : k = a.length := by omega
        have hsame : same a b = true := (same_iff a b).2 ((lower_eq_iff a b).2 ⟨HLe.out, fun i h1 h2 => HSM.out.1 i h1 h2 (by omega)⟩)
        have HSa := Lib.hid hsame
        clear hsame
        go_wp2_with fail
        go_ret
        exact ⟨HSM.out.2, by rw [HSa.out]; rfl⟩
  · have hsf : same a b = false := by
      cases hs : same a b
      · rfl
      · exact absurd ((lower_eq_iff a b).1 ((same_iff a b).1 hs)).1 hl
    have hlb : ((a.length : Int) != (b.length : Int)) = true := by simp; omega
    go_enter Tryz.func37, Tryz.ntmps37
    have HSa := Lib.hid hsf
    clear hsf
    go_wp2_with fail
    go_ret
    exact ⟨Below.refl _ _, by rw [HSa.out]; rfl⟩
set_option maxRecDepth 100000 in
set_option maxHeartbeats 2000000 in
theorem RWithin (A B : Option Addr) (a b : List Lab) (ca cb : Nat) (w : World) (hca : Cs w A (a.map strV)) (hcb : Cs w B (b.map strV)) (ha : Few a) (hb : Few b) (hcap : a.length ≤ ca) (hcap2 : ca ≤ maxLen) :
    Calls Tryz.prog 38 #[.slice A a.length ca, .slice B b.length cb] w fun e w' => Below w.heap.size w w' ∧ e = .returned (.bool (within a b)) := by
  unfold maxLen at hcap2
  have hla := ha.1
  have hlb := hb.1
  by_cases h : b.length ≤ a.length
  · have hd := hca.drop' (a.length - b.length) ca (by simpa using hcap)
    rw [← List.map_drop] at hd
    have hdl : (a.drop (a.length - b.length)).length = a.length - (a.length - b.length) := List.length_drop
    have HW : Hid (within a b = same (a.drop (a.length - b.length)) b) := Lib.hid (by unfold within; simp [h])
    have hS := fun A' c' (hA' : Cs w A' ((a.drop (a.length - b.length)).map strV)) => RSame A' B (a.drop (a.length - b.length)) b c' cb w hA' hcb (ha.drop _) hb
    rw [hdl] at hS
    have hge : decide (b.length ≤ a.length) = true := by simpa using h
    clear hdl
    have HS := Lib.hid hS
    have HD := Lib.hid hd
    clear hS hd ha hb hca hcb
    generalize same (a.drop (a.length - b.length)) b = s at *
    go_enter Tryz.func38, Tryz.ntmps38
    go_wp2_with fail
    all_goals
      have HD2 := HD.out
      simp only [h, if_true, if_false] at HD2
      refine (HS.out _ _ HD2).mono ?_
      rintro e w' ⟨hb5, rfl⟩
      go_wp2_with fail
      go_ret
      exact ⟨hb5, by rw [HW.out]; rfl⟩
  · have HW : Hid (within a b = false) := Lib.hid (by unfold within; simp [h])
    have hge : decide (b.length ≤ a.length) = false := by simpa using h
    go_enter Tryz.func38, Tryz.ntmps38
    go_wp2_with fail
    go_ret
    exact ⟨Below.refl _ _, by rw [HW.out]; rfl⟩
theorem strict_len : ∀ {l d : List Lab}, StrictOf l d → d.length ≤ l.length := by
  have key : ∀ (d l : List Lab), d.Pairwise ltB → (∀ x, x ∈ d → x ∈ l) → d.length ≤ l.length := by
    intro d
    induction d with
    | nil => intro l _ _; simp
    | cons y r ih =>
      intro l hp hs
      have h1 := List.pairwise_cons.1 hp
      have hy : y ∈ l := hs y (by simp)
      have h2 := ih (l.erase y) h1.2 (fun x hx => by
        have hne : x ≠ y := fun e => ltB_irrefl y (e ▸ h1.1 x hx)
        exact (List.mem_erase_of_ne hne).2 (hs x (by simp [hx])))
      rw [List.length_erase_of_mem hy] at h2
      have h3 := List.length_pos_of_mem hy
      rw [List.length_cons]
      omega
  intro l d h
  exact key d l h.1 (fun x hx => (h.2 x).1 hx)
theorem strict_exists : ∀ l : List Lab, ∃ d, StrictOf l d := fun l => by
  have : ∀ n, ∀ l : List Lab, l.length = n → ∃ d, StrictOf l d := by
    intro n
    induction n with
    | zero => intro l h; rw [List.eq_nil_of_length_eq_zero h]; exact ⟨[], strict_nil⟩
    | succ n ih =>
      intro l h
      have hne : l ≠ [] := by intro e; subst e; cases h
      rw [← List.dropLast_concat_getLast hne]
      obtain ⟨d, hd⟩ := ih l.dropLast (by rw [List.length_dropLast]; omega)
      generalize l.getLast hne = x
      generalize l.dropLast = m at *
      by_cases hx : x ∈ d
      · exact ⟨d, strict_there hd hx⟩
      · have hsp : d = d.takeWhile (fun y => decide (ltB y x)) ++ d.dropWhile (fun y => decide (ltB y x)) := (List.takeWhile_append_dropWhile).symm
        refine ⟨_, strict_ins (j := (d.takeWhile (fun y => decide (ltB y x))).length) hd ?_ ?_ ?_⟩
        · conv => rhs; rw [hsp, List.length_append]
          omega
        · intro y hy
          have e : d.take (d.takeWhile (fun y => decide (ltB y x))).length = d.takeWhile (fun y => decide (ltB y x)) := by
            conv => lhs; arg 2; rw [hsp]
            rw [List.take_left]
          rw [e] at hy
          have := List.all_takeWhile (l := d) (p := fun y => decide (ltB y x))
          have h2 := List.all_eq_true.1 this y hy
          simpa using h2
        · intro y hy
          have e : d[(d.takeWhile (fun y => decide (ltB y x))).length]? = (d.dropWhile (fun y => decide (ltB y x)))[0]? := by
            conv => lhs; arg 1; rw [hsp]
            rw [List.getElem?_append_right (Nat.le_refl _), Nat.sub_self]
          rw [e] at hy
          have hmem : y ∈ d := by
            rw [hsp]
            exact List.mem_append_right _ (List.mem_of_getElem? hy)
          have hnl : ¬ ltB y x := by
            cases hdw : d.dropWhile (fun y => decide (ltB y x)) with
            | nil => rw [hdw] at hy; cases hy
            | cons z r =>
              rw [hdw] at hy
              have hz : z = y := by simpa using hy
              have h3 := List.head_dropWhile_not (p := fun y => decide (ltB y x)) (l := d) (w := by rw [hdw]; simp)
              simp only [hdw, List.head_cons] at h3
              rw [← hz]
              simpa using h3
          rcases ltB_tot y x with h | h | h
          · exact absurd h hnl
          · exact absurd (h ▸ hmem) hx
          · exact h
  exact this _ l rfl
end Nm
end Go.Proofs.YthogembgndkmpaaGreatDoor
