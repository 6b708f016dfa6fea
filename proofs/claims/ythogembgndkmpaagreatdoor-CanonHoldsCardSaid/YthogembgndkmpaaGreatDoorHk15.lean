/-
  Texts merged by a program (CVer).
-/
import Derived.Test.YthogembgndkmpaaGreatDoorHk14
set_option linter.unusedSimpArgs false
set_option linter.unusedVariables false
/- canon.Verify. (Printed by a program.) -/
namespace Go.Proofs.YthogembgndkmpaaGreatDoor
open Go.RowKit
namespace Nm
/-- a key's signature of a set: the document's conditions -/
def verB (n : List Lab) (t : Nat) (g : SigM) (fl pr al : Nat) (key : Lab) (o : List Lab) (now : Nat) (ys : List Lab) : Bool :=
  (((((((((((((g.t : Int) == (t : Int)) && ((g.al : Int) == 253)) && ((al : Int) == 253)) && ((pr : Int) == 3)) && !(bits .and .u16 (fl : Int) 256 == 0)) && ((g.tg : Int) == (W.tagN (keyL fl pr al key) : Int))) && same g.n o) && within n o) && decide ((g.lb : Int) ≤ (labels n : Int))) && decide ((g.bg : Int) ≤ (now : Int))) && decide ((now : Int) ≤ (g.ex : Int))) && W.verT W.ks0 key 2 (msgL n t ys g) g.s)
def gF : Bool → Fact → Fact
  | true, f => f
  | false, _ => Fact.any
theorem opY_plain {P : Program} {o : Oper} {a : Act} {Y : Nat → Option Bool} {W : World} {R : Value → World → Prop} (hg : o.guard = none) (h : yieldUpon P R ((execOp a.eval o).run P W)) : opYieldY P o a Y W R := by
  rw [opYieldY_def, if_pos (by simp [Region.wanted, hg])]
  exact h
theorem opY_yes {P : Program} {o : Oper} {a : Act} {Y : Nat → Option Bool} {W : World} {R : Value → World → Prop} {j : Nat} (hg : o.guard = some (j, true)) (hY : Y j = some true) (h : yieldUpon P R ((execOp a.eval o).run P W)) : opYieldY P o a Y W R := by
  rw [opYieldY_def, if_pos (by simp [Region.wanted, hg, hY])]
  exact h
theorem opY_no {P : Program} {o : Oper} {a : Act} {Y : Nat → Option Bool} {W : World} {R : Value → World → Prop} {j : Nat} (hg : o.guard = some (j, true)) (hY : Y j = some false) (h : R undef W) : opYieldY P o a Y W R := by
  rw [opYieldY_def, if_neg (by simp [Region.wanted, hg, hY])]
  exact h
theorem yv {P : Program} {o : Oper} {a : Act} {W : World} {R : Value → World → Prop} (v : Value) (hr : (execOp a.eval o).run P W = .ok (.value v) W) (h : R v W) : yieldUpon P R ((execOp a.eval o).run P W) := by
  rw [hr]
  exact h
theorem yc {P : Program} {o : Oper} {a : Act} {W : World} {R : Value → World → Prop} (f : Nat) (args : Array Value) (hr : (execOp a.eval o).run P W = .ok (.enter f args) W) (h : Calls P f args W fun e W' => ∃ v, e = .returned v ∧ R v W') : yieldUpon P R ((execOp a.eval o).run P W) := by
  rw [hr]
  exact h
/-- bytes that lie somewhere, with room -/
def bytesG (l : Lab) : Fact := ⟨fun v W => ∃ A c, v = .slice A l.length c ∧ Cs W A (l.map byteV) ∧ l.length ≤ c ∧ c ≤ maxLen ∧ (A = none → c = 0), by
  intro v W W' hE h
  obtain ⟨A, c, h1, h2, h3⟩ := h
  exact ⟨A, c, h1, h2.below hE, h3⟩⟩
theorem bytesG_p (l : Lab) (v : Value) (W : World) : (bytesG l).p v W = ∃ A c, v = .slice A l.length c ∧ Cs W A (l.map byteV) ∧ l.length ≤ c ∧ c ≤ maxLen ∧ (A = none → c = 0) := rfl
theorem bytesG_own {W : World} {B n : Nat} {v : Value} {l : Lab} (h : W.ownsRow B 5 1 v n (l.map byteV)) : (bytesG l).p v W := by
  rw [bytesG_p]
  have hn : l.length = n := by have := h.1; simpa using this
  obtain ⟨hl, h2⟩ := h
  obtain ⟨A, c, e, _, hc⟩ := Cs.of_own (⟨hl, h2⟩ : W.ownsRow B 5 1 v n (l.map byteV))
  refine ⟨A, c, by rw [hn]; exact e, hc, ?_⟩
  rcases h2 with ⟨h3, h4⟩ | ⟨g, cap, cur, h3, _, _, h5, h6, _⟩
  · rw [h3] at e
    cases e
    exact ⟨by omega, by unfold maxLen; omega, fun _ => rfl⟩
  · rw [h3] at e
    cases e
    exact ⟨by omega, h6, fun h => by cases h⟩
set_option maxRecDepth 1000000 in
set_option maxHeartbeats 200000000 in
theorem CVerify (A D : Option Addr) (n : List Lab) (cap dcap t : Nat) (sttl : Int) (ds : List Blob) (g : SigM) (SA SS : Option Addr) (sc ssc : Nat) (fl pr al : Nat) (key : Lab) (KA : Option Addr) (kc : Nat) (O : Option Addr) (o : List Lab) (oc now : Nat) (w : World) (ht : goodT t) (hA : Cs w A (n.map strV)) (hn : Small n) (hcapn : n.length ≤ cap) (hcapn2 : cap ≤ maxLen) (hD : Cs w D (ds.map Blob.v)) (hds : Blobs w ds) (hdl : ds.length ≤ 20)
    (hcap : ∀ d ∈ ds, d.l.length ≤ 100000 ∧ d.l.length ≤ d.cap ∧ d.cap ≤ maxLen) (hcx : ∀ d ∈ ds, (canX t d.l).length ≤ 20000) (hg : g.fits) (hSA : Cs w SA (g.n.map strV)) (hgl : g.low.bytes.length ≤ 10000) (hwo : (wire (ownN n g.lb)).length ≤ 10000) (hSS : Cs w SS (g.s.map byteV)) (hsl : g.s.length = 532) (hssc : 532 ≤ ssc) (hfl : fl < 65536) (hpr : pr < 256) (hal : al < 256) (hK : Cs w KA (key.map byteV)) (hkl : key.length = 8) (hkc : 8 ≤ kc) (hO : Cs w O (o.map strV)) (ho : Small o) (hnow : now < 4294967296) (hk : W.ArrU w 1 100 W.ks0) :
    Calls Tryz.prog 15 #[.agg #[.slice A n.length cap, .int .u16 (t : Int), .int .u32 sttl, .slice D ds.length dcap], g.v SA sc SS ssc, keyV fl pr al key KA kc, .slice O o.length oc, .int .i64 2, .int .u32 (now : Int)] w fun e w' => ∀ ys, StrictOf (ds.map fun d => canX t d.l) ys → e = .returned (.bool (verB n t g fl pr al key o now ys)) ∧ Below w.heap.size w w' := by
  unfold SigM.v keyV
  generalize hw3 : ((w.alloc (.cells #[.slice A n.length cap, .int .u16 (t : Int), .int .u32 sttl, .slice D ds.length dcap] 34)).alloc (.cells #[.int .u16 (g.t : Int), .int .u8 (g.al : Int), .int .u8 (g.lb : Int), .int .u32 (g.ttl : Int), .int .u32 (g.ex : Int), .int .u32 (g.bg : Int), .int .u16 (g.tg : Int), .slice SA g.n.length sc, .slice SS g.s.length ssc] 41)).alloc (.cells #[.int .u16 (fl : Int), .int .u8 (pr : Int), .int .u8 (al : Int), .slice KA key.length kc] 39) = w3
  have hb3 : Below w.heap.size w w3 := by rw [← hw3]; exact (((Below.refl _ _).alloc (Nat.le_refl _) _).alloc (by simp) _).alloc (by simp; omega) _
  have hsz3 : w3.heap.size = w.heap.size + 3 := by rw [← hw3]; simp
  have q0 : w3.heap[w.heap.size]? = some (.cells #[.slice A n.length cap, .int .u16 (t : Int), .int .u32 sttl, .slice D ds.length dcap] 34 (0, 0)) := by
    rw [← hw3, Below.heap_alloc _ _ _ (by simp; omega), Below.heap_alloc _ _ _ (by simp)]
    exact heap_alloc_new w _
  have q1 : w3.heap[w.heap.size + 1]? = some (.cells #[.int .u16 (g.t : Int), .int .u8 (g.al : Int), .int .u8 (g.lb : Int), .int .u32 (g.ttl : Int), .int .u32 (g.ex : Int), .int .u32 (g.bg : Int), .int .u16 (g.tg : Int), .slice SA g.n.length sc, .slice SS g.s.length ssc] 41 (0, 0)) := by
    rw [← hw3, Below.heap_alloc _ _ _ (by simp)]
    have := heap_alloc_new (w.alloc (.cells #[.slice A n.length cap, .int .u16 (t : Int), .int .u32 sttl, .slice D ds.length dcap] 34)) (.cells #[.int .u16 (g.t : Int), .int .u8 (g.al : Int), .int .u8 (g.lb : Int), .int .u32 (g.ttl : Int), .int .u32 (g.ex : Int), .int .u32 (g.bg : Int), .int .u16 (g.tg : Int), .slice SA g.n.length sc, .slice SS g.s.length ssc] 41)
    simpa using this
  have q2 : w3.heap[w.heap.size + 2]? = some (.cells #[.int .u16 (fl : Int), .int .u8 (pr : Int), .int .u8 (al : Int), .slice KA key.length kc] 39 (0, 0)) := by
    rw [← hw3]
    have := heap_alloc_new ((w.alloc (.cells #[.slice A n.length cap, .int .u16 (t : Int), .int .u32 sttl, .slice D ds.length dcap] 34)).alloc (.cells #[.int .u16 (g.t : Int), .int .u8 (g.al : Int), .int .u8 (g.lb : Int), .int .u32 (g.ttl : Int), .int .u32 (g.ex : Int), .int .u32 (g.bg : Int), .int .u16 (g.tg : Int), .slice SA g.n.length sc, .slice SS g.s.length ssc] 41)) (.cells #[.int .u16 (fl : Int), .int .u8 (pr : Int), .int .u8 (al : Int), .slice KA key.length kc] 39)
    simpa using this
  obtain ⟨ys0, hys0⟩ := strict_exists (ds.map fun d => canX t d.l)
  have HYU : Hid (∀ ys, StrictOf (ds.map fun d => canX t d.l) ys → ys = ys0) := Lib.hid (fun ys h => strict_uniq h hys0)
  have HV : Hid (∀ c1 c2 c3 c4 c5 c6 c7 c8 c9 c10 c11 c12 p2 p3 p4 p5 p6 p7 p8 p9 p10 p11 p12, ((g.t : Int) == (t : Int)) = c1 → ((g.al : Int) == 253) = c2 → ((al : Int) == 253) = c3 → ((pr : Int) == 3) = c4 → (!(bits .and .u16 (fl : Int) 256 == 0)) = c5 → ((g.tg : Int) == (W.tagN (keyL fl pr al key) : Int)) = c6 → same g.n o = c7 → within n o = c8 → decide ((g.lb : Int) ≤ (labels n : Int)) = c9 → decide ((g.bg : Int) ≤ (now : Int)) = c10 → decide ((now : Int) ≤ (g.ex : Int)) = c11 → W.verT W.ks0 key 2 (msgL n t ys0 g) g.s = c12 →
      (c1 && c2) = p2 → (p2 && c3) = p3 → (p3 && c4) = p4 → (p4 && c5) = p5 → (p5 && c6) = p6 → (p6 && c7) = p7 → (p7 && c8) = p8 → (p8 && c9) = p9 → (p9 && c10) = p10 → (p10 && c11) = p11 → (p11 && c12) = p12 → verB n t g fl pr al key o now ys0 = p12) := Lib.hid (by intros; subst_vars; rfl)
  have hkbl : (keyL fl pr al key).length ≤ 100 := by simp [keyL, be2]; omega
  have hmgl : (msgL n t ys0 g).length ≤ 1000000 := by
    have hl : ys0.length ≤ 20 := by
      have h1 := strict_len hys0
      rw [List.length_map] at h1
      omega
    have h2 : ∀ y ∈ ys0, y.length ≤ 20000 := fun y hy => by
      obtain ⟨d, hd, hdx⟩ := List.mem_map.1 ((hys0.2 y).1 hy)
      rw [← hdx]
      exact hcx d hd
    have h3 : (headO (ownN n g.lb) t g.ttl).length ≤ 10008 := by
      unfold headO
      simp [be2, be4]
      omega
    have h4 : ∀ l : List Lab, (∀ y ∈ l, y.length ≤ 20000) → (l.flatMap (fun y => headO (ownN n g.lb) t g.ttl ++ be2 y.length ++ y)).length ≤ l.length * 30010 := by
      intro l
      induction l with
      | nil => intro _; simp
      | cons y r ih =>
        intro h
        have h5 := ih (fun z hz => h z (by simp [hz]))
        have h6 := h y (by simp)
        rw [List.flatMap_cons, List.length_append, List.length_append, List.length_append, List.length_cons]
        have h7 : (be2 y.length).length = 2 := rfl
        omega
    have h8 := h4 ys0 h2
    unfold msgL
    rw [List.length_append]
    omega
  have HKB : Hid (∀ W, Ext w3 W → Calls Tryz.prog 33 #[.agg #[.int .u16 (fl : Int), .int .u8 (pr : Int), .int .u8 (al : Int), .slice KA key.length kc]] W fun e w' => ∃ v, e = .returned v ∧ (bytesG (keyL fl pr al key)).p v w' ∧ Ext W w') := Lib.hid (fun W hE => by
    refine (KeyB fl pr al key hfl hpr hal (by omega) KA kc W (hK.below (hb3.trans (hE.mono hb3.size)))).mono fun e w' h => ?_
    obtain ⟨v, h1, h2, h3⟩ := h
    exact ⟨v, h1, bytesG_own h2, h3⟩)
  have HTG : Hid (∀ V A' c', Cs V A' ((keyL fl pr al key).map byteV) → Calls Tryz.prog 32 #[.slice A' (keyL fl pr al key).length c'] V fun e w' => e = .returned (.int .u16 (W.tagN (keyL fl pr al key) : Int)) ∧ Ext V w') := Lib.hid (fun V A' c' h => by
    refine (W.Tag A' c' (keyL fl pr al key) V h (by omega)).mono fun e w' h => ?_
    rw [h.2]
    exact ⟨h.1, Ext.refl _⟩)
  have HSM : Hid (∀ W, Ext w3 W → Calls Tryz.prog 34 #[.slice SA g.n.length sc, .slice O o.length oc] W fun e w' => e = .returned (.bool (same g.n o)) ∧ Ext W w') := Lib.hid (fun W hE => by
    have hB := hb3.trans (hE.mono hb3.size)
    exact (Same SA O g.n o sc oc W (hSA.below hB) (hO.below hB) hg.n.few ho.few).mono fun e w' h => ⟨h.2, h.1⟩)
  have HWI : Hid (∀ W, Ext w3 W → Calls Tryz.prog 35 #[.slice A n.length cap, .slice O o.length oc] W fun e w' => e = .returned (.bool (within n o)) ∧ Ext W w') := Lib.hid (fun W hE => by
    have hB := hb3.trans (hE.mono hb3.size)
    exact (Within A O n o cap oc W (hA.below hB) (hO.below hB) hn.few ho.few hcapn hcapn2).mono fun e w' h => ⟨h.2, h.1⟩)
  have HLB : Hid (∀ W, Ext w3 W → Calls Tryz.prog 17 #[.slice A n.length cap] W fun e w' => e = .returned (.int .u8 (labels n : Int)) ∧ Ext W w') := Lib.hid (fun W hE => by
    have hB := hb3.trans (hE.mono hb3.size)
    refine (Labels A n cap W (hA.below hB) (by have := hn.1; omega) hcapn hcapn2).mono fun e w' h => ?_
    rw [← h.2]
    exact ⟨h.1, Ext.refl _⟩)
  have HMS : Hid (∀ W, Ext w3 W → Calls Tryz.prog 18 #[.agg #[.slice A n.length cap, .int .u16 (t : Int), .int .u32 sttl, .slice D ds.length dcap], .agg #[.int .u16 (g.t : Int), .int .u8 (g.al : Int), .int .u8 (g.lb : Int), .int .u32 (g.ttl : Int), .int .u32 (g.ex : Int), .int .u32 (g.bg : Int), .int .u16 (g.tg : Int), .slice SA g.n.length sc, .slice SS g.s.length ssc]] W fun e w' => ∃ v, e = .returned v ∧ (bytesG (msgL n t ys0 g)).p v w' ∧ Ext W w') := Lib.hid (fun W hE => by
    have hB := hb3.trans (hE.mono hb3.size)
    refine (MessageGC A D n cap dcap t sttl ds g SA SS sc ssc W (CanonEasy t ht) (by unfold goodT at ht; omega) (hA.below hB) hn (hD.below hB) (hds.below hB) hdl hcap hcx hg (hSA.below hB) hgl hwo).mono fun e w' h => ?_
    obtain ⟨v, ys, h1, h2, h3, h4⟩ := h
    obtain rfl := HYU.out ys (told_strict h2)
    exact ⟨v, h1, bytesG_own h3, h4⟩)
  have HVR : Hid (∀ V A' c', Ext w3 V → Cs V A' ((msgL n t ys0 g).map byteV) → (msgL n t ys0 g).length ≤ c' → c' ≤ maxLen → (A' = none → c' = 0) → Calls Tryz.prog 36 #[.slice KA key.length kc, .int .i64 2, .slice A' (msgL n t ys0 g).length c', .slice SS g.s.length ssc] V fun e w' => e = .returned (.bool (W.verT W.ks0 key 2 (msgL n t ys0 g) g.s)) ∧ Ext V w') := Lib.hid (fun V A' c' hE h1 h2 h3 h4 => by
    have hB := hb3.trans (hE.mono hb3.size)
    have h5 := _root_.Go.Proofs.YthogembgndkmpaaGreatDoor.W.VerifyT A' SS KA c' ssc kc W.ks0 key (msgL n t ys0 g) g.s 2 V (hk.keep (hB.block 1 hk.lt)) rfl h1 hmgl h2 h3 h4 (hSS.below hB) hsl (by omega) (hK.below hB) hkl (by omega) (by omega)
    exact h5)
  have H0 := Lib.hid (And.intro hb3 (And.intro q0 (And.intro q1 q2)))
  clear hb3 q0 q1 q2 hkl hsl hkc hssc hkbl hmgl
  go_enter Tryz.func15, Tryz.ntmps15
  go_wp2_with fail
  clear hw3
  have hk0 := H0.out.2.1
  have hk1 := H0.out.2.2.1
  have hk2 := H0.out.2.2.2
  obtain ⟨s0, s1, s2, s3⟩ := cells4K hk0
  obtain ⟨g0, g1, g2, g3, g4, g5, g6, g7, g8, _⟩ := cells9 hk1
  obtain ⟨k0, k1, k2, k3⟩ := cells4K hk2
  clear hk0 hk1 hk2
  generalize hc1 : ((g.t : Int) == (t : Int)) = c1 at *
  generalize hc2 : ((g.al : Int) == 253) = c2 at *
  generalize hc3 : ((al : Int) == 253) = c3 at *
  generalize hc4 : ((pr : Int) == 3) = c4 at *
  generalize hq5 : bits .and .u16 (fl : Int) 256 = q5 at *
  generalize hc5 : (!(q5 == 0)) = c5 at *
  generalize htn : W.tagN (keyL fl pr al key) = tn at *
  generalize hc6 : ((g.tg : Int) == (tn : Int)) = c6 at *
  generalize hc7 : same g.n o = c7 at *
  generalize hc8 : within n o = c8 at *
  generalize hlbl : labels n = lbl at *
  generalize hc9 : decide ((g.lb : Int) ≤ (lbl : Int)) = c9 at *
  generalize hc10 : decide ((g.bg : Int) ≤ (now : Int)) = c10 at *
  generalize hc11 : decide ((now : Int) ≤ (g.ex : Int)) = c11 at *
  generalize hc12 : W.verT W.ks0 key 2 (msgL n t ys0 g) g.s = c12 at *
  generalize hp2 : (c1 && c2) = p2 at *
  generalize hp3 : (p2 && c3) = p3 at *
  generalize hp4 : (p3 && c4) = p4 at *
  generalize hp5 : (p4 && c5) = p5 at *
  generalize hp6 : (p5 && c6) = p6 at *
  generalize hp7 : (p6 && c7) = p7 at *
  generalize hp8 : (p7 && c8) = p8 at *
  generalize hp9 : (p8 && c9) = p9 at *
  generalize hp10 : (p9 && c10) = p10 at *
  generalize hp11 : (p10 && c11) = p11 at *
  generalize hp12 : (p11 && c12) = p12 at *
  have hc5' : (q5 != 0) = c5 := hc5
  have hc9' : decide (g.lb ≤ lbl) = c9 := by rw [← hc9]; simp
  have hc10' : decide (g.bg ≤ now) = c10 := by rw [← hc10]; simp
  have hc11' : decide (now ≤ g.ex) = c11 := by rw [← hc11]; simp
  generalize hkb : keyL fl pr al key = kb at *
  generalize hmg : msgL n t ys0 g = mg at *
  refine wp_region_a (by kernel_rfl) (by kernel_rfl) (by kernel_rfl) [(.is (.pointer (some ⟨w.heap.size + 1, 0, none⟩))), (.is (.int .u16 (g.t : Int))), (.is (.pointer (some ⟨w.heap.size, 1, none⟩))), (.is (.int .u16 (t : Int))), (.is (.bool c1)), (.is (.bool c1)), gF c1 (.is (.pointer (some ⟨w.heap.size + 1, 1, none⟩))), gF c1 (.is (.int .u8 (g.al : Int))), gF c1 (.is (.bool c2)), (.is (.bool p2)), (.is (.bool p2)), gF p2 (.is (.pointer (some ⟨w.heap.size + 2, 2, none⟩))), gF p2 (.is (.int .u8 (al : Int))), gF p2 (.is (.bool c3)), (.is (.bool p3)), (.is (.bool p3)), gF p3 (.is (.pointer (some ⟨w.heap.size + 2, 1, none⟩))), gF p3 (.is (.int .u8 (pr : Int))), gF p3 (.is (.bool c4)), (.is (.bool p4)), (.is (.bool p4)), gF p4 (.is (.pointer (some ⟨w.heap.size + 2, 0, none⟩))), gF p4 (.is (.int .u16 (fl : Int))), gF p4 (.is (.int .u16 q5)), gF p4 (.is (.bool c5)), (.is (.bool p5)), (.is (.bool p5)), gF p5 (.is (.pointer (some ⟨w.heap.size + 1, 6, none⟩))), gF p5 (.is (.int .u16 (g.tg : Int))), gF p5 (.is (.agg #[.int .u16 (fl : Int), .int .u8 (pr : Int), .int .u8 (al : Int), .slice KA key.length kc])), gF p5 (bytesG kb), gF p5 (.is (.int .u16 (tn : Int))), gF p5 (.is (.bool c6)), (.is (.bool p6)), (.is (.bool p6)), gF p6 (.is (.pointer (some ⟨w.heap.size + 1, 7, none⟩))), gF p6 (.is (.slice SA g.n.length sc)), gF p6 (.is (.slice O o.length oc)), gF p6 (.is (.bool c7)), (.is (.bool p7)), (.is (.bool p7)), gF p7 (.is (.pointer (some ⟨w.heap.size, 0, none⟩))), gF p7 (.is (.slice A n.length cap)), gF p7 (.is (.slice O o.length oc)), gF p7 (.is (.bool c8)), (.is (.bool p8)), (.is (.bool p8)), gF p8 (.is (.pointer (some ⟨w.heap.size + 1, 2, none⟩))), gF p8 (.is (.int .u8 (g.lb : Int))), gF p8 (.is (.pointer (some ⟨w.heap.size, 0, none⟩))), gF p8 (.is (.slice A n.length cap)), gF p8 (.is (.int .u8 (lbl : Int))), gF p8 (.is (.bool c9)), (.is (.bool p9)), (.is (.bool p9)), gF p9 (.is (.int .u32 (now : Int))), gF p9 (.is (.pointer (some ⟨w.heap.size + 1, 5, none⟩))), gF p9 (.is (.int .u32 (g.bg : Int))), gF p9 (.is (.bool c10)), (.is (.bool p10)), (.is (.bool p10)), gF p10 (.is (.int .u32 (now : Int))), gF p10 (.is (.pointer (some ⟨w.heap.size + 1, 4, none⟩))), gF p10 (.is (.int .u32 (g.ex : Int))), gF p10 (.is (.bool c11)), (.is (.bool p11)), (.is (.bool p11)), gF p11 (.is (.pointer (some ⟨w.heap.size + 2, 3, none⟩))), gF p11 (.is (.slice KA key.length kc)), gF p11 (.is (.int .i64 2)), gF p11 (.is (.agg #[.slice A n.length cap, .int .u16 (t : Int), .int .u32 sttl, .slice D ds.length dcap])), gF p11 (.is (.agg #[.int .u16 (g.t : Int), .int .u8 (g.al : Int), .int .u8 (g.lb : Int), .int .u32 (g.ttl : Int), .int .u32 (g.ex : Int), .int .u32 (g.bg : Int), .int .u16 (g.tg : Int), .slice SA g.n.length sc, .slice SS g.s.length ssc])), gF p11 (bytesG mg), gF p11 (.is (.pointer (some ⟨w.heap.size + 1, 8, none⟩))), gF p11 (.is (.slice SS g.s.length ssc)), gF p11 (.is (.bool c12)), (.is (.bool p12)), (.is (.bool p12))] ?_ ?_
  · intro i o ho a Y vals V hE hT hFr hYb hf
    replace s0 := (bcl (b := w.heap.size) (o := 0) hE (by omega)).trans s0
    replace s1 := (bcl (b := w.heap.size) (o := 1) hE (by omega)).trans s1
    replace s2 := (bcl (b := w.heap.size) (o := 2) hE (by omega)).trans s2
    replace s3 := (bcl (b := w.heap.size) (o := 3) hE (by omega)).trans s3
    replace g0 := (bcl (b := w.heap.size + 1) (o := 0) hE (by omega)).trans g0
    replace g1 := (bcl (b := w.heap.size + 1) (o := 1) hE (by omega)).trans g1
    replace g2 := (bcl (b := w.heap.size + 1) (o := 2) hE (by omega)).trans g2
    replace g3 := (bcl (b := w.heap.size + 1) (o := 3) hE (by omega)).trans g3
    replace g4 := (bcl (b := w.heap.size + 1) (o := 4) hE (by omega)).trans g4
    replace g5 := (bcl (b := w.heap.size + 1) (o := 5) hE (by omega)).trans g5
    replace g6 := (bcl (b := w.heap.size + 1) (o := 6) hE (by omega)).trans g6
    replace g7 := (bcl (b := w.heap.size + 1) (o := 7) hE (by omega)).trans g7
    replace g8 := (bcl (b := w.heap.size + 1) (o := 8) hE (by omega)).trans g8
    replace k0 := (bcl (b := w.heap.size + 2) (o := 0) hE (by omega)).trans k0
    replace k1 := (bcl (b := w.heap.size + 2) (o := 1) hE (by omega)).trans k1
    replace k2 := (bcl (b := w.heap.size + 2) (o := 2) hE (by omega)).trans k2
    replace k3 := (bcl (b := w.heap.size + 2) (o := 3) hE (by omega)).trans k3
    rcases i with _ | _ | _ | _ | _ | _ | _ | _ | _ | _ | _ | _ | _ | _ | _ | _ | _ | _ | _ | _ | _ | _ | _ | _ | _ | _ | _ | _ | _ | _ | _ | _ | _ | _ | _ | _ | _ | _ | _ | _ | _ | _ | _ | _ | _ | _ | _ | _ | _ | _ | _ | _ | _ | _ | _ | _ | _ | _ | _ | _ | _ | _ | _ | _ | _ | _ | _ | _ | _ | _ | _ | _ | _ | _ | _ | _ | _ | _ | i
    · conv at ho => (lhs; whnf; arg 1; whnf)
      obtain rfl := Option.some.inj ho
      refine opY_plain rfl ?_
      have x7 : (a.tmps[7]?).getD undef = .pointer (some ⟨w.heap.size + 1, 0, none⟩) := hFr 7 (by kernel_rfl)
      refine yv (.pointer (some ⟨w.heap.size + 1, 0, none⟩)) (by simp [execOp, go_sem, x7]; done) ⟨Ext.refl _, rfl⟩
    · conv at ho => (lhs; whnf; arg 1; whnf)
      obtain rfl := Option.some.inj ho
      refine opY_plain rfl ?_
      have x13 : (a.tmps[13]?).getD undef = .pointer (some ⟨w.heap.size + 1, 0, none⟩) := (hT 0 13 (by kernel_rfl) (by omega)).trans (show vals 0 = .pointer (some ⟨w.heap.size + 1, 0, none⟩) from hf 0 (by kernel_rfl))
      refine yv (.int .u16 (g.t : Int)) (by simp [execOp, go_sem, x13, s0, s1, s2, s3, g0, g1, g2, g3, g4, g5, g6, g7, g8, k0, k1, k2, k3]; done) ⟨Ext.refl _, rfl⟩
    · conv at ho => (lhs; whnf; arg 1; whnf)
      obtain rfl := Option.some.inj ho
      refine opY_plain rfl ?_
      have x6 : (a.tmps[6]?).getD undef = .pointer (some ⟨w.heap.size, 0, none⟩) := hFr 6 (by kernel_rfl)
      refine yv (.pointer (some ⟨w.heap.size, 1, none⟩)) (by simp [execOp, go_sem, x6]; done) ⟨Ext.refl _, rfl⟩
    · conv at ho => (lhs; whnf; arg 1; whnf)
      obtain rfl := Option.some.inj ho
      refine opY_plain rfl ?_
      have x15 : (a.tmps[15]?).getD undef = .pointer (some ⟨w.heap.size, 1, none⟩) := (hT 2 15 (by kernel_rfl) (by omega)).trans (show vals 2 = .pointer (some ⟨w.heap.size, 1, none⟩) from hf 2 (by kernel_rfl))
      refine yv (.int .u16 (t : Int)) (by simp [execOp, go_sem, x15, s0, s1, s2, s3, g0, g1, g2, g3, g4, g5, g6, g7, g8, k0, k1, k2, k3]; done) ⟨Ext.refl _, rfl⟩
    · conv at ho => (lhs; whnf; arg 1; whnf)
      obtain rfl := Option.some.inj ho
      refine opY_plain rfl ?_
      have x14 : (a.tmps[14]?).getD undef = .int .u16 (g.t : Int) := (hT 1 14 (by kernel_rfl) (by omega)).trans (show vals 1 = .int .u16 (g.t : Int) from hf 1 (by kernel_rfl))
      have x16 : (a.tmps[16]?).getD undef = .int .u16 (t : Int) := (hT 3 16 (by kernel_rfl) (by omega)).trans (show vals 3 = .int .u16 (t : Int) from hf 3 (by kernel_rfl))
      refine yv (.bool c1) (by simp [execOp, go_sem, x14, x16, hc1]; done) ⟨Ext.refl _, rfl⟩
    · conv at ho => (lhs; whnf; arg 1; whnf)
      obtain rfl := Option.some.inj ho
      refine opY_plain rfl ?_
      have x17 : (a.tmps[17]?).getD undef = .bool c1 := (hT 4 17 (by kernel_rfl) (by omega)).trans (show vals 4 = .bool c1 from hf 4 (by kernel_rfl))
      refine yv (.bool c1) (by simp [execOp, go_sem, x17]; done) ⟨Ext.refl _, rfl⟩
    · conv at ho => (lhs; whnf; arg 1; whnf)
      obtain rfl := Option.some.inj ho
      have hY : Y 5 = some c1 := hYb 5 c1 18 (by kernel_rfl) (by omega) (show vals 5 = .bool c1 from hf 5 (by kernel_rfl))
      cases c1
      · exact opY_no rfl hY ⟨Ext.refl _, trivial⟩
      · refine opY_yes rfl hY ?_
        have x7 : (a.tmps[7]?).getD undef = .pointer (some ⟨w.heap.size + 1, 0, none⟩) := hFr 7 (by kernel_rfl)
        refine yv (.pointer (some ⟨w.heap.size + 1, 1, none⟩)) (by simp [execOp, go_sem, x7]; done) ⟨Ext.refl _, rfl⟩
    · conv at ho => (lhs; whnf; arg 1; whnf)
      obtain rfl := Option.some.inj ho
      have hY : Y 5 = some c1 := hYb 5 c1 18 (by kernel_rfl) (by omega) (show vals 5 = .bool c1 from hf 5 (by kernel_rfl))
      cases c1
      · exact opY_no rfl hY ⟨Ext.refl _, trivial⟩
      · refine opY_yes rfl hY ?_
        have x19 : (a.tmps[19]?).getD undef = .pointer (some ⟨w.heap.size + 1, 1, none⟩) := (hT 6 19 (by kernel_rfl) (by omega)).trans (show vals 6 = .pointer (some ⟨w.heap.size + 1, 1, none⟩) from hf 6 (by kernel_rfl))
        refine yv (.int .u8 (g.al : Int)) (by simp [execOp, go_sem, x19, s0, s1, s2, s3, g0, g1, g2, g3, g4, g5, g6, g7, g8, k0, k1, k2, k3]; done) ⟨Ext.refl _, rfl⟩
    · conv at ho => (lhs; whnf; arg 1; whnf)
      obtain rfl := Option.some.inj ho
      have hY : Y 5 = some c1 := hYb 5 c1 18 (by kernel_rfl) (by omega) (show vals 5 = .bool c1 from hf 5 (by kernel_rfl))
      cases c1
      · exact opY_no rfl hY ⟨Ext.refl _, trivial⟩
      · refine opY_yes rfl hY ?_
        have x20 : (a.tmps[20]?).getD undef = .int .u8 (g.al : Int) := (hT 7 20 (by kernel_rfl) (by omega)).trans (show vals 7 = .int .u8 (g.al : Int) from hf 7 (by kernel_rfl))
        refine yv (.bool c2) (by simp [execOp, go_sem, x20, hc2]; done) ⟨Ext.refl _, rfl⟩
    · conv at ho => (lhs; whnf; arg 1; whnf)
      obtain rfl := Option.some.inj ho
      refine opY_plain rfl ?_
      have x18 : (a.tmps[18]?).getD undef = .bool c1 := (hT 5 18 (by kernel_rfl) (by omega)).trans (show vals 5 = .bool c1 from hf 5 (by kernel_rfl))
      cases c1
      · refine yv (.bool p2) (by simp [execOp, go_sem, x18, ← hp2]; done) ⟨Ext.refl _, rfl⟩
      · have y21 : (a.tmps[21]?).getD undef = .bool c2 := (hT 8 21 (by kernel_rfl) (by omega)).trans (show vals 8 = .bool c2 from hf 8 (by kernel_rfl))
        refine yv (.bool p2) (by simp [execOp, go_sem, x18, y21, ← hp2]; done) ⟨Ext.refl _, rfl⟩
    · conv at ho => (lhs; whnf; arg 1; whnf)
      obtain rfl := Option.some.inj ho
      refine opY_plain rfl ?_
      have x22 : (a.tmps[22]?).getD undef = .bool p2 := (hT 9 22 (by kernel_rfl) (by omega)).trans (show vals 9 = .bool p2 from hf 9 (by kernel_rfl))
      refine yv (.bool p2) (by simp [execOp, go_sem, x22]; done) ⟨Ext.refl _, rfl⟩
    · conv at ho => (lhs; whnf; arg 1; whnf)
      obtain rfl := Option.some.inj ho
      have hY : Y 10 = some p2 := hYb 10 p2 23 (by kernel_rfl) (by omega) (show vals 10 = .bool p2 from hf 10 (by kernel_rfl))
      cases p2
      · exact opY_no rfl hY ⟨Ext.refl _, trivial⟩
      · refine opY_yes rfl hY ?_
        have x8 : (a.tmps[8]?).getD undef = .pointer (some ⟨w.heap.size + 2, 0, none⟩) := hFr 8 (by kernel_rfl)
        refine yv (.pointer (some ⟨w.heap.size + 2, 2, none⟩)) (by simp [execOp, go_sem, x8]; done) ⟨Ext.refl _, rfl⟩
    · conv at ho => (lhs; whnf; arg 1; whnf)
      obtain rfl := Option.some.inj ho
      have hY : Y 10 = some p2 := hYb 10 p2 23 (by kernel_rfl) (by omega) (show vals 10 = .bool p2 from hf 10 (by kernel_rfl))
      cases p2
      · exact opY_no rfl hY ⟨Ext.refl _, trivial⟩
      · refine opY_yes rfl hY ?_
        have x24 : (a.tmps[24]?).getD undef = .pointer (some ⟨w.heap.size + 2, 2, none⟩) := (hT 11 24 (by kernel_rfl) (by omega)).trans (show vals 11 = .pointer (some ⟨w.heap.size + 2, 2, none⟩) from hf 11 (by kernel_rfl))
        refine yv (.int .u8 (al : Int)) (by simp [execOp, go_sem, x24, s0, s1, s2, s3, g0, g1, g2, g3, g4, g5, g6, g7, g8, k0, k1, k2, k3]; done) ⟨Ext.refl _, rfl⟩
    · conv at ho => (lhs; whnf; arg 1; whnf)
      obtain rfl := Option.some.inj ho
      have hY : Y 10 = some p2 := hYb 10 p2 23 (by kernel_rfl) (by omega) (show vals 10 = .bool p2 from hf 10 (by kernel_rfl))
      cases p2
      · exact opY_no rfl hY ⟨Ext.refl _, trivial⟩
      · refine opY_yes rfl hY ?_
        have x25 : (a.tmps[25]?).getD undef = .int .u8 (al : Int) := (hT 12 25 (by kernel_rfl) (by omega)).trans (show vals 12 = .int .u8 (al : Int) from hf 12 (by kernel_rfl))
        refine yv (.bool c3) (by simp [execOp, go_sem, x25, hc3]; done) ⟨Ext.refl _, rfl⟩
    · conv at ho => (lhs; whnf; arg 1; whnf)
      obtain rfl := Option.some.inj ho
      refine opY_plain rfl ?_
      have x23 : (a.tmps[23]?).getD undef = .bool p2 := (hT 10 23 (by kernel_rfl) (by omega)).trans (show vals 10 = .bool p2 from hf 10 (by kernel_rfl))
      cases p2
      · refine yv (.bool p3) (by simp [execOp, go_sem, x23, ← hp3]; done) ⟨Ext.refl _, rfl⟩
      · have y26 : (a.tmps[26]?).getD undef = .bool c3 := (hT 13 26 (by kernel_rfl) (by omega)).trans (show vals 13 = .bool c3 from hf 13 (by kernel_rfl))
        refine yv (.bool p3) (by simp [execOp, go_sem, x23, y26, ← hp3]; done) ⟨Ext.refl _, rfl⟩
    · conv at ho => (lhs; whnf; arg 1; whnf)
      obtain rfl := Option.some.inj ho
      refine opY_plain rfl ?_
      have x27 : (a.tmps[27]?).getD undef = .bool p3 := (hT 14 27 (by kernel_rfl) (by omega)).trans (show vals 14 = .bool p3 from hf 14 (by kernel_rfl))
      refine yv (.bool p3) (by simp [execOp, go_sem, x27]; done) ⟨Ext.refl _, rfl⟩
    · conv at ho => (lhs; whnf; arg 1; whnf)
      obtain rfl := Option.some.inj ho
      have hY : Y 15 = some p3 := hYb 15 p3 28 (by kernel_rfl) (by omega) (show vals 15 = .bool p3 from hf 15 (by kernel_rfl))
      cases p3
      · exact opY_no rfl hY ⟨Ext.refl _, trivial⟩
      · refine opY_yes rfl hY ?_
        have x8 : (a.tmps[8]?).getD undef = .pointer (some ⟨w.heap.size + 2, 0, none⟩) := hFr 8 (by kernel_rfl)
        refine yv (.pointer (some ⟨w.heap.size + 2, 1, none⟩)) (by simp [execOp, go_sem, x8]; done) ⟨Ext.refl _, rfl⟩
    · conv at ho => (lhs; whnf; arg 1; whnf)
      obtain rfl := Option.some.inj ho
      have hY : Y 15 = some p3 := hYb 15 p3 28 (by kernel_rfl) (by omega) (show vals 15 = .bool p3 from hf 15 (by kernel_rfl))
      cases p3
      · exact opY_no rfl hY ⟨Ext.refl _, trivial⟩
      · refine opY_yes rfl hY ?_
        have x29 : (a.tmps[29]?).getD undef = .pointer (some ⟨w.heap.size + 2, 1, none⟩) := (hT 16 29 (by kernel_rfl) (by omega)).trans (show vals 16 = .pointer (some ⟨w.heap.size + 2, 1, none⟩) from hf 16 (by kernel_rfl))
        refine yv (.int .u8 (pr : Int)) (by simp [execOp, go_sem, x29, s0, s1, s2, s3, g0, g1, g2, g3, g4, g5, g6, g7, g8, k0, k1, k2, k3]; done) ⟨Ext.refl _, rfl⟩
    · conv at ho => (lhs; whnf; arg 1; whnf)
      obtain rfl := Option.some.inj ho
      have hY : Y 15 = some p3 := hYb 15 p3 28 (by kernel_rfl) (by omega) (show vals 15 = .bool p3 from hf 15 (by kernel_rfl))
      cases p3
      · exact opY_no rfl hY ⟨Ext.refl _, trivial⟩
      · refine opY_yes rfl hY ?_
        have x30 : (a.tmps[30]?).getD undef = .int .u8 (pr : Int) := (hT 17 30 (by kernel_rfl) (by omega)).trans (show vals 17 = .int .u8 (pr : Int) from hf 17 (by kernel_rfl))
        refine yv (.bool c4) (by simp [execOp, go_sem, x30, hc4]; done) ⟨Ext.refl _, rfl⟩
    · conv at ho => (lhs; whnf; arg 1; whnf)
      obtain rfl := Option.some.inj ho
      refine opY_plain rfl ?_
      have x28 : (a.tmps[28]?).getD undef = .bool p3 := (hT 15 28 (by kernel_rfl) (by omega)).trans (show vals 15 = .bool p3 from hf 15 (by kernel_rfl))
      cases p3
      · refine yv (.bool p4) (by simp [execOp, go_sem, x28, ← hp4]; done) ⟨Ext.refl _, rfl⟩
      · have y31 : (a.tmps[31]?).getD undef = .bool c4 := (hT 18 31 (by kernel_rfl) (by omega)).trans (show vals 18 = .bool c4 from hf 18 (by kernel_rfl))
        refine yv (.bool p4) (by simp [execOp, go_sem, x28, y31, ← hp4]; done) ⟨Ext.refl _, rfl⟩
    · conv at ho => (lhs; whnf; arg 1; whnf)
      obtain rfl := Option.some.inj ho
      refine opY_plain rfl ?_
      have x32 : (a.tmps[32]?).getD undef = .bool p4 := (hT 19 32 (by kernel_rfl) (by omega)).trans (show vals 19 = .bool p4 from hf 19 (by kernel_rfl))
      refine yv (.bool p4) (by simp [execOp, go_sem, x32]; done) ⟨Ext.refl _, rfl⟩
    · conv at ho => (lhs; whnf; arg 1; whnf)
      obtain rfl := Option.some.inj ho
      have hY : Y 20 = some p4 := hYb 20 p4 33 (by kernel_rfl) (by omega) (show vals 20 = .bool p4 from hf 20 (by kernel_rfl))
      cases p4
      · exact opY_no rfl hY ⟨Ext.refl _, trivial⟩
      · refine opY_yes rfl hY ?_
        have x8 : (a.tmps[8]?).getD undef = .pointer (some ⟨w.heap.size + 2, 0, none⟩) := hFr 8 (by kernel_rfl)
        refine yv (.pointer (some ⟨w.heap.size + 2, 0, none⟩)) (by simp [execOp, go_sem, x8]; done) ⟨Ext.refl _, rfl⟩
    · conv at ho => (lhs; whnf; arg 1; whnf)
      obtain rfl := Option.some.inj ho
      have hY : Y 20 = some p4 := hYb 20 p4 33 (by kernel_rfl) (by omega) (show vals 20 = .bool p4 from hf 20 (by kernel_rfl))
      cases p4
      · exact opY_no rfl hY ⟨Ext.refl _, trivial⟩
      · refine opY_yes rfl hY ?_
        have x34 : (a.tmps[34]?).getD undef = .pointer (some ⟨w.heap.size + 2, 0, none⟩) := (hT 21 34 (by kernel_rfl) (by omega)).trans (show vals 21 = .pointer (some ⟨w.heap.size + 2, 0, none⟩) from hf 21 (by kernel_rfl))
        refine yv (.int .u16 (fl : Int)) (by simp [execOp, go_sem, x34, s0, s1, s2, s3, g0, g1, g2, g3, g4, g5, g6, g7, g8, k0, k1, k2, k3]; done) ⟨Ext.refl _, rfl⟩
    · conv at ho => (lhs; whnf; arg 1; whnf)
      obtain rfl := Option.some.inj ho
      have hY : Y 20 = some p4 := hYb 20 p4 33 (by kernel_rfl) (by omega) (show vals 20 = .bool p4 from hf 20 (by kernel_rfl))
      cases p4
      · exact opY_no rfl hY ⟨Ext.refl _, trivial⟩
      · refine opY_yes rfl hY ?_
        have x35 : (a.tmps[35]?).getD undef = .int .u16 (fl : Int) := (hT 22 35 (by kernel_rfl) (by omega)).trans (show vals 22 = .int .u16 (fl : Int) from hf 22 (by kernel_rfl))
        refine yv (.int .u16 q5) (by simp [execOp, go_sem, x35, hq5]; done) ⟨Ext.refl _, rfl⟩
    · conv at ho => (lhs; whnf; arg 1; whnf)
      obtain rfl := Option.some.inj ho
      have hY : Y 20 = some p4 := hYb 20 p4 33 (by kernel_rfl) (by omega) (show vals 20 = .bool p4 from hf 20 (by kernel_rfl))
      cases p4
      · exact opY_no rfl hY ⟨Ext.refl _, trivial⟩
      · refine opY_yes rfl hY ?_
        have x36 : (a.tmps[36]?).getD undef = .int .u16 q5 := (hT 23 36 (by kernel_rfl) (by omega)).trans (show vals 23 = .int .u16 q5 from hf 23 (by kernel_rfl))
        refine yv (.bool c5) (by simp [execOp, go_sem, x36, hc5, hc5']; done) ⟨Ext.refl _, rfl⟩
    · conv at ho => (lhs; whnf; arg 1; whnf)
      obtain rfl := Option.some.inj ho
      refine opY_plain rfl ?_
      have x33 : (a.tmps[33]?).getD undef = .bool p4 := (hT 20 33 (by kernel_rfl) (by omega)).trans (show vals 20 = .bool p4 from hf 20 (by kernel_rfl))
      cases p4
      · refine yv (.bool p5) (by simp [execOp, go_sem, x33, ← hp5]; done) ⟨Ext.refl _, rfl⟩
      · have y37 : (a.tmps[37]?).getD undef = .bool c5 := (hT 24 37 (by kernel_rfl) (by omega)).trans (show vals 24 = .bool c5 from hf 24 (by kernel_rfl))
        refine yv (.bool p5) (by simp [execOp, go_sem, x33, y37, ← hp5]; done) ⟨Ext.refl _, rfl⟩
    · conv at ho => (lhs; whnf; arg 1; whnf)
      obtain rfl := Option.some.inj ho
      refine opY_plain rfl ?_
      have x38 : (a.tmps[38]?).getD undef = .bool p5 := (hT 25 38 (by kernel_rfl) (by omega)).trans (show vals 25 = .bool p5 from hf 25 (by kernel_rfl))
      refine yv (.bool p5) (by simp [execOp, go_sem, x38]; done) ⟨Ext.refl _, rfl⟩
    · conv at ho => (lhs; whnf; arg 1; whnf)
      obtain rfl := Option.some.inj ho
      have hY : Y 26 = some p5 := hYb 26 p5 39 (by kernel_rfl) (by omega) (show vals 26 = .bool p5 from hf 26 (by kernel_rfl))
      cases p5
      · exact opY_no rfl hY ⟨Ext.refl _, trivial⟩
      · refine opY_yes rfl hY ?_
        have x7 : (a.tmps[7]?).getD undef = .pointer (some ⟨w.heap.size + 1, 0, none⟩) := hFr 7 (by kernel_rfl)
        refine yv (.pointer (some ⟨w.heap.size + 1, 6, none⟩)) (by simp [execOp, go_sem, x7]; done) ⟨Ext.refl _, rfl⟩
    · conv at ho => (lhs; whnf; arg 1; whnf)
      obtain rfl := Option.some.inj ho
      have hY : Y 26 = some p5 := hYb 26 p5 39 (by kernel_rfl) (by omega) (show vals 26 = .bool p5 from hf 26 (by kernel_rfl))
      cases p5
      · exact opY_no rfl hY ⟨Ext.refl _, trivial⟩
      · refine opY_yes rfl hY ?_
        have x40 : (a.tmps[40]?).getD undef = .pointer (some ⟨w.heap.size + 1, 6, none⟩) := (hT 27 40 (by kernel_rfl) (by omega)).trans (show vals 27 = .pointer (some ⟨w.heap.size + 1, 6, none⟩) from hf 27 (by kernel_rfl))
        refine yv (.int .u16 (g.tg : Int)) (by simp [execOp, go_sem, x40, s0, s1, s2, s3, g0, g1, g2, g3, g4, g5, g6, g7, g8, k0, k1, k2, k3]; done) ⟨Ext.refl _, rfl⟩
    · conv at ho => (lhs; whnf; arg 1; whnf)
      obtain rfl := Option.some.inj ho
      have hY : Y 26 = some p5 := hYb 26 p5 39 (by kernel_rfl) (by omega) (show vals 26 = .bool p5 from hf 26 (by kernel_rfl))
      cases p5
      · exact opY_no rfl hY ⟨Ext.refl _, trivial⟩
      · refine opY_yes rfl hY ?_
        have x8 : (a.tmps[8]?).getD undef = .pointer (some ⟨w.heap.size + 2, 0, none⟩) := hFr 8 (by kernel_rfl)
        refine yv (.agg #[.int .u16 (fl : Int), .int .u8 (pr : Int), .int .u8 (al : Int), .slice KA key.length kc]) (by simp [execOp, go_sem, x8, s0, s1, s2, s3, g0, g1, g2, g3, g4, g5, g6, g7, g8, k0, k1, k2, k3]; done) ⟨Ext.refl _, rfl⟩
    · conv at ho => (lhs; whnf; arg 1; whnf)
      obtain rfl := Option.some.inj ho
      have hY : Y 26 = some p5 := hYb 26 p5 39 (by kernel_rfl) (by omega) (show vals 26 = .bool p5 from hf 26 (by kernel_rfl))
      cases p5
      · exact opY_no rfl hY ⟨Ext.refl _, trivial⟩
      · refine opY_yes rfl hY ?_
        have x42 : (a.tmps[42]?).getD undef = .agg #[.int .u16 (fl : Int), .int .u8 (pr : Int), .int .u8 (al : Int), .slice KA key.length kc] := (hT 29 42 (by kernel_rfl) (by omega)).trans (show vals 29 = .agg #[.int .u16 (fl : Int), .int .u8 (pr : Int), .int .u8 (al : Int), .slice KA key.length kc] from hf 29 (by kernel_rfl))
        refine yc 33 #[.agg #[.int .u16 (fl : Int), .int .u8 (pr : Int), .int .u8 (al : Int), .slice KA key.length kc]] (by simp [execOp, go_sem, x42]; done) ?_
        refine (HKB.out V hE).mono fun e W2 h => ?_
        obtain ⟨v, h1, h2, h3⟩ := h
        exact ⟨v, h1, h3, h2⟩
    · conv at ho => (lhs; whnf; arg 1; whnf)
      obtain rfl := Option.some.inj ho
      have hY : Y 26 = some p5 := hYb 26 p5 39 (by kernel_rfl) (by omega) (show vals 26 = .bool p5 from hf 26 (by kernel_rfl))
      cases p5
      · exact opY_no rfl hY ⟨Ext.refl _, trivial⟩
      · refine opY_yes rfl hY ?_
        obtain ⟨Ab, cb, hvb, hcb, hb1, hb2, hb3b⟩ := (show (bytesG kb).p (vals 30) V from hf 30 (by kernel_rfl))
        have x43 : (a.tmps[43]?).getD undef = .slice Ab kb.length cb := (hT 30 43 (by kernel_rfl) (by omega)).trans hvb
        refine yc 32 #[.slice Ab kb.length cb] (by simp [execOp, go_sem, x43]; done) ?_
        refine (HTG.out V Ab cb hcb).mono fun e W2 h => ?_
        exact ⟨_, h.1, h.2, rfl⟩
    · conv at ho => (lhs; whnf; arg 1; whnf)
      obtain rfl := Option.some.inj ho
      have hY : Y 26 = some p5 := hYb 26 p5 39 (by kernel_rfl) (by omega) (show vals 26 = .bool p5 from hf 26 (by kernel_rfl))
      cases p5
      · exact opY_no rfl hY ⟨Ext.refl _, trivial⟩
      · refine opY_yes rfl hY ?_
        have x41 : (a.tmps[41]?).getD undef = .int .u16 (g.tg : Int) := (hT 28 41 (by kernel_rfl) (by omega)).trans (show vals 28 = .int .u16 (g.tg : Int) from hf 28 (by kernel_rfl))
        have x44 : (a.tmps[44]?).getD undef = .int .u16 (tn : Int) := (hT 31 44 (by kernel_rfl) (by omega)).trans (show vals 31 = .int .u16 (tn : Int) from hf 31 (by kernel_rfl))
        refine yv (.bool c6) (by simp [execOp, go_sem, x41, x44, hc6]; done) ⟨Ext.refl _, rfl⟩
    · conv at ho => (lhs; whnf; arg 1; whnf)
      obtain rfl := Option.some.inj ho
      refine opY_plain rfl ?_
      have x39 : (a.tmps[39]?).getD undef = .bool p5 := (hT 26 39 (by kernel_rfl) (by omega)).trans (show vals 26 = .bool p5 from hf 26 (by kernel_rfl))
      cases p5
      · refine yv (.bool p6) (by simp [execOp, go_sem, x39, ← hp6]; done) ⟨Ext.refl _, rfl⟩
      · have y45 : (a.tmps[45]?).getD undef = .bool c6 := (hT 32 45 (by kernel_rfl) (by omega)).trans (show vals 32 = .bool c6 from hf 32 (by kernel_rfl))
        refine yv (.bool p6) (by simp [execOp, go_sem, x39, y45, ← hp6]; done) ⟨Ext.refl _, rfl⟩
    · conv at ho => (lhs; whnf; arg 1; whnf)
      obtain rfl := Option.some.inj ho
      refine opY_plain rfl ?_
      have x46 : (a.tmps[46]?).getD undef = .bool p6 := (hT 33 46 (by kernel_rfl) (by omega)).trans (show vals 33 = .bool p6 from hf 33 (by kernel_rfl))
      refine yv (.bool p6) (by simp [execOp, go_sem, x46]; done) ⟨Ext.refl _, rfl⟩
    · conv at ho => (lhs; whnf; arg 1; whnf)
      obtain rfl := Option.some.inj ho
      have hY : Y 34 = some p6 := hYb 34 p6 47 (by kernel_rfl) (by omega) (show vals 34 = .bool p6 from hf 34 (by kernel_rfl))
      cases p6
      · exact opY_no rfl hY ⟨Ext.refl _, trivial⟩
      · refine opY_yes rfl hY ?_
        have x7 : (a.tmps[7]?).getD undef = .pointer (some ⟨w.heap.size + 1, 0, none⟩) := hFr 7 (by kernel_rfl)
        refine yv (.pointer (some ⟨w.heap.size + 1, 7, none⟩)) (by simp [execOp, go_sem, x7]; done) ⟨Ext.refl _, rfl⟩
    · conv at ho => (lhs; whnf; arg 1; whnf)
      obtain rfl := Option.some.inj ho
      have hY : Y 34 = some p6 := hYb 34 p6 47 (by kernel_rfl) (by omega) (show vals 34 = .bool p6 from hf 34 (by kernel_rfl))
      cases p6
      · exact opY_no rfl hY ⟨Ext.refl _, trivial⟩
      · refine opY_yes rfl hY ?_
        have x48 : (a.tmps[48]?).getD undef = .pointer (some ⟨w.heap.size + 1, 7, none⟩) := (hT 35 48 (by kernel_rfl) (by omega)).trans (show vals 35 = .pointer (some ⟨w.heap.size + 1, 7, none⟩) from hf 35 (by kernel_rfl))
        refine yv (.slice SA g.n.length sc) (by simp [execOp, go_sem, x48, s0, s1, s2, s3, g0, g1, g2, g3, g4, g5, g6, g7, g8, k0, k1, k2, k3]; done) ⟨Ext.refl _, rfl⟩
    · conv at ho => (lhs; whnf; arg 1; whnf)
      obtain rfl := Option.some.inj ho
      have hY : Y 34 = some p6 := hYb 34 p6 47 (by kernel_rfl) (by omega) (show vals 34 = .bool p6 from hf 34 (by kernel_rfl))
      cases p6
      · exact opY_no rfl hY ⟨Ext.refl _, trivial⟩
      · refine opY_yes rfl hY ?_
        have x3 : (a.tmps[3]?).getD undef = .slice O o.length oc := hFr 3 (by kernel_rfl)
        refine yv (.slice O o.length oc) (by simp [execOp, go_sem, x3]; done) ⟨Ext.refl _, rfl⟩
    · conv at ho => (lhs; whnf; arg 1; whnf)
      obtain rfl := Option.some.inj ho
      have hY : Y 34 = some p6 := hYb 34 p6 47 (by kernel_rfl) (by omega) (show vals 34 = .bool p6 from hf 34 (by kernel_rfl))
      cases p6
      · exact opY_no rfl hY ⟨Ext.refl _, trivial⟩
      · refine opY_yes rfl hY ?_
        have x49 : (a.tmps[49]?).getD undef = .slice SA g.n.length sc := (hT 36 49 (by kernel_rfl) (by omega)).trans (show vals 36 = .slice SA g.n.length sc from hf 36 (by kernel_rfl))
        have x50 : (a.tmps[50]?).getD undef = .slice O o.length oc := (hT 37 50 (by kernel_rfl) (by omega)).trans (show vals 37 = .slice O o.length oc from hf 37 (by kernel_rfl))
        refine yc 34 #[.slice SA g.n.length sc, .slice O o.length oc] (by simp [execOp, go_sem, x49, x50]; done) ?_
        refine (HSM.out V hE).mono fun e W2 h => ?_
        exact ⟨_, h.1, h.2, rfl⟩
    · conv at ho => (lhs; whnf; arg 1; whnf)
      obtain rfl := Option.some.inj ho
      refine opY_plain rfl ?_
      have x47 : (a.tmps[47]?).getD undef = .bool p6 := (hT 34 47 (by kernel_rfl) (by omega)).trans (show vals 34 = .bool p6 from hf 34 (by kernel_rfl))
      cases p6
      · refine yv (.bool p7) (by simp [execOp, go_sem, x47, ← hp7]; done) ⟨Ext.refl _, rfl⟩
      · have y51 : (a.tmps[51]?).getD undef = .bool c7 := (hT 38 51 (by kernel_rfl) (by omega)).trans (show vals 38 = .bool c7 from hf 38 (by kernel_rfl))
        refine yv (.bool p7) (by simp [execOp, go_sem, x47, y51, ← hp7]; done) ⟨Ext.refl _, rfl⟩
    · conv at ho => (lhs; whnf; arg 1; whnf)
      obtain rfl := Option.some.inj ho
      refine opY_plain rfl ?_
      have x52 : (a.tmps[52]?).getD undef = .bool p7 := (hT 39 52 (by kernel_rfl) (by omega)).trans (show vals 39 = .bool p7 from hf 39 (by kernel_rfl))
      refine yv (.bool p7) (by simp [execOp, go_sem, x52]; done) ⟨Ext.refl _, rfl⟩
    · conv at ho => (lhs; whnf; arg 1; whnf)
      obtain rfl := Option.some.inj ho
      have hY : Y 40 = some p7 := hYb 40 p7 53 (by kernel_rfl) (by omega) (show vals 40 = .bool p7 from hf 40 (by kernel_rfl))
      cases p7
      · exact opY_no rfl hY ⟨Ext.refl _, trivial⟩
      · refine opY_yes rfl hY ?_
        have x6 : (a.tmps[6]?).getD undef = .pointer (some ⟨w.heap.size, 0, none⟩) := hFr 6 (by kernel_rfl)
        refine yv (.pointer (some ⟨w.heap.size, 0, none⟩)) (by simp [execOp, go_sem, x6]; done) ⟨Ext.refl _, rfl⟩
    · conv at ho => (lhs; whnf; arg 1; whnf)
      obtain rfl := Option.some.inj ho
      have hY : Y 40 = some p7 := hYb 40 p7 53 (by kernel_rfl) (by omega) (show vals 40 = .bool p7 from hf 40 (by kernel_rfl))
      cases p7
      · exact opY_no rfl hY ⟨Ext.refl _, trivial⟩
      · refine opY_yes rfl hY ?_
        have x54 : (a.tmps[54]?).getD undef = .pointer (some ⟨w.heap.size, 0, none⟩) := (hT 41 54 (by kernel_rfl) (by omega)).trans (show vals 41 = .pointer (some ⟨w.heap.size, 0, none⟩) from hf 41 (by kernel_rfl))
        refine yv (.slice A n.length cap) (by simp [execOp, go_sem, x54, s0, s1, s2, s3, g0, g1, g2, g3, g4, g5, g6, g7, g8, k0, k1, k2, k3]; done) ⟨Ext.refl _, rfl⟩
    · conv at ho => (lhs; whnf; arg 1; whnf)
      obtain rfl := Option.some.inj ho
      have hY : Y 40 = some p7 := hYb 40 p7 53 (by kernel_rfl) (by omega) (show vals 40 = .bool p7 from hf 40 (by kernel_rfl))
      cases p7
      · exact opY_no rfl hY ⟨Ext.refl _, trivial⟩
      · refine opY_yes rfl hY ?_
        have x3 : (a.tmps[3]?).getD undef = .slice O o.length oc := hFr 3 (by kernel_rfl)
        refine yv (.slice O o.length oc) (by simp [execOp, go_sem, x3]; done) ⟨Ext.refl _, rfl⟩
    · conv at ho => (lhs; whnf; arg 1; whnf)
      obtain rfl := Option.some.inj ho
      have hY : Y 40 = some p7 := hYb 40 p7 53 (by kernel_rfl) (by omega) (show vals 40 = .bool p7 from hf 40 (by kernel_rfl))
      cases p7
      · exact opY_no rfl hY ⟨Ext.refl _, trivial⟩
      · refine opY_yes rfl hY ?_
        have x55 : (a.tmps[55]?).getD undef = .slice A n.length cap := (hT 42 55 (by kernel_rfl) (by omega)).trans (show vals 42 = .slice A n.length cap from hf 42 (by kernel_rfl))
        have x56 : (a.tmps[56]?).getD undef = .slice O o.length oc := (hT 43 56 (by kernel_rfl) (by omega)).trans (show vals 43 = .slice O o.length oc from hf 43 (by kernel_rfl))
        refine yc 35 #[.slice A n.length cap, .slice O o.length oc] (by simp [execOp, go_sem, x55, x56]; done) ?_
        refine (HWI.out V hE).mono fun e W2 h => ?_
        exact ⟨_, h.1, h.2, rfl⟩
    · conv at ho => (lhs; whnf; arg 1; whnf)
      obtain rfl := Option.some.inj ho
      refine opY_plain rfl ?_
      have x53 : (a.tmps[53]?).getD undef = .bool p7 := (hT 40 53 (by kernel_rfl) (by omega)).trans (show vals 40 = .bool p7 from hf 40 (by kernel_rfl))
      cases p7
      · refine yv (.bool p8) (by simp [execOp, go_sem, x53, ← hp8]; done) ⟨Ext.refl _, rfl⟩
      · have y57 : (a.tmps[57]?).getD undef = .bool c8 := (hT 44 57 (by kernel_rfl) (by omega)).trans (show vals 44 = .bool c8 from hf 44 (by kernel_rfl))
        refine yv (.bool p8) (by simp [execOp, go_sem, x53, y57, ← hp8]; done) ⟨Ext.refl _, rfl⟩
    · conv at ho => (lhs; whnf; arg 1; whnf)
      obtain rfl := Option.some.inj ho
      refine opY_plain rfl ?_
      have x58 : (a.tmps[58]?).getD undef = .bool p8 := (hT 45 58 (by kernel_rfl) (by omega)).trans (show vals 45 = .bool p8 from hf 45 (by kernel_rfl))
      refine yv (.bool p8) (by simp [execOp, go_sem, x58]; done) ⟨Ext.refl _, rfl⟩
    · conv at ho => (lhs; whnf; arg 1; whnf)
      obtain rfl := Option.some.inj ho
      have hY : Y 46 = some p8 := hYb 46 p8 59 (by kernel_rfl) (by omega) (show vals 46 = .bool p8 from hf 46 (by kernel_rfl))
      cases p8
      · exact opY_no rfl hY ⟨Ext.refl _, trivial⟩
      · refine opY_yes rfl hY ?_
        have x7 : (a.tmps[7]?).getD undef = .pointer (some ⟨w.heap.size + 1, 0, none⟩) := hFr 7 (by kernel_rfl)
        refine yv (.pointer (some ⟨w.heap.size + 1, 2, none⟩)) (by simp [execOp, go_sem, x7]; done) ⟨Ext.refl _, rfl⟩
    · conv at ho => (lhs; whnf; arg 1; whnf)
      obtain rfl := Option.some.inj ho
      have hY : Y 46 = some p8 := hYb 46 p8 59 (by kernel_rfl) (by omega) (show vals 46 = .bool p8 from hf 46 (by kernel_rfl))
      cases p8
      · exact opY_no rfl hY ⟨Ext.refl _, trivial⟩
      · refine opY_yes rfl hY ?_
        have x60 : (a.tmps[60]?).getD undef = .pointer (some ⟨w.heap.size + 1, 2, none⟩) := (hT 47 60 (by kernel_rfl) (by omega)).trans (show vals 47 = .pointer (some ⟨w.heap.size + 1, 2, none⟩) from hf 47 (by kernel_rfl))
        refine yv (.int .u8 (g.lb : Int)) (by simp [execOp, go_sem, x60, s0, s1, s2, s3, g0, g1, g2, g3, g4, g5, g6, g7, g8, k0, k1, k2, k3]; done) ⟨Ext.refl _, rfl⟩
    · conv at ho => (lhs; whnf; arg 1; whnf)
      obtain rfl := Option.some.inj ho
      have hY : Y 46 = some p8 := hYb 46 p8 59 (by kernel_rfl) (by omega) (show vals 46 = .bool p8 from hf 46 (by kernel_rfl))
      cases p8
      · exact opY_no rfl hY ⟨Ext.refl _, trivial⟩
      · refine opY_yes rfl hY ?_
        have x6 : (a.tmps[6]?).getD undef = .pointer (some ⟨w.heap.size, 0, none⟩) := hFr 6 (by kernel_rfl)
        refine yv (.pointer (some ⟨w.heap.size, 0, none⟩)) (by simp [execOp, go_sem, x6]; done) ⟨Ext.refl _, rfl⟩
    · conv at ho => (lhs; whnf; arg 1; whnf)
      obtain rfl := Option.some.inj ho
      have hY : Y 46 = some p8 := hYb 46 p8 59 (by kernel_rfl) (by omega) (show vals 46 = .bool p8 from hf 46 (by kernel_rfl))
      cases p8
      · exact opY_no rfl hY ⟨Ext.refl _, trivial⟩
      · refine opY_yes rfl hY ?_
        have x62 : (a.tmps[62]?).getD undef = .pointer (some ⟨w.heap.size, 0, none⟩) := (hT 49 62 (by kernel_rfl) (by omega)).trans (show vals 49 = .pointer (some ⟨w.heap.size, 0, none⟩) from hf 49 (by kernel_rfl))
        refine yv (.slice A n.length cap) (by simp [execOp, go_sem, x62, s0, s1, s2, s3, g0, g1, g2, g3, g4, g5, g6, g7, g8, k0, k1, k2, k3]; done) ⟨Ext.refl _, rfl⟩
    · conv at ho => (lhs; whnf; arg 1; whnf)
      obtain rfl := Option.some.inj ho
      have hY : Y 46 = some p8 := hYb 46 p8 59 (by kernel_rfl) (by omega) (show vals 46 = .bool p8 from hf 46 (by kernel_rfl))
      cases p8
      · exact opY_no rfl hY ⟨Ext.refl _, trivial⟩
      · refine opY_yes rfl hY ?_
        have x63 : (a.tmps[63]?).getD undef = .slice A n.length cap := (hT 50 63 (by kernel_rfl) (by omega)).trans (show vals 50 = .slice A n.length cap from hf 50 (by kernel_rfl))
        refine yc 17 #[.slice A n.length cap] (by simp [execOp, go_sem, x63]; done) ?_
        refine (HLB.out V hE).mono fun e W2 h => ?_
        exact ⟨_, h.1, h.2, rfl⟩
    · conv at ho => (lhs; whnf; arg 1; whnf)
      obtain rfl := Option.some.inj ho
      have hY : Y 46 = some p8 := hYb 46 p8 59 (by kernel_rfl) (by omega) (show vals 46 = .bool p8 from hf 46 (by kernel_rfl))
      cases p8
      · exact opY_no rfl hY ⟨Ext.refl _, trivial⟩
      · refine opY_yes rfl hY ?_
        have x61 : (a.tmps[61]?).getD undef = .int .u8 (g.lb : Int) := (hT 48 61 (by kernel_rfl) (by omega)).trans (show vals 48 = .int .u8 (g.lb : Int) from hf 48 (by kernel_rfl))
        have x64 : (a.tmps[64]?).getD undef = .int .u8 (lbl : Int) := (hT 51 64 (by kernel_rfl) (by omega)).trans (show vals 51 = .int .u8 (lbl : Int) from hf 51 (by kernel_rfl))
        refine yv (.bool c9) (by simp [execOp, go_sem, x61, x64, hc9, hc9']; done) ⟨Ext.refl _, rfl⟩
    · conv at ho => (lhs; whnf; arg 1; whnf)
      obtain rfl := Option.some.inj ho
      refine opY_plain rfl ?_
      have x59 : (a.tmps[59]?).getD undef = .bool p8 := (hT 46 59 (by kernel_rfl) (by omega)).trans (show vals 46 = .bool p8 from hf 46 (by kernel_rfl))
      cases p8
      · refine yv (.bool p9) (by simp [execOp, go_sem, x59, ← hp9]; done) ⟨Ext.refl _, rfl⟩
      · have y65 : (a.tmps[65]?).getD undef = .bool c9 := (hT 52 65 (by kernel_rfl) (by omega)).trans (show vals 52 = .bool c9 from hf 52 (by kernel_rfl))
        refine yv (.bool p9) (by simp [execOp, go_sem, x59, y65, ← hp9]; done) ⟨Ext.refl _, rfl⟩
    · conv at ho => (lhs; whnf; arg 1; whnf)
      obtain rfl := Option.some.inj ho
      refine opY_plain rfl ?_
      have x66 : (a.tmps[66]?).getD undef = .bool p9 := (hT 53 66 (by kernel_rfl) (by omega)).trans (show vals 53 = .bool p9 from hf 53 (by kernel_rfl))
      refine yv (.bool p9) (by simp [execOp, go_sem, x66]; done) ⟨Ext.refl _, rfl⟩
    · conv at ho => (lhs; whnf; arg 1; whnf)
      obtain rfl := Option.some.inj ho
      have hY : Y 54 = some p9 := hYb 54 p9 67 (by kernel_rfl) (by omega) (show vals 54 = .bool p9 from hf 54 (by kernel_rfl))
      cases p9
      · exact opY_no rfl hY ⟨Ext.refl _, trivial⟩
      · refine opY_yes rfl hY ?_
        have x5 : (a.tmps[5]?).getD undef = .int .u32 (now : Int) := hFr 5 (by kernel_rfl)
        refine yv (.int .u32 (now : Int)) (by simp [execOp, go_sem, x5]; done) ⟨Ext.refl _, rfl⟩
    · conv at ho => (lhs; whnf; arg 1; whnf)
      obtain rfl := Option.some.inj ho
      have hY : Y 54 = some p9 := hYb 54 p9 67 (by kernel_rfl) (by omega) (show vals 54 = .bool p9 from hf 54 (by kernel_rfl))
      cases p9
      · exact opY_no rfl hY ⟨Ext.refl _, trivial⟩
      · refine opY_yes rfl hY ?_
        have x7 : (a.tmps[7]?).getD undef = .pointer (some ⟨w.heap.size + 1, 0, none⟩) := hFr 7 (by kernel_rfl)
        refine yv (.pointer (some ⟨w.heap.size + 1, 5, none⟩)) (by simp [execOp, go_sem, x7]; done) ⟨Ext.refl _, rfl⟩
    · conv at ho => (lhs; whnf; arg 1; whnf)
      obtain rfl := Option.some.inj ho
      have hY : Y 54 = some p9 := hYb 54 p9 67 (by kernel_rfl) (by omega) (show vals 54 = .bool p9 from hf 54 (by kernel_rfl))
      cases p9
      · exact opY_no rfl hY ⟨Ext.refl _, trivial⟩
      · refine opY_yes rfl hY ?_
        have x69 : (a.tmps[69]?).getD undef = .pointer (some ⟨w.heap.size + 1, 5, none⟩) := (hT 56 69 (by kernel_rfl) (by omega)).trans (show vals 56 = .pointer (some ⟨w.heap.size + 1, 5, none⟩) from hf 56 (by kernel_rfl))
        refine yv (.int .u32 (g.bg : Int)) (by simp [execOp, go_sem, x69, s0, s1, s2, s3, g0, g1, g2, g3, g4, g5, g6, g7, g8, k0, k1, k2, k3]; done) ⟨Ext.refl _, rfl⟩
    · conv at ho => (lhs; whnf; arg 1; whnf)
      obtain rfl := Option.some.inj ho
      have hY : Y 54 = some p9 := hYb 54 p9 67 (by kernel_rfl) (by omega) (show vals 54 = .bool p9 from hf 54 (by kernel_rfl))
      cases p9
      · exact opY_no rfl hY ⟨Ext.refl _, trivial⟩
      · refine opY_yes rfl hY ?_
        have x68 : (a.tmps[68]?).getD undef = .int .u32 (now : Int) := (hT 55 68 (by kernel_rfl) (by omega)).trans (show vals 55 = .int .u32 (now : Int) from hf 55 (by kernel_rfl))
        have x70 : (a.tmps[70]?).getD undef = .int .u32 (g.bg : Int) := (hT 57 70 (by kernel_rfl) (by omega)).trans (show vals 57 = .int .u32 (g.bg : Int) from hf 57 (by kernel_rfl))
        refine yv (.bool c10) (by simp [execOp, go_sem, x68, x70, hc10, hc10']; done) ⟨Ext.refl _, rfl⟩
    · conv at ho => (lhs; whnf; arg 1; whnf)
      obtain rfl := Option.some.inj ho
      refine opY_plain rfl ?_
      have x67 : (a.tmps[67]?).getD undef = .bool p9 := (hT 54 67 (by kernel_rfl) (by omega)).trans (show vals 54 = .bool p9 from hf 54 (by kernel_rfl))
      cases p9
      · refine yv (.bool p10) (by simp [execOp, go_sem, x67, ← hp10]; done) ⟨Ext.refl _, rfl⟩
      · have y71 : (a.tmps[71]?).getD undef = .bool c10 := (hT 58 71 (by kernel_rfl) (by omega)).trans (show vals 58 = .bool c10 from hf 58 (by kernel_rfl))
        refine yv (.bool p10) (by simp [execOp, go_sem, x67, y71, ← hp10]; done) ⟨Ext.refl _, rfl⟩
    · conv at ho => (lhs; whnf; arg 1; whnf)
      obtain rfl := Option.some.inj ho
      refine opY_plain rfl ?_
      have x72 : (a.tmps[72]?).getD undef = .bool p10 := (hT 59 72 (by kernel_rfl) (by omega)).trans (show vals 59 = .bool p10 from hf 59 (by kernel_rfl))
      refine yv (.bool p10) (by simp [execOp, go_sem, x72]; done) ⟨Ext.refl _, rfl⟩
    · conv at ho => (lhs; whnf; arg 1; whnf)
      obtain rfl := Option.some.inj ho
      have hY : Y 60 = some p10 := hYb 60 p10 73 (by kernel_rfl) (by omega) (show vals 60 = .bool p10 from hf 60 (by kernel_rfl))
      cases p10
      · exact opY_no rfl hY ⟨Ext.refl _, trivial⟩
      · refine opY_yes rfl hY ?_
        have x5 : (a.tmps[5]?).getD undef = .int .u32 (now : Int) := hFr 5 (by kernel_rfl)
        refine yv (.int .u32 (now : Int)) (by simp [execOp, go_sem, x5]; done) ⟨Ext.refl _, rfl⟩
    · conv at ho => (lhs; whnf; arg 1; whnf)
      obtain rfl := Option.some.inj ho
      have hY : Y 60 = some p10 := hYb 60 p10 73 (by kernel_rfl) (by omega) (show vals 60 = .bool p10 from hf 60 (by kernel_rfl))
      cases p10
      · exact opY_no rfl hY ⟨Ext.refl _, trivial⟩
      · refine opY_yes rfl hY ?_
        have x7 : (a.tmps[7]?).getD undef = .pointer (some ⟨w.heap.size + 1, 0, none⟩) := hFr 7 (by kernel_rfl)
        refine yv (.pointer (some ⟨w.heap.size + 1, 4, none⟩)) (by simp [execOp, go_sem, x7]; done) ⟨Ext.refl _, rfl⟩
    · conv at ho => (lhs; whnf; arg 1; whnf)
      obtain rfl := Option.some.inj ho
      have hY : Y 60 = some p10 := hYb 60 p10 73 (by kernel_rfl) (by omega) (show vals 60 = .bool p10 from hf 60 (by kernel_rfl))
      cases p10
      · exact opY_no rfl hY ⟨Ext.refl _, trivial⟩
      · refine opY_yes rfl hY ?_
        have x75 : (a.tmps[75]?).getD undef = .pointer (some ⟨w.heap.size + 1, 4, none⟩) := (hT 62 75 (by kernel_rfl) (by omega)).trans (show vals 62 = .pointer (some ⟨w.heap.size + 1, 4, none⟩) from hf 62 (by kernel_rfl))
        refine yv (.int .u32 (g.ex : Int)) (by simp [execOp, go_sem, x75, s0, s1, s2, s3, g0, g1, g2, g3, g4, g5, g6, g7, g8, k0, k1, k2, k3]; done) ⟨Ext.refl _, rfl⟩
    · conv at ho => (lhs; whnf; arg 1; whnf)
      obtain rfl := Option.some.inj ho
      have hY : Y 60 = some p10 := hYb 60 p10 73 (by kernel_rfl) (by omega) (show vals 60 = .bool p10 from hf 60 (by kernel_rfl))
      cases p10
      · exact opY_no rfl hY ⟨Ext.refl _, trivial⟩
      · refine opY_yes rfl hY ?_
        have x74 : (a.tmps[74]?).getD undef = .int .u32 (now : Int) := (hT 61 74 (by kernel_rfl) (by omega)).trans (show vals 61 = .int .u32 (now : Int) from hf 61 (by kernel_rfl))
        have x76 : (a.tmps[76]?).getD undef = .int .u32 (g.ex : Int) := (hT 63 76 (by kernel_rfl) (by omega)).trans (show vals 63 = .int .u32 (g.ex : Int) from hf 63 (by kernel_rfl))
        refine yv (.bool c11) (by simp [execOp, go_sem, x74, x76, hc11, hc11']; done) ⟨Ext.refl _, rfl⟩
    · conv at ho => (lhs; whnf; arg 1; whnf)
      obtain rfl := Option.some.inj ho
      refine opY_plain rfl ?_
      have x73 : (a.tmps[73]?).getD undef = .bool p10 := (hT 60 73 (by kernel_rfl) (by omega)).trans (show vals 60 = .bool p10 from hf 60 (by kernel_rfl))
      cases p10
      · refine yv (.bool p11) (by simp [execOp, go_sem, x73, ← hp11]; done) ⟨Ext.refl _, rfl⟩
      · have y77 : (a.tmps[77]?).getD undef = .bool c11 := (hT 64 77 (by kernel_rfl) (by omega)).trans (show vals 64 = .bool c11 from hf 64 (by kernel_rfl))
        refine yv (.bool p11) (by simp [execOp, go_sem, x73, y77, ← hp11]; done) ⟨Ext.refl _, rfl⟩
    · conv at ho => (lhs; whnf; arg 1; whnf)
      obtain rfl := Option.some.inj ho
      refine opY_plain rfl ?_
      have x78 : (a.tmps[78]?).getD undef = .bool p11 := (hT 65 78 (by kernel_rfl) (by omega)).trans (show vals 65 = .bool p11 from hf 65 (by kernel_rfl))
      refine yv (.bool p11) (by simp [execOp, go_sem, x78]; done) ⟨Ext.refl _, rfl⟩
    · conv at ho => (lhs; whnf; arg 1; whnf)
      obtain rfl := Option.some.inj ho
      have hY : Y 66 = some p11 := hYb 66 p11 79 (by kernel_rfl) (by omega) (show vals 66 = .bool p11 from hf 66 (by kernel_rfl))
      cases p11
      · exact opY_no rfl hY ⟨Ext.refl _, trivial⟩
      · refine opY_yes rfl hY ?_
        have x8 : (a.tmps[8]?).getD undef = .pointer (some ⟨w.heap.size + 2, 0, none⟩) := hFr 8 (by kernel_rfl)
        refine yv (.pointer (some ⟨w.heap.size + 2, 3, none⟩)) (by simp [execOp, go_sem, x8]; done) ⟨Ext.refl _, rfl⟩
    · conv at ho => (lhs; whnf; arg 1; whnf)
      obtain rfl := Option.some.inj ho
      have hY : Y 66 = some p11 := hYb 66 p11 79 (by kernel_rfl) (by omega) (show vals 66 = .bool p11 from hf 66 (by kernel_rfl))
      cases p11
      · exact opY_no rfl hY ⟨Ext.refl _, trivial⟩
      · refine opY_yes rfl hY ?_
        have x80 : (a.tmps[80]?).getD undef = .pointer (some ⟨w.heap.size + 2, 3, none⟩) := (hT 67 80 (by kernel_rfl) (by omega)).trans (show vals 67 = .pointer (some ⟨w.heap.size + 2, 3, none⟩) from hf 67 (by kernel_rfl))
        refine yv (.slice KA key.length kc) (by simp [execOp, go_sem, x80, s0, s1, s2, s3, g0, g1, g2, g3, g4, g5, g6, g7, g8, k0, k1, k2, k3]; done) ⟨Ext.refl _, rfl⟩
    · conv at ho => (lhs; whnf; arg 1; whnf)
      obtain rfl := Option.some.inj ho
      have hY : Y 66 = some p11 := hYb 66 p11 79 (by kernel_rfl) (by omega) (show vals 66 = .bool p11 from hf 66 (by kernel_rfl))
      cases p11
      · exact opY_no rfl hY ⟨Ext.refl _, trivial⟩
      · refine opY_yes rfl hY ?_
        have x4 : (a.tmps[4]?).getD undef = .int .i64 2 := hFr 4 (by kernel_rfl)
        refine yv (.int .i64 2) (by simp [execOp, go_sem, x4]; done) ⟨Ext.refl _, rfl⟩
    · conv at ho => (lhs; whnf; arg 1; whnf)
      obtain rfl := Option.some.inj ho
      have hY : Y 66 = some p11 := hYb 66 p11 79 (by kernel_rfl) (by omega) (show vals 66 = .bool p11 from hf 66 (by kernel_rfl))
      cases p11
      · exact opY_no rfl hY ⟨Ext.refl _, trivial⟩
      · refine opY_yes rfl hY ?_
        have x6 : (a.tmps[6]?).getD undef = .pointer (some ⟨w.heap.size, 0, none⟩) := hFr 6 (by kernel_rfl)
        refine yv (.agg #[.slice A n.length cap, .int .u16 (t : Int), .int .u32 sttl, .slice D ds.length dcap]) (by simp [execOp, go_sem, x6, s0, s1, s2, s3, g0, g1, g2, g3, g4, g5, g6, g7, g8, k0, k1, k2, k3]; done) ⟨Ext.refl _, rfl⟩
    · conv at ho => (lhs; whnf; arg 1; whnf)
      obtain rfl := Option.some.inj ho
      have hY : Y 66 = some p11 := hYb 66 p11 79 (by kernel_rfl) (by omega) (show vals 66 = .bool p11 from hf 66 (by kernel_rfl))
      cases p11
      · exact opY_no rfl hY ⟨Ext.refl _, trivial⟩
      · refine opY_yes rfl hY ?_
        have x7 : (a.tmps[7]?).getD undef = .pointer (some ⟨w.heap.size + 1, 0, none⟩) := hFr 7 (by kernel_rfl)
        refine yv (.agg #[.int .u16 (g.t : Int), .int .u8 (g.al : Int), .int .u8 (g.lb : Int), .int .u32 (g.ttl : Int), .int .u32 (g.ex : Int), .int .u32 (g.bg : Int), .int .u16 (g.tg : Int), .slice SA g.n.length sc, .slice SS g.s.length ssc]) (by simp [execOp, go_sem, x7, s0, s1, s2, s3, g0, g1, g2, g3, g4, g5, g6, g7, g8, k0, k1, k2, k3]; done) ⟨Ext.refl _, rfl⟩
    · conv at ho => (lhs; whnf; arg 1; whnf)
      obtain rfl := Option.some.inj ho
      have hY : Y 66 = some p11 := hYb 66 p11 79 (by kernel_rfl) (by omega) (show vals 66 = .bool p11 from hf 66 (by kernel_rfl))
      cases p11
      · exact opY_no rfl hY ⟨Ext.refl _, trivial⟩
      · refine opY_yes rfl hY ?_
        have x83 : (a.tmps[83]?).getD undef = .agg #[.slice A n.length cap, .int .u16 (t : Int), .int .u32 sttl, .slice D ds.length dcap] := (hT 70 83 (by kernel_rfl) (by omega)).trans (show vals 70 = .agg #[.slice A n.length cap, .int .u16 (t : Int), .int .u32 sttl, .slice D ds.length dcap] from hf 70 (by kernel_rfl))
        have x84 : (a.tmps[84]?).getD undef = .agg #[.int .u16 (g.t : Int), .int .u8 (g.al : Int), .int .u8 (g.lb : Int), .int .u32 (g.ttl : Int), .int .u32 (g.ex : Int), .int .u32 (g.bg : Int), .int .u16 (g.tg : Int), .slice SA g.n.length sc, .slice SS g.s.length ssc] := (hT 71 84 (by kernel_rfl) (by omega)).trans (show vals 71 = .agg #[.int .u16 (g.t : Int), .int .u8 (g.al : Int), .int .u8 (g.lb : Int), .int .u32 (g.ttl : Int), .int .u32 (g.ex : Int), .int .u32 (g.bg : Int), .int .u16 (g.tg : Int), .slice SA g.n.length sc, .slice SS g.s.length ssc] from hf 71 (by kernel_rfl))
        refine yc 18 #[.agg #[.slice A n.length cap, .int .u16 (t : Int), .int .u32 sttl, .slice D ds.length dcap], .agg #[.int .u16 (g.t : Int), .int .u8 (g.al : Int), .int .u8 (g.lb : Int), .int .u32 (g.ttl : Int), .int .u32 (g.ex : Int), .int .u32 (g.bg : Int), .int .u16 (g.tg : Int), .slice SA g.n.length sc, .slice SS g.s.length ssc]] (by simp [execOp, go_sem, x83, x84]; done) ?_
        refine (HMS.out V hE).mono fun e W2 h => ?_
        obtain ⟨v, h1, h2, h3⟩ := h
        exact ⟨v, h1, h3, h2⟩
    · conv at ho => (lhs; whnf; arg 1; whnf)
      obtain rfl := Option.some.inj ho
      have hY : Y 66 = some p11 := hYb 66 p11 79 (by kernel_rfl) (by omega) (show vals 66 = .bool p11 from hf 66 (by kernel_rfl))
      cases p11
      · exact opY_no rfl hY ⟨Ext.refl _, trivial⟩
      · refine opY_yes rfl hY ?_
        have x7 : (a.tmps[7]?).getD undef = .pointer (some ⟨w.heap.size + 1, 0, none⟩) := hFr 7 (by kernel_rfl)
        refine yv (.pointer (some ⟨w.heap.size + 1, 8, none⟩)) (by simp [execOp, go_sem, x7]; done) ⟨Ext.refl _, rfl⟩
    · conv at ho => (lhs; whnf; arg 1; whnf)
      obtain rfl := Option.some.inj ho
      have hY : Y 66 = some p11 := hYb 66 p11 79 (by kernel_rfl) (by omega) (show vals 66 = .bool p11 from hf 66 (by kernel_rfl))
      cases p11
      · exact opY_no rfl hY ⟨Ext.refl _, trivial⟩
      · refine opY_yes rfl hY ?_
        have x86 : (a.tmps[86]?).getD undef = .pointer (some ⟨w.heap.size + 1, 8, none⟩) := (hT 73 86 (by kernel_rfl) (by omega)).trans (show vals 73 = .pointer (some ⟨w.heap.size + 1, 8, none⟩) from hf 73 (by kernel_rfl))
        refine yv (.slice SS g.s.length ssc) (by simp [execOp, go_sem, x86, s0, s1, s2, s3, g0, g1, g2, g3, g4, g5, g6, g7, g8, k0, k1, k2, k3]; done) ⟨Ext.refl _, rfl⟩
    · conv at ho => (lhs; whnf; arg 1; whnf)
      obtain rfl := Option.some.inj ho
      have hY : Y 66 = some p11 := hYb 66 p11 79 (by kernel_rfl) (by omega) (show vals 66 = .bool p11 from hf 66 (by kernel_rfl))
      cases p11
      · exact opY_no rfl hY ⟨Ext.refl _, trivial⟩
      · refine opY_yes rfl hY ?_
        have x81 : (a.tmps[81]?).getD undef = .slice KA key.length kc := (hT 68 81 (by kernel_rfl) (by omega)).trans (show vals 68 = .slice KA key.length kc from hf 68 (by kernel_rfl))
        have x82 : (a.tmps[82]?).getD undef = .int .i64 2 := (hT 69 82 (by kernel_rfl) (by omega)).trans (show vals 69 = .int .i64 2 from hf 69 (by kernel_rfl))
        obtain ⟨Ab, cb, hvb, hcb, hb1, hb2, hb3b⟩ := (show (bytesG mg).p (vals 72) V from hf 72 (by kernel_rfl))
        have x85 : (a.tmps[85]?).getD undef = .slice Ab mg.length cb := (hT 72 85 (by kernel_rfl) (by omega)).trans hvb
        have x87 : (a.tmps[87]?).getD undef = .slice SS g.s.length ssc := (hT 74 87 (by kernel_rfl) (by omega)).trans (show vals 74 = .slice SS g.s.length ssc from hf 74 (by kernel_rfl))
        refine yc 36 #[.slice KA key.length kc, .int .i64 2, .slice Ab mg.length cb, .slice SS g.s.length ssc] (by simp [execOp, go_sem, x81, x82, x85, x87]; done) ?_
        refine (HVR.out V Ab cb hE hcb hb1 hb2 hb3b).mono fun e W2 h => ?_
        exact ⟨_, h.1, h.2, rfl⟩
    · conv at ho => (lhs; whnf; arg 1; whnf)
      obtain rfl := Option.some.inj ho
      refine opY_plain rfl ?_
      have x79 : (a.tmps[79]?).getD undef = .bool p11 := (hT 66 79 (by kernel_rfl) (by omega)).trans (show vals 66 = .bool p11 from hf 66 (by kernel_rfl))
      cases p11
      · refine yv (.bool p12) (by simp [execOp, go_sem, x79, ← hp12]; done) ⟨Ext.refl _, rfl⟩
      · have y88 : (a.tmps[88]?).getD undef = .bool c12 := (hT 75 88 (by kernel_rfl) (by omega)).trans (show vals 75 = .bool c12 from hf 75 (by kernel_rfl))
        refine yv (.bool p12) (by simp [execOp, go_sem, x79, y88, ← hp12]; done) ⟨Ext.refl _, rfl⟩
    · conv at ho => (lhs; whnf; arg 1; whnf)
      obtain rfl := Option.some.inj ho
      refine opY_plain rfl ?_
      have x89 : (a.tmps[89]?).getD undef = .bool p12 := (hT 76 89 (by kernel_rfl) (by omega)).trans (show vals 76 = .bool p12 from hf 76 (by kernel_rfl))
      refine yv (.bool p12) (by simp [execOp, go_sem, x89]; done) ⟨Ext.refl _, rfl⟩
    · exact absurd (ho.symm.trans (Array.getElem?_eq_none (by show 78 ≤ i + 78; omega))) (by simp)
  · intro a vals V hE hdef ha hF
    have x12 : (a.tmps[12]?).getD undef = .bool p12 := (ha 77 12 (by kernel_rfl)).trans (show vals 77 = .bool p12 from hF 77 (by show 77 < 78; omega))
    have hfin := HV.out c1 c2 c3 c4 c5 c6 c7 c8 c9 c10 c11 c12 p2 p3 p4 p5 p6 p7 p8 p9 p10 p11 p12 rfl rfl rfl rfl rfl rfl rfl rfl rfl rfl rfl rfl hp2 hp3 hp4 hp5 hp6 hp7 hp8 hp9 hp10 hp11 hp12
    have HFin := Lib.hid (And.intro hfin (H0.out.1.trans (hE.mono H0.out.1.size)))
    have HY2 := Lib.hid HYU.out
    clear hfin
    go_wp2_with fail
    try simp only [Exit.inBlock, Exit.then]
    refine bodyPost_ret (results_tmp rfl _ _ _) hdef ?_
    intro ys hys
    obtain rfl := HY2.out ys hys
    refine ⟨?_, HFin.out.2⟩
    rw [HFin.out.1, Array.getD_eq_getD_getElem?, x12]
end Nm
end Go.Proofs.YthogembgndkmpaaGreatDoor
