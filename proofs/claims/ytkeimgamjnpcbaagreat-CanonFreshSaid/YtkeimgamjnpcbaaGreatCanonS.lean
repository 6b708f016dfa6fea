/-
  Contracts of package rdata: Target, Canon at all types but SOA, RRSIG, DNSKEY, NSEC3.
-/
import Derived.Test.YtkeimgamjnpcbaaGreatTarget
namespace Go.Proofs.YtkeimgamjnpcbaaGreat
open Go.RowKit
set_option linter.unusedVariables false
namespace Nm
theorem isN_bools {t : Int} (ht : isN t) : (t == 2) = true ∨ (t == 2) = false ∧ (t == 5) = true ∨ (t == 2) = false ∧ (t == 5) = false ∧ (t == 15) = true := by
  rcases ht with rfl | rfl | rfl
  · exact .inl rfl
  · exact .inr (.inl ⟨rfl, rfl⟩)
  · exact .inr (.inr ⟨rfl, rfl, rfl⟩)
set_option maxRecDepth 100000 in
set_option maxHeartbeats 2000000 in
theorem Target (t : Int) (ht : isN t) (A : Option Addr) (l : Lab) (cap : Nat) (w : World) (hc : Cs w A (l.map byteV)) (hl : l.length ≤ 100000) (hcap : l.length ≤ cap) (hcap2 : cap ≤ maxLen) :
    Calls Tryz.prog 129 #[.int .u16 t, .slice A l.length cap] w fun e w' =>
      Below w.heap.size w w' ∧ ∃ v, e = .returned (.tuple #[v, .int .i64 (code50 (shp t l))]) ∧ w'.ownsRow w.heap.size 9 1 v (tgt t l).length ((tgt t l).map strV) := by
  have hmf : ∀ (fn : Fn) (first cap : Array Value) (w : World), (Instr.makeFunc fn first cap).run Tryz.prog w = .ok (.func fn first cap) w := fun _ _ _ _ => rfl
  have hb1 : Below w.heap.size w (w.alloc (.cells #[.int .u16 t] 24)) := (Below.refl _ _).alloc (Nat.le_refl _) _
  have hr := readN ⟨w.heap.size, 0, none⟩ t ht A l cap (w.alloc (.cells #[.int .u16 t] 24)) (by simp [go_sem]) (by simp) rfl (hc.below hb1) hl hcap hcap2
  have HR := Lib.hid hr
  have hbs := isN_bools ht
  clear hr hc ht
  rcases hbs with h1 | ⟨h1, h2⟩ | ⟨h1, h2, h3⟩
  all_goals
    go_enter Tryz.func129, Tryz.ntmps129
    go_wp2_with fail
    refine HR.out.mono ?_
    rintro e w2 ⟨hb2, v, rfl, hown⟩
    go_wp2_with fail
    go_ret2
    exact ⟨hb1.trans (hb2.mono (by simp)), _, rfl, own_base hown (by simp)⟩
/-- what rdata.Canon hands back -/
def canonR (t : Int) (l : Lab) : Lab := if chk t l then canonO t l else []
theorem canonR_yes {t : Int} {l : Lab} (h : chk t l = true) : canonR t l = canonO t l := by unfold canonR; rw [h]; rfl
theorem canonR_no {t : Int} {l : Lab} (h : chk t l = false) : canonR t l = [] := by unfold canonR; rw [h]; rfl
theorem canonO_name {t : Int} (ht : isN t) (l : Lab) : canonO t l = l.take (ahd t) ++ wire (lower (openN (l.drop (ahd t)))) := by
  rcases ht with rfl | rfl | rfl
  · rfl
  · rfl
  · rfl
theorem shp_of_chk {t : Int} (h1 : t ≠ 6) (h2 : t ≠ 46) (h3 : t ≠ 48) {l : Lab} (h : chk t l = true) : shp t l = true ∧ l.length ≤ 8192 := by
  rw [chk_shp h1 h2 h3] at h
  simp at h
  exact ⟨h.2, h.1⟩
theorem openN_small (b : Lab) : Small (openN b) := by
  cases hO : openO b with
  | none => rw [(openO_none hO).2.1]; exact ⟨by simp, by simp⟩
  | some p =>
    obtain ⟨n, k⟩ := p
    obtain ⟨_, h2, _, h4, _⟩ := openO_some hO
    obtain ⟨g1, g2, g3, g4⟩ := openO_le hO
    rw [h4]
    exact ⟨by omega, fun l hl => by have := (g3 l hl).2; omega⟩
theorem wire_small {n : List Lab} (h : Small n) : (wire n).length ≤ 1001001 := by
  have := wires_few h
  unfold wire; simp; omega
set_option maxRecDepth 100000 in
set_option maxHeartbeats 4000000 in
theorem CanonN (t : Int) (ht : isN t) (A : Option Addr) (l : Lab) (cap : Nat) (w : World) (hc : Cs w A (l.map byteV)) (hl : l.length ≤ 100000) (hcap : l.length ≤ cap) (hcap2 : cap ≤ maxLen) :
    Calls Tryz.prog 97 #[.int .u16 t, .slice A l.length cap] w fun e w' =>
      Below w.heap.size w w' ∧ ∃ v, e = .returned (.tuple #[v, .int .i64 (code50 (chk t l))]) ∧ w'.ownsRow w.heap.size 5 1 v (canonR t l).length ((canonR t l).map byteV) := by
  have q1 : t ≠ 6 := by rcases ht with rfl | rfl | rfl <;> decide
  have q2 : t ≠ 46 := by rcases ht with rfl | rfl | rfl <;> decide
  have q3 : t ≠ 48 := by rcases ht with rfl | rfl | rfl <;> decide
  have q4 : t ≠ 50 := by rcases ht with rfl | rfl | rfl <;> decide
  have hC := CheckS t A l cap w q1 q2 q3 q4 hc hl hcap hcap2
  have HC := Lib.hid hC
  clear hC
  cases hk : chk t l with
  | false =>
    have HE := Lib.hid (canonR_no hk)
    have HK := Lib.hid hk
    clear hk hc
    rw [HK.out] at HC
    go_enter Tryz.func97, Tryz.ntmps97
    go_wp2_with fail
    refine HC.out.mono ?_
    rintro e w1 ⟨hb1, rfl⟩
    unfold code50
    go_wp2_with fail
    go_ret2
    exact ⟨hb1, _, rfl, by rw [HE.out]; exact World.ownsRow_nil _ _ _ _⟩
  | true =>
    obtain ⟨hs, hl8⟩ := shp_of_chk q1 q2 q3 hk
    have HE := Lib.hid ((canonR_yes hk).trans (canonO_name ht l))
    have HTg : Hid (tgt t l = openN (l.drop (ahd t))) := Lib.hid (by unfold tgt; rw [hs]; rfl)
    have hsm := openN_small (l.drop (ahd t))
    have HK := Lib.hid hk
    have hbs := isN_bools ht
    have ha2 : ahd t ≤ l.length := by
      have := shp_name ht l
      rw [hs] at this
      simp at this
      exact this.1
    have hC2 : Cs w A ((l.take (ahd t)).map byteV) := by rw [List.map_take]; exact hc.take' _
    have HT : Hid (∀ W, Below w.heap.size w W → Calls Tryz.prog 129 #[.int .u16 t, .slice A l.length cap] W fun e w' =>
      Below W.heap.size W w' ∧ ∃ v, e = .returned (.tuple #[v, .int .i64 (code50 (shp t l))]) ∧ w'.ownsRow W.heap.size 9 1 v (tgt t l).length ((tgt t l).map strV)) := Lib.hid fun W hW => Target t ht A l cap W (hc.below hW) hl hcap hcap2
    rw [HK.out] at HC
    rw [hs, HTg.out] at HT
    have HC2 := Lib.hid hC2
    have htl : (l.take (ahd t)).length = ahd t := by rw [List.length_take]; omega
    have HTL := Lib.hid htl
    have HA : Hid (∀ W, Calls Tryz.prog 130 #[.int .u16 t] W fun e w' => e = .returned (.int .i64 (ahd t)) ∧ W = w') := Lib.hid (ahead t)
    have HE2 : Hid (canonR t l = l.take (ahd t) ++ wire (lower (openN (l.drop (ahd t))))) := HE
    clear hk hs ht hc HE hC2 htl HTg q1 q2 q3 q4
    generalize canonR t l = cr at *
    generalize openN (l.drop (ahd t)) = nm at *
    generalize hpre : l.take (ahd t) = pr at *
    clear hpre
    generalize ahd t = a at *
    unfold maxLen at hcap2
    unfold code50 at *
    rcases hbs with h1 | ⟨h1, h2⟩ | ⟨h1, h2, h3⟩
    all_goals
      go_enter Tryz.func97, Tryz.ntmps97
      go_wp2_with fail
      refine HC.out.mono ?_
      rintro e w1 ⟨hb1, rfl⟩
      go_wp2_with fail
      refine (HT.out w1 hb1).mono ?_
      rintro e w2 ⟨hb2, v, rfl, hown⟩
      obtain ⟨A5, c5, rfl, _, hcs5⟩ := Cs.of_own hown
      have hb12 := hb1.trans (hb2.mono hb1.size)
      clear hown
      have HCS := Lib.hid hcs5
      clear hcs5
      go_wp2_with fail
      refine (HA.out _).mono ?_
      rintro e w3 ⟨rfl, rfl⟩
      have hcl := CloneB A pr cap w2 (HC2.out.below hb12) (by rw [HTL.out]; omega)
      rw [HTL.out] at hcl
      go_wp2_with fail
      refine hcl.mono ?_
      rintro e w3 ⟨v3, rfl, hown3, hb3⟩
      have hb123 := hb12.trans (hb3.mono hb12.size)
      go_wp2_with fail
      refine (Lower A5 nm c5 w3 (HCS.out.below hb3) hsm.few).mono ?_
      rintro e w4 ⟨v4, rfl, hown4, hb4⟩
      obtain ⟨A6, c6, rfl, _, hcs6⟩ := Cs.of_own hown4
      have hb1234 := hb123.trans (hb4.mono hb123.size)
      have hown34 := own_below hown3 hb4
      have HCS6 : Hid (Cs w4 A6 ((lower nm).map strV)) := Lib.hid (by exact hcs6)
      have hll : (lower nm).length = nm.length := lower_len nm
      have hwi := Wire A6 (lower nm) c6 w4 HCS6.out hsm.lower
      rw [hll] at hwi
      have HWI := Lib.hid hwi
      have hwl := wire_small hsm.lower
      clear hcs6 hwi hll hown3 hown4
      go_wp2_with fail
      refine HWI.out.mono ?_
      rintro e w5 ⟨v5, rfl, hown5, hb5⟩
      obtain ⟨A7, c7, rfl, _, hcs7⟩ := Cs.of_own hown5
      have hb12345 := hb1234.trans (hb5.mono hb1234.size)
      have hown35 := own_below hown34 hb5
      have hz1 := hb12.size
      have hz2 := hb12345.size
      have hz3 := hb123.size
      have hz4 := hb1234.size
      clear hown5 hown34
      have HCS7 := Lib.hid hcs7
      clear hcs7
      generalize wire (lower nm) = wl at *
      have hown36 := own_base hown35 hz1
      clear hown35
      go_wp2_with (first | (at_builtin; refine wpList_bytes hown36 hz2 HCS7.out rfl _ _ Tryz.underlying31 rfl rfl rfl (by omega) ?_; intro v8 w8 hown8 hbw8; have hbw9 := hb12345.trans hbw8))
      go_ret2
      refine ⟨hbw9, _, rfl, ?_⟩
      rw [HE2.out, List.length_append, HTL.out]
      exact hown8
set_option maxRecDepth 100000 in
set_option maxHeartbeats 4000000 in
theorem CanonP (t : Int) (p1 : t ≠ 2) (p2 : t ≠ 5) (p3 : t ≠ 15) (q1 : t ≠ 6) (q2 : t ≠ 46) (q3 : t ≠ 48) (q4 : t ≠ 50) (A : Option Addr) (l : Lab) (cap : Nat) (w : World) (hc : Cs w A (l.map byteV)) (hl : l.length ≤ 100000) (hcap : l.length ≤ cap) (hcap2 : cap ≤ maxLen) :
    Calls Tryz.prog 97 #[.int .u16 t, .slice A l.length cap] w fun e w' =>
      Below w.heap.size w w' ∧ ∃ v, e = .returned (.tuple #[v, .int .i64 (code50 (chk t l))]) ∧ w'.ownsRow w.heap.size 5 1 v (canonR t l).length ((canonR t l).map byteV) := by
  have hC := CheckS t A l cap w q1 q2 q3 q4 hc hl hcap hcap2
  have HC := Lib.hid hC
  have b1 : (t == 2) = false := by simpa using p1
  have b2 : (t == 5) = false := by simpa using p2
  have b3 : (t == 15) = false := by simpa using p3
  have b4 : (t == 6) = false := by simpa using q1
  have b5 : (t == 46) = false := by simpa using q2
  clear hC
  cases hk : chk t l with
  | false =>
    have HE := Lib.hid (canonR_no hk)
    have HK := Lib.hid hk
    clear hk hc
    rw [HK.out] at HC
    go_enter Tryz.func97, Tryz.ntmps97
    go_wp2_with fail
    refine HC.out.mono ?_
    rintro e w1 ⟨hb1, rfl⟩
    unfold code50
    go_wp2_with fail
    go_ret2
    exact ⟨hb1, _, rfl, by rw [HE.out]; exact World.ownsRow_nil _ _ _ _⟩
  | true =>
    have HE : Hid (canonR t l = l) := Lib.hid ((canonR_yes hk).trans (by
      unfold canonO
      rw [if_neg (fun h => h.elim p1 p2), if_neg p3, if_neg q1, if_neg q2]))
    have HK := Lib.hid hk
    clear hk
    rw [HK.out] at HC
    have HCs := Lib.hid hc
    clear hc p1 p2 p3 q1 q2 q3 q4
    unfold code50 at *
    go_enter Tryz.func97, Tryz.ntmps97
    go_wp2_with fail
    refine HC.out.mono ?_
    rintro e w1 ⟨hb1, rfl⟩
    go_wp2_with fail
    refine (CloneB A l cap w1 (HCs.out.below hb1) (by omega)).mono ?_
    rintro e w3 ⟨v3, rfl, hown3, hb3⟩
    go_wp2_with fail
    go_ret2
    exact ⟨hb1.trans (hb3.mono hb1.size), _, rfl, by rw [HE.out]; exact own_base hown3 hb1.size⟩
end Nm
end Go.Proofs.YtkeimgamjnpcbaaGreat
