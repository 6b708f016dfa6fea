/-
  Texts merged by a program (Soa, Canon6, ROpn, W32, Rot, Mix, TabR, Rel3).
-/
import Derived.OwnWalk
import Derived.Laws.BitsAllLaws
import Derived.WalkKit
import Derived.IntWalk
import Derived.BigQuiet
import Derived.Deep.QuietTactic
import Derived.StillTailTactics
import Derived.Test.YthogembgndkmpaaGreatDoorHk1
import Derived.Test.YthogembgndkmpaaGreatDoorHk2
import Derived.Test.YthogembgndkmpaaGreatDoorHk3
import Derived.Test.YthogembgndkmpaaGreatDoorHk4
set_option linter.unusedSimpArgs false
set_option linter.unusedVariables false
/- Contracts of package rdata: Soa; Check and Canon of a SOA. -/
namespace Go.Proofs.YthogembgndkmpaaGreatDoor
open Go.RowKit
namespace Nm
set_option maxRecDepth 100000 in
set_option maxHeartbeats 4000000 in
theorem Soa (A : Option Addr) (l : Lab) (cap : Nat) (w : World) (hc : Cs w A (l.map byteV)) (hl : l.length ≤ 100000) (hcap : l.length ≤ cap) (hcap2 : cap ≤ maxLen) :
    Calls Tryz.prog 89 #[.slice A l.length cap] w fun e w' => Below w.heap.size w w' ∧ ∃ v, e = .returned (.tuple #[v, .int .i64 (code50 (soaB l))]) ∧ SoaPost w w' l v := by
  go_enter Tryz.func89, Tryz.ntmps89
  go_wp2_with fail
  generalize hw2 : w.alloc (.cells #[.slice none 0 0, .slice none 0 0, .int .u32 0, .int .u32 0, .int .u32 0, .int .u32 0, .int .u32 0] 76) = w2
  have hb2 : Below w.heap.size w w2 := by rw [← hw2]; exact (Below.refl _ _).alloc (Nat.le_refl _) _
  have hz2 : w2.heap.size = w.heap.size + 1 := by rw [← hw2]; simp
  have q2 : w2.heap[w.heap.size]? = some (.cells #[.slice none 0 0, .slice none 0 0, .int .u32 0, .int .u32 0, .int .u32 0, .int .u32 0, .int .u32 0] 76 (0, 0)) := by rw [← hw2]; exact heap_alloc_new w _
  clear hw2
  refine (readS A l cap w2 (hc.below hb2) hl hcap hcap2).mono ?_
  rintro e w3 ⟨hb3, v, rfl, hp⟩
  have q3 := (hb3.block _ (show w.heap.size < w2.heap.size by omega)).trans q2
  have hz3 := hb3.size
  have hb13 := hb2.trans (hb3.mono (by omega))
  obtain ⟨u0, u1, u2, u3, u4, u5, u6, uf⟩ := cells7 q3
  have uf0 := uf 0
  have uf1 := uf 1
  have uf2 := uf 2
  have uf3 := uf 3
  have uf4 := uf 4
  have uf5 := uf 5
  have uf6 := uf 6
  cases hso : soaB l with
  | false =>
    have hv := hp.1 hso
    subst hv
    go_wp2_with fail
    obtain ⟨qA, hkA⟩ := set7 q3 (.slice none 0 0) (.slice none 0 0) (.int .u32 0) (.int .u32 0) (.int .u32 0) (.int .u32 0) (.int .u32 0) rfl
    have hbF := hb13.trans (hkA.below (B := w.heap.size) (by omega) (fun k hk => by omega))
    generalize (((((((w3.setCell ⟨w.heap.size, 0, none⟩ (.slice none 0 0)).setCell ⟨w.heap.size, 1, none⟩ (.slice none 0 0)).setCell ⟨w.heap.size, 2, none⟩ (.int .u32 0)).setCell ⟨w.heap.size, 3, none⟩ (.int .u32 0)).setCell ⟨w.heap.size, 4, none⟩ (.int .u32 0)).setCell ⟨w.heap.size, 5, none⟩ (.int .u32 0)).setCell ⟨w.heap.size, 6, none⟩ (.int .u32 0)) = w5 at *
    obtain ⟨z0, z1, z2, z3, z4, z5, z6, _⟩ := cells7 qA
    refine bodyPost_ret (v := .tuple #[.agg #[.slice none 0 0, .slice none 0 0, .int .u32 0, .int .u32 0, .int .u32 0, .int .u32 0, .int .u32 0], .int .i64 (code50 (soaB l))]) ?_ rfl ⟨hbF, _, rfl, fun _ => rfl, (fun h => by rw [hso] at h; cases h)⟩
    simp [results, Tryz.results89, go_sem, z0, z1, z2, z3, z4, z5, z6, hso]
  | true =>
    obtain ⟨Am, ca, Bx, cb, hv, hownM, hownX⟩ := hp.2 hso
    obtain ⟨M, X, n1, n2, n3, n4, n5, hsm⟩ : ∃ M X n1 n2 n3 n4 n5, soaM l = ⟨M, X, n1, n2, n3, n4, n5⟩ := ⟨_, _, _, _, _, _, _, rfl⟩
    rw [hsm] at hv hownM hownX
    unfold SoaM.v at hv
    simp only at hv hownM hownX
    have HSM := Lib.hid hsm
    clear hsm hp
    subst hv
    go_wp2_with fail
    obtain ⟨qA, hkA⟩ := set7 q3 (.slice Am M.length ca) (.slice Bx X.length cb) (.int .u32 n1) (.int .u32 n2) (.int .u32 n3) (.int .u32 n4) (.int .u32 n5) rfl
    have hbF := hb13.trans (hkA.below (B := w.heap.size) (by omega) (fun k hk => by omega))
    have hownM2 := Kept.row hownM hkA (fun k hk => by have := (hownM.lt k hk).1; omega)
    have hownX2 := Kept.row hownX hkA (fun k hk => by have := (hownX.lt k hk).1; omega)
    generalize (((((((w3.setCell ⟨w.heap.size, 0, none⟩ (.slice Am M.length ca)).setCell ⟨w.heap.size, 1, none⟩ (.slice Bx X.length cb)).setCell ⟨w.heap.size, 2, none⟩ (.int .u32 n1)).setCell ⟨w.heap.size, 3, none⟩ (.int .u32 n2)).setCell ⟨w.heap.size, 4, none⟩ (.int .u32 n3)).setCell ⟨w.heap.size, 5, none⟩ (.int .u32 n4)).setCell ⟨w.heap.size, 6, none⟩ (.int .u32 n5)) = w5 at *
    obtain ⟨z0, z1, z2, z3, z4, z5, z6, _⟩ := cells7 qA
    refine bodyPost_ret (v := .tuple #[.agg #[.slice Am M.length ca, .slice Bx X.length cb, .int .u32 n1, .int .u32 n2, .int .u32 n3, .int .u32 n4, .int .u32 n5], .int .i64 (code50 (soaB l))]) ?_ rfl ⟨hbF, _, rfl, (fun h => by rw [hso] at h; cases h), fun _ => ⟨Am, ca, Bx, cb, ?_, ?_, ?_⟩⟩
    · simp [results, Tryz.results89, go_sem, z0, z1, z2, z3, z4, z5, z6, hso]
    · rw [HSM.out]; rfl
    · rw [HSM.out]; exact own_base hownM2 (by omega)
    · rw [HSM.out]; exact own_base hownX2 (by omega)
theorem chk6 (l : Lab) : chk 6 l = (decide (l.length ≤ 8192) && soaB l) := rfl
set_option maxRecDepth 100000 in
set_option maxHeartbeats 4000000 in
theorem Check6 (A : Option Addr) (l : Lab) (cap : Nat) (w : World) (hc : Cs w A (l.map byteV)) (hl : l.length ≤ 100000) (hcap : l.length ≤ cap) (hcap2 : cap ≤ maxLen) :
    Calls Tryz.prog 85 #[.int .u16 6, .slice A l.length cap] w fun e w' => Below w.heap.size w w' ∧ e = .returned (.int .i64 (code50 (chk 6 l))) := by
  have HC := Lib.hid (chk6 l)
  have hb1 : Below w.heap.size w (w.alloc (.cells #[.int .u16 6] 27)) := (Below.refl _ _).alloc (Nat.le_refl _) _
  by_cases h8 : 8192 < l.length
  · have HE : Hid (chk 6 l = false) := Lib.hid (by rw [HC.out]; simp; omega)
    go_enter Tryz.func85, Tryz.ntmps85
    go_wp2_with fail
    go_ret
    exact ⟨hb1, by rw [HE.out]; rfl⟩
  · have HE : Hid (chk 6 l = soaB l) := Lib.hid (by rw [HC.out]; simp; omega)
    have hr := Soa A l cap (w.alloc (.cells #[.int .u16 6] 27)) (hc.below hb1) hl hcap hcap2
    have HR := Lib.hid hr
    clear hr hc
    go_enter Tryz.func85, Tryz.ntmps85
    go_wp2_with fail
    refine HR.out.mono ?_
    rintro e w2 ⟨hb2, v, rfl, hp⟩
    go_wp2_with fail
    go_ret
    exact ⟨hb1.trans (hb2.mono (by simp)), by rw [HE.out]; rfl⟩
end Nm
end Go.Proofs.YthogembgndkmpaaGreatDoor

/- Contracts of package rdata: Canon of a SOA. -/
namespace Go.Proofs.YthogembgndkmpaaGreatDoor
open Go.RowKit
namespace Nm
theorem be4_num (p : Lab) (h : p.length = 4) : be4 (numOf p 0) = p := by
  match p, h with
  | [a, b, c, d], _ =>
    have ha := UInt8.toNat_lt a
    have hb := UInt8.toNat_lt b
    have hc := UInt8.toNat_lt c
    have hd := UInt8.toNat_lt d
    have hn : numOf [a, b, c, d] 0 = a.toNat * 16777216 + b.toNat * 65536 + c.toNat * 256 + d.toNat := by
      simp only [numOf]
      omega
    have q : ∀ (x : UInt8) (n : Nat), n % 256 = x.toNat → UInt8.ofNat n = x := by
      intro x n hx
      apply UInt8.toNat_inj.1
      rw [UInt8.toNat_ofNat']
      exact hx
    unfold be4
    rw [hn, q a _ (by omega), q b _ (by omega), q c _ (by omega), q d _ (by omega)]
def SoaM.low (g : SoaM) : SoaM := { g with m := lower g.m, x := lower g.x }
theorem soa_fits (l : Lab) : (soaM l).low.fits :=
  ⟨(openN_small _).lower, (openN_small _).lower, numOf_lt _ _ (by omega), numOf_lt _ _ (by omega), numOf_lt _ _ (by omega), numOf_lt _ _ (by omega), numOf_lt _ _ (by omega)⟩
theorem canonO_soa {l : Lab} (h : soaB l = true) : canonO 6 l = (soaM l).low.bytes := by
  unfold soaB at h
  have hE : canonO 6 l = match soaO l with | none => [] | some (m, x, k) => wire (lower m) ++ wire (lower x) ++ l.drop k := rfl
  rw [hE]
  cases h1 : openO l with
  | none => exfalso; unfold soaO at h; rw [h1] at h; cases h
  | some p =>
    obtain ⟨m, i⟩ := p
    cases h2 : openO (l.drop i) with
    | none => exfalso; unfold soaO at h; rw [h1] at h; simp only [] at h; rw [h2] at h; cases h
    | some q =>
      obtain ⟨x, k⟩ := q
      obtain ⟨e1, e2, e3, e4, e5⟩ := soa_some h1 h2
      rw [e5] at h
      have hl : l.length = i + k + 20 := by simpa using h
      have hS : soaO l = some (m, x, i + k) := by
        unfold soaO
        rw [h1]
        simp only []
        rw [h2]
        simp only []
        rw [if_pos hl]
      rw [hS]
      unfold SoaM.bytes SoaM.low soaM
      simp only
      rw [e2, e1, e3, e4]
      have hd : ∀ j, j + 4 ≤ 20 → be4 (numOf ((l.drop (i + k + j)).take 4) 0) = (l.drop (i + k + j)).take 4 := fun j hj => be4_num _ (by rw [List.length_take, List.length_drop]; omega)
      have h0 := hd 0 (by omega)
      rw [Nat.add_zero] at h0
      rw [h0, hd 4 (by omega), hd 8 (by omega), hd 12 (by omega), hd 16 (by omega)]
      generalize hr : l.drop (i + k) = r
      have hrl : r.length = 20 := by rw [← hr, List.length_drop]; omega
      have hj : ∀ j, l.drop (i + k + j) = r.drop j := fun j => by rw [← hr, List.drop_drop]
      rw [hj 4, hj 8, hj 12, hj 16]
      simp only [List.append_assoc]
      congr 2
      have c1 := (List.take_append_drop 4 r).symm
      have c2 := (List.take_append_drop 4 (r.drop 4)).symm
      have c3 := (List.take_append_drop 4 (r.drop 8)).symm
      have c4 := (List.take_append_drop 4 (r.drop 12)).symm
      have c5 : (r.drop 16).take 4 = r.drop 16 := List.take_of_length_le (by rw [List.length_drop]; omega)
      rw [List.drop_drop] at c2 c3 c4
      rw [c5, ← c4, ← c3, ← c2, ← c1]
theorem setc_side {w : World} {b o k : Nat} {v : Value} (h : o ≠ k) : (w.setCell ⟨b, o, none⟩ v).cell? ⟨b, k, none⟩ = w.cell? ⟨b, k, none⟩ := World.cell?_setCell_other (w := w) (a := ⟨b, o, none⟩) (b := ⟨b, k, none⟩) (v := v) (by intro e; cases e; exact h rfl)
set_option maxRecDepth 100000 in
set_option maxHeartbeats 20000000 in
theorem Canon6 (A : Option Addr) (l : Lab) (cap : Nat) (w : World) (hc : Cs w A (l.map byteV)) (hl : l.length ≤ 100000) (hcap : l.length ≤ cap) (hcap2 : cap ≤ maxLen) :
    Calls Tryz.prog 63 #[.int .u16 6, .slice A l.length cap] w fun e w' =>
      Below w.heap.size w w' ∧ ∃ v, e = .returned (.tuple #[v, .int .i64 (code50 (chk 6 l))]) ∧ w'.ownsRow w.heap.size 5 1 v (canonR 6 l).length ((canonR 6 l).map byteV) := by
  have HC := Lib.hid (Check6 A l cap w hc hl hcap hcap2)
  cases hk : chk 6 l with
  | false =>
    have HE := Lib.hid (canonR_no hk)
    have HK := Lib.hid hk
    clear hk hc
    rw [HK.out] at HC
    go_enter Tryz.func63, Tryz.ntmps63
    go_wp2_with fail
    refine HC.out.mono ?_
    rintro e w1 ⟨hb1, rfl⟩
    unfold code50
    go_wp2_with fail
    go_ret2
    exact ⟨hb1, _, rfl, by rw [HE.out]; exact World.ownsRow_nil _ _ _ _⟩
  | true =>
    have hsb : soaB l = true := by rw [chk6] at hk; simp at hk; exact hk.2
    have HE := Lib.hid ((canonR_yes hk).trans (canonO_soa hsb))
    have HK := Lib.hid hk
    have HSB := Lib.hid hsb
    have HF := Lib.hid (soa_fits l)
    have HSo : Hid (∀ W, Below w.heap.size w W → Calls Tryz.prog 89 #[.slice A l.length cap] W fun e w' => Below W.heap.size W w' ∧ ∃ v, e = .returned (.tuple #[v, .int .i64 (code50 (soaB l))]) ∧ SoaPost W w' l v) := Lib.hid fun W hW => Soa A l cap W (hc.below hW) hl hcap hcap2
    rw [HSB.out] at HSo
    rw [HK.out] at HC
    clear hk hsb hc
    unfold code50 at *
    go_enter Tryz.func63, Tryz.ntmps63
    go_wp2_with fail
    refine HC.out.mono ?_
    rintro e w1 ⟨hb1, rfl⟩
    go_wp2_with fail
    refine (HSo.out w1 hb1).mono ?_
    rintro e w2 ⟨hb2, v, rfl, hp⟩
    obtain ⟨Am, ca, Bx, cb, hv, hownM, hownX⟩ := hp.2 HSB.out
    obtain ⟨_, _, hcM⟩ : ∃ (_ : True) (_ : True), Cs w2 Am ((soaM l).m.map strV) := by
      obtain ⟨A6, c6, e6, _, h6⟩ := Cs.of_own hownM
      cases e6
      exact ⟨trivial, trivial, h6⟩
    obtain ⟨_, _, hcX⟩ : ∃ (_ : True) (_ : True), Cs w2 Bx ((soaM l).x.map strV) := by
      obtain ⟨A6, c6, e6, _, h6⟩ := Cs.of_own hownX
      cases e6
      exact ⟨trivial, trivial, h6⟩
    have hsM : Small (soaM l).m := openN_small _
    have hsX : Small (soaM l).x := openN_small _
    obtain ⟨M, X, n1, n2, n3, n4, n5, hsm⟩ : ∃ M X n1 n2 n3 n4 n5, soaM l = ⟨M, X, n1, n2, n3, n4, n5⟩ := ⟨_, _, _, _, _, _, _, rfl⟩
    rw [hsm] at hv hcM hcX hsM hsX HE HF
    unfold SoaM.v at hv
    unfold SoaM.low at HE HF
    simp only at hv hcM hcX hsM hsX HE HF
    subst hv
    have hb12 := hb1.trans (hb2.mono hb1.size)
    clear hownM hownX hp hsm
    go_wp2_with fail
    generalize hw3 : w2.alloc (.cells #[.slice Am M.length ca, .slice Bx X.length cb, .int .u32 n1, .int .u32 n2, .int .u32 n3, .int .u32 n4, .int .u32 n5] 76) = w3
    have hb3 : Below w2.heap.size w2 w3 := by rw [← hw3]; exact (Below.refl _ _).alloc (Nat.le_refl _) _
    have hz3 : w3.heap.size = w2.heap.size + 1 := by rw [← hw3]; simp
    have hg3 : w3.heap[w2.heap.size]? = some (.cells #[.slice Am M.length ca, .slice Bx X.length cb, .int .u32 n1, .int .u32 n2, .int .u32 n3, .int .u32 n4, .int .u32 n5] 76 (0, 0)) := by rw [← hw3]; exact heap_alloc_new w2 _
    have HLM : Hid (∀ W, Below w2.heap.size w3 W → Calls Tryz.prog 42 #[.slice Am M.length ca] W fun e w' => ∃ v, e = .returned v ∧ w'.ownsRow W.heap.size 9 1 v M.length ((lower M).map strV) ∧ Below W.heap.size W w') := Lib.hid fun W hW => Lower Am M ca W (hcM.below (hb3.trans hW)) hsM.few
    have HLX : Hid (∀ W, Below w2.heap.size w3 W → Calls Tryz.prog 42 #[.slice Bx X.length cb] W fun e w' => ∃ v, e = .returned v ∧ w'.ownsRow W.heap.size 9 1 v X.length ((lower X).map strV) ∧ Below W.heap.size W w') := Lib.hid fun W hW => Lower Bx X cb W (hcX.below (hb3.trans hW)) hsX.few
    have hb13 := hb12.trans (hb3.mono (by have := hb12.size; omega))
    have hzw := hb12.size
    clear hw3 hcM hcX
    generalize hgg : w2.heap.size = g at *
    refine wp_region_rel0 (by kernel_rfl) (by kernel_rfl) (fun _ _ => false) (by kernel_rfl)
      (fun i W W' => if i = 7 then ∃ v, W' = W.setCell ⟨g, 0, none⟩ v else if i = 9 then ∃ v, W' = W.setCell ⟨g, 1, none⟩ v else Ext W W')
      (fun W => Below g w3 W ∧ ∃ c0 c1, W.heap[g]? = some (.cells #[c0, c1, .int .u32 n1, .int .u32 n2, .int .u32 n3, .int .u32 n4, .int .u32 n5] 76 (0, 0)))
      (fun i v W => match i with
        | 0 => v = .pointer (some ⟨g, 0, none⟩)
        | 1 => v = .slice Am M.length ca
        | 2 => W.ownsRow w3.heap.size 9 1 v M.length ((lower M).map strV)
        | 3 => v = .pointer (some ⟨g, 1, none⟩)
        | 4 => v = .slice Bx X.length cb
        | 5 => W.ownsRow w3.heap.size 9 1 v X.length ((lower X).map strV)
        | 6 => v = .pointer (some ⟨g, 0, none⟩)
        | 7 => ∃ A5 c5, W.cell? ⟨g, 0, none⟩ = some (.slice A5 M.length c5) ∧ W.ownsRow w3.heap.size 9 1 (.slice A5 M.length c5) M.length ((lower M).map strV)
        | 8 => v = .pointer (some ⟨g, 1, none⟩)
        | 9 => ∃ A5 c5, W.cell? ⟨g, 1, none⟩ = some (.slice A5 X.length c5) ∧ W.ownsRow w3.heap.size 9 1 (.slice A5 X.length c5) X.length ((lower X).map strV)
        | _ => True)
      (fun W => W.cell? ⟨g, 0, none⟩ = some (.slice Am M.length ca) ∧ W.cell? ⟨g, 1, none⟩ = some (.slice Bx X.length cb)) (fun i => i == 7 || i == 9) ?_ ?_ ?_ ?_ ?_ ?_ ?_
    · exact ⟨(by show w3.cell? _ = _; rw [cell_of_row _ _ 0 _ _ _ hg3]; rfl), (by show w3.cell? _ = _; rw [cell_of_row _ _ 1 _ _ _ hg3]; rfl)⟩
    · intro i W W' hk hC hI hT
      have h7 : i ≠ 7 := fun h => by subst h; cases hk
      have h9 : i ≠ 9 := fun h => by subst h; cases hk
      simp only [h7, h9, if_false] at hT
      obtain ⟨_, c0, c1, hq⟩ := hC
      exact ⟨(bcl hT (lt_block hq)).trans hI.1, (bcl hT (lt_block hq)).trans hI.2⟩
    · exact ⟨⟨rfl, rfl, rfl, Nat.le_refl _, fun _ _ => rfl⟩, _, _, hg3⟩
    · intro i W W' hC hT
      obtain ⟨hb, c0, c1, hq⟩ := hC
      have hz := hb.size
      by_cases h7 : i = 7
      · simp only [h7, if_true] at hT
        obtain ⟨v, rfl⟩ := hT
        exact ⟨hb.setCell (p := ⟨g, 0, none⟩) (Nat.le_refl _) _, v, c1, heap_set hq⟩
      · by_cases h9 : i = 9
        · simp only [h9, if_true, show ¬ (9 : Nat) = 7 by omega, if_false] at hT
          obtain ⟨v, rfl⟩ := hT
          exact ⟨hb.setCell (p := ⟨g, 1, none⟩) (Nat.le_refl _) _, c0, v, heap_set hq⟩
        · simp only [h7, h9, if_false] at hT
          exact ⟨hb.trans (hT.mono (by omega)), c0, c1, (hT.block _ (lt_block hq)).trans hq⟩
    · intro i j v W W' hij _ hw hC hR hT
      obtain ⟨hb, c0, c1, hq⟩ := hC
      by_cases h79 : i = 7 ∨ i = 9
      · have hk : Kept (fun b => b = g) W W' := by
          rcases h79 with rfl | rfl
          · simp only [if_true] at hT
            obtain ⟨u, rfl⟩ := hT
            exact (Kept.refl (fun b => b = g) W).setCell (p := ⟨g, 0, none⟩) (fun _ => rfl) u
          · simp only [if_true, show ¬ (9 : Nat) = 7 by omega, if_false] at hT
            obtain ⟨u, rfl⟩ := hT
            exact (Kept.refl (fun b => b = g) W).setCell (p := ⟨g, 1, none⟩) (fun _ => rfl) u
        have hrow : ∀ {u : Value} {n : Nat} {xs : List Value}, W.ownsRow w3.heap.size 9 1 u n xs → W'.ownsRow w3.heap.size 9 1 u n xs := fun h => Kept.row h hk (fun k hk2 => by have := (h.lt k hk2).1; omega)
        rcases j with _ | _ | _ | _ | _ | _ | _ | _ | _ | _ | j
        · exact hR
        · exact hR
        · exact hrow hR
        · exact hR
        · exact hR
        · exact hrow hR
        · exact hR
        · obtain ⟨A5, c5, h1, h2⟩ := hR
          refine ⟨A5, c5, ?_, hrow h2⟩
          rcases h79 with rfl | rfl
          · exact absurd rfl hij
          · simp only [if_true, show ¬ (9 : Nat) = 7 by omega, if_false] at hT
            obtain ⟨u, rfl⟩ := hT
            rw [setc_side (by decide)]
            exact h1
        · exact hR
        · obtain ⟨A5, c5, h1, h2⟩ := hR
          refine ⟨A5, c5, ?_, hrow h2⟩
          rcases h79 with rfl | rfl
          · simp only [if_true] at hT
            obtain ⟨u, rfl⟩ := hT
            rw [setc_side (by decide)]
            exact h1
          · exact absurd rfl hij
        · trivial
      · have h7 : ¬ i = 7 := fun h => h79 (.inl h)
        have h9 : ¬ i = 9 := fun h => h79 (.inr h)
        simp only [h7, h9, if_false] at hT
        rcases j with _ | _ | _ | _ | _ | _ | _ | _ | _ | _ | j
        · exact hR
        · exact hR
        · exact own_below hR hT
        · exact hR
        · exact hR
        · exact own_below hR hT
        · exact hR
        · obtain ⟨A5, c5, h1, h2⟩ := hR
          exact ⟨A5, c5, (bcl hT (lt_block hq)).trans h1, own_below h2 hT⟩
        · exact hR
        · obtain ⟨A5, c5, h1, h2⟩ := hR
          exact ⟨A5, c5, (bcl hT (lt_block hq)).trans h1, own_below h2 hT⟩
        · trivial
    · intro i o hio vals W hC haf hI
      obtain ⟨hb, c0, c1, hq⟩ := hC
      have hz := hb.size
      have k0 : W.cell? ⟨g, 0, none⟩ = some c0 := by rw [cell_of_row _ _ 0 _ _ _ hq]; rfl
      have k1 : W.cell? ⟨g, 1, none⟩ = some c1 := by rw [cell_of_row _ _ 1 _ _ _ hq]; rfl
      have kf : ∀ i, W.frozen? ⟨g, i, none⟩ = false := (cells7 hq).2.2.2.2.2.2.2
      rcases i with _ | _ | _ | _ | _ | _ | _ | _ | _ | _ | i
      all_goals first
        | (exfalso; simp at hio; done)
        | skip
      all_goals
        simp at hio
        subst hio
        simp [bindD, rdB, Region.binds] at haf
      · simp [opYield_def, yieldUpon, relAct, dstAt, Act.put, Region.wanted, go_sem, Ext.refl]
      · have hII := hI (fun k hk h => by
          have : k = 7 ∨ k = 9 := by simpa using h
          rcases this with rfl | rfl
          · exact .inr (by kernel_rfl)
          · exact .inr (by kernel_rfl))
        simp [opYield_def, yieldUpon, relAct, dstAt, Act.put, Region.wanted, go_sem, haf, hII.1, Ext.refl]
      · simp [opYield_def, yieldUpon, relAct, dstAt, Act.put, Region.wanted, go_sem, haf]
        refine (HLM.out W hb).mono fun e W' h5 => ?_
        obtain ⟨v, he, ho, hbb⟩ := h5
        exact ⟨v, he, hbb, own_base ho hz⟩
      · simp [opYield_def, yieldUpon, relAct, dstAt, Act.put, Region.wanted, go_sem, Ext.refl]
      · have hII := hI (fun k hk h => by
          have : k = 7 ∨ k = 9 := by simpa using h
          rcases this with rfl | rfl
          · exact .inr (by kernel_rfl)
          · exact .inr (by kernel_rfl))
        simp [opYield_def, yieldUpon, relAct, dstAt, Act.put, Region.wanted, go_sem, haf, hII.2, Ext.refl]
      · simp [opYield_def, yieldUpon, relAct, dstAt, Act.put, Region.wanted, go_sem, haf]
        refine (HLX.out W hb).mono fun e W' h5 => ?_
        obtain ⟨v, he, ho, hbb⟩ := h5
        exact ⟨v, he, hbb, own_base ho hz⟩
      · simp [opYield_def, yieldUpon, relAct, dstAt, Act.put, Region.wanted, go_sem, Ext.refl]
      · obtain ⟨h1, h2⟩ := haf
        obtain ⟨A5, c5, e5, _, _⟩ := Cs.of_own h2
        have hrow := Kept.row h2 ((Kept.refl (fun b => b = g) W).setCell (p := ⟨g, 0, none⟩) (fun _ => rfl) (.slice A5 M.length c5)) (fun k hk2 => by have := (h2.lt k hk2).1; omega)
        rw [e5] at hrow
        simp [opYield_def, yieldUpon, relAct, dstAt, Act.put, Region.wanted, go_sem, h1, e5, k0, kf]
        exact ⟨⟨_, rfl⟩, A5, c5, ⟨rfl, rfl⟩, hrow⟩
      · simp [opYield_def, yieldUpon, relAct, dstAt, Act.put, Region.wanted, go_sem, Ext.refl]
      · obtain ⟨h1, h2⟩ := haf
        obtain ⟨A5, c5, e5, _, _⟩ := Cs.of_own h2
        have hrow := Kept.row h2 ((Kept.refl (fun b => b = g) W).setCell (p := ⟨g, 1, none⟩) (fun _ => rfl) (.slice A5 X.length c5)) (fun k hk2 => by have := (h2.lt k hk2).1; omega)
        rw [e5] at hrow
        simp [opYield_def, yieldUpon, relAct, dstAt, Act.put, Region.wanted, go_sem, h1, e5, k1, kf]
        exact ⟨⟨_, rfl⟩, A5, c5, ⟨rfl, rfl⟩, hrow⟩
    · intro vals W hC hR
      obtain ⟨hb, c0, c1, hq⟩ := hC
      obtain ⟨A5, c5, h7, o7⟩ := hR 7 (by show 7 < 10; omega) (fun _ _ => rfl)
      obtain ⟨A6, c6, h9, o9⟩ := hR 9 (by show 9 < 10; omega) (fun _ _ => rfl)
      obtain ⟨k0, k1, k2, k3, k4, k5, k6, _⟩ := cells7 hq
      have e0 := k0.symm.trans h7
      have e1 := k1.symm.trans h9
      cases e0
      cases e1
      simp [relAct, dstAt, Act.put]
      have hz := hb.size
      have hbW := hb13.trans (hb.mono (by omega))
      have hc7 : Cs W A5 ((lower M).map strV) := by
        obtain ⟨A8, c8, e8, _, h8⟩ := Cs.of_own o7
        cases e8
        exact h8
      have hc9 : Cs W A6 ((lower X).map strV) := by
        obtain ⟨A8, c8, e8, _, h8⟩ := Cs.of_own o9
        cases e8
        exact h8
      have hSB := SoaBytes ⟨lower M, lower X, n1, n2, n3, n4, n5⟩ HF.out A5 A6 c5 c6 W hc7 hc9
      unfold SoaM.v at hSB
      simp only [lower_len] at hSB
      have HSB2 := Lib.hid hSB
      clear hR hSB h7 h9 hq
      generalize vals 0 = v0 at *
      generalize vals 1 = v1 at *
      generalize vals 2 = v2 at *
      generalize vals 3 = v3 at *
      generalize vals 4 = v4 at *
      generalize vals 5 = v5 at *
      generalize vals 6 = v6 at *
      generalize vals 8 = v8 at *
      go_wp2_with fail
      refine HSB2.out.mono ?_
      rintro e w9 ⟨v, rfl, ho, hbb⟩
      have hb9 := hbW.trans (hbb.mono (by omega))
      have hoF := own_base ho (show w.heap.size ≤ W.heap.size by omega)
      go_wp2_with fail
      go_ret2
      refine ⟨hb9, _, rfl, ?_⟩
      rw [HE.out]
      exact hoF
end Nm
end Go.Proofs.YthogembgndkmpaaGreatDoor

/- signetref3.Open, whole: names on the wire, read by the reference. -/
namespace Go.Proofs.YthogembgndkmpaaGreatDoor
open Go.RowKit
namespace Nm
theorem opn_none {b : Lab} (h : parse b = none) : openE b = 30 ∧ openN b = [] ∧ openK b = 0 := by
  unfold openE openN openK
  rw [h]
  exact ⟨rfl, rfl, rfl⟩
theorem opn_long {b : Lab} {n : List Lab} {k : Nat} (h : parse b = some (n, k)) (hk : 255 < k) : openE b = 31 ∧ openN b = [] ∧ openK b = 0 := by
  unfold openE openN openK
  rw [h]
  simp only [if_pos hk]
  exact ⟨trivial, trivial, trivial⟩
theorem opn_some {b : Lab} {n : List Lab} {k : Nat} (h : parse b = some (n, k)) (hk : ¬ 255 < k) : openE b = 0 ∧ openN b = n ∧ openK b = k := by
  unfold openE openN openK
  rw [h]
  simp only [if_neg hk]
  exact ⟨trivial, trivial, trivial⟩
def ROpnR (b : Lab) (w : World) (v at_ : Value) (wr : World) : Prop :=
  ∃ (k : Nat) (n : List Lab), k ≤ b.length ∧ at_ = .int .i64 k ∧ n.length ≤ k ∧ wr.ownsRow w.heap.size 9 1 v n.length (n.map strV) ∧ parse b = pre n k (parse (b.drop k)) ∧ Below w.heap.size w wr
set_option maxRecDepth 100000 in
set_option maxHeartbeats 4000000 in
theorem RNOpen (A : Option Addr) (b : Lab) (cap : Nat) (w : World) (hc : Cs w A (b.map byteV)) (hb : b.length ≤ 100000) (hcap : b.length ≤ cap) (hcap2 : cap ≤ maxLen) :
    Calls Tryz.prog 76 #[.slice A b.length cap] w fun e w' => ∃ v, e = .returned (.tuple #[v, .int .i64 (openK b : Int), .int .i64 (openE b)]) ∧ w'.ownsRow w.heap.size 9 1 v (openN b).length ((openN b).map strV) ∧ Below w.heap.size w w' := by
  obtain ⟨i0, hi, hz0, hz1, hz2⟩ := info_parts info_str
  unfold maxLen at hcap2
  go_enter Tryz.func76, Tryz.ntmps76
  go_wp2_with fail
  go_loopw [5, 6, 7] (fun v i _ wr => ROpnR b w v i wr) (fun _ i _ _ => b.length - (intOf i).toNat)
  case atStart => exact ⟨0, [], Nat.zero_le _, rfl, Nat.zero_le _, World.ownsRow_nil _ _ _ _, by rw [pre_nil]; rfl, Below.refl _ _⟩
  case round =>
    obtain ⟨k, n, hk, rfl, hnk, hown, hpre, hbel⟩ := hrel
    have HP := Lib.hid hpre
    clear hpre
    by_cases hlt : k < b.length
    · obtain ⟨bk, off, rfl, hbl, hc0⟩ := Cs.byte hc hlt
      have hc1 := (hbel.cell (p := ⟨bk, off + k, none⟩) hbl).trans hc0
      have HL := Lib.hid (pre_long (n := n) hlt)
      have HE := Lib.hid (pre_end (n := n) hlt)
      have HO := Lib.hid (pre_short (n := n) hlt)
      have HS := Lib.hid (pre_step (n := n) hlt)
      have hcc : b[k].toNat < 256 := UInt8.toNat_lt _
      generalize b[k].toNat = c at *
      by_cases h0 : c = 0
      · have h0b : ((c : Int) == 0) = true := by simp [h0]
        have hpe := HP.out.trans (HE.out h0)
        have HPE := Lib.hid hpe
        clear h0 hpe
        by_cases h255 : 255 < k + 1
        · go_wp2_with fail
          refine bodyPost_ret (results_tmp3 rfl _ _ _) rfl ?_
          obtain ⟨e1, e2, e3⟩ := opn_long HPE.out h255
          exact ⟨_, by rw [e1, e3]; rfl, by rw [e2]; exact World.ownsRow_nil _ _ _ _, hbel⟩
        · go_wp2_with fail
          refine bodyPost_ret (results_tmp3 rfl _ _ _) rfl ?_
          obtain ⟨e1, e2, e3⟩ := opn_some HPE.out h255
          exact ⟨_, by rw [e1, e3]; rfl, by rw [e2]; exact hown, hbel⟩
      · have h0b : ((c : Int) == 0) = false := by simp [h0]
        by_cases h63 : 63 < c
        · have hpe := HP.out.trans (HL.out h63)
          have HPE := Lib.hid hpe
          clear hpe
          go_wp2_with fail
          refine bodyPost_ret (results_tmp3 rfl _ _ _) rfl ?_
          obtain ⟨e1, e2, e3⟩ := opn_none HPE.out
          exact ⟨_, by rw [e1, e3]; rfl, by rw [e2]; exact World.ownsRow_nil _ _ _ _, hbel⟩
        · by_cases h2 : k + 1 + c ≤ b.length
          · have hlab : ((b.drop (k + 1)).take c).length = c := by rw [List.length_take, List.length_drop]; omega
            have hcs := ((hc.below (hbel.trans (Below.refl _ _))).drop' (k + 1) cap (by simpa using hcap)).take' c
            rw [if_neg (by omega), ← List.map_drop, ← List.map_take] at hcs
            have hcv : (convert 28 9 (.slice (some ⟨bk, off + (k + 1), none⟩) c (cap - (k + 1)))).run Tryz.prog wr = .ok (.string (strB ((b.drop (k + 1)).take c))) wr := by
              have := run_str (P := Tryz.prog) wr Tryz.underlying28 Tryz.underlying5 Tryz.underlying9 (cap - (k + 1)) hcs
              rw [hlab] at this
              exact this
            have HS2 := Lib.hid (HS.out h0 h63 h2)
            have HLab := Lib.hid hlab
            clear hlab hcs HS HO HL HE
            generalize (b.drop (k + 1)).take c = lab at *
            go_wp2_with (first | (at_builtin; refine wpList_push2 hown hbel.size [strV lab] rfl (by simp [strV, Value.oneCell']) hi hz0 hz1 hz2 rfl (by decide) rfl _ _ 26 Tryz.underlying26 rfl rfl rfl (by unfold maxLen; omega) (by omega) ?_; intro v4 w4 hown4 hbw4; have hbw5 := hbel.trans hbw4))
            exact ⟨⟨k + 1 + c, n ++ [lab], h2, by go_num, by simp; omega, by rw [List.map_append, List.length_append]; exact hown4, by rw [HP.out, HS2.out], hbw5⟩, by simp [intOf]; omega⟩
          · have hpe := HP.out.trans (HO.out h0 h2)
            have HPE := Lib.hid hpe
            clear hpe
            go_wp2_with fail
            refine bodyPost_ret (results_tmp3 rfl _ _ _) rfl ?_
            obtain ⟨e1, e2, e3⟩ := opn_none HPE.out
            exact ⟨_, by rw [e1, e3]; rfl, by rw [e2]; exact World.ownsRow_nil _ _ _ _, hbel⟩
    · have hpe := HP.out.trans (pre_out hlt)
      have HPE := Lib.hid hpe
      clear hpe
      go_wp2_with fail
      refine bodyPost_ret (results_tmp3 rfl _ _ _) rfl ?_
      obtain ⟨e1, e2, e3⟩ := opn_none HPE.out
      exact ⟨_, by rw [e1, e3]; rfl, by rw [e2]; exact World.ownsRow_nil _ _ _ _, hbel⟩
theorem whole_eq (b : Lab) : wholeB b = (decide (openE b = 0) && decide (openK b = b.length)) := by
  unfold wholeB
  cases h : openO b with
  | none =>
    have := (openO_none h).1
    simp [this]
  | some p =>
    obtain ⟨n, k⟩ := p
    obtain ⟨_, _, h3, _, h5⟩ := openO_some h
    simp [h3, h5]
    rfl
set_option maxRecDepth 100000 in
set_option maxHeartbeats 4000000 in
theorem RWhole (A : Option Addr) (b : Lab) (cap : Nat) (w : World) (hc : Cs w A (b.map byteV)) (hb : b.length ≤ 100000) (hcap : b.length ≤ cap) (hcap2 : cap ≤ maxLen) :
    Calls Tryz.prog 95 #[.slice A b.length cap] w fun e w' => e = .returned (.bool (wholeB b)) ∧ Below w.heap.size w w' := by
  have HO := Lib.hid (RNOpen A b cap w hc hb hcap hcap2)
  have HW := Lib.hid (whole_eq b)
  go_enter Tryz.func95, Tryz.ntmps95
  go_wp2_with fail
  refine HO.out.mono ?_
  rintro e w' ⟨v, rfl, _, hbel⟩
  generalize openE b = E at *
  generalize openK b = K at *
  by_cases h1 : E = 0
  · subst h1
    by_cases h2 : K = b.length
    · subst h2
      go_wp2_with fail
      go_ret
      exact ⟨by rw [HW.out]; simp, hbel⟩
    · go_wp2_with fail
      go_ret
      exact ⟨by rw [HW.out]; simp [h2]; omega, hbel⟩
  · go_wp2_with fail
    go_ret
    exact ⟨by rw [HW.out]; simp [h1], hbel⟩
end Nm
end Go.Proofs.YthogembgndkmpaaGreatDoor

/- Words of 32 bits as the model reckons them; SHA-256 in plain Lean. -/
namespace Go.Proofs.YthogembgndkmpaaGreatDoor
open Go
namespace W
/-- a word as a value -/
def uv (x : UInt32) : Value := .int .u32 (x.toNat : Int)
theorem wrap_nat (n : Nat) : IntKind.u32.wrap (n : Int) = ((n % 4294967296 : Nat) : Int) := by rw [IntKind.wrap_u32']; omega
theorem w_id (a : UInt32) : IntKind.u32.wrap (a.toNat : Int) = (a.toNat : Int) := by rw [wrap_nat, Nat.mod_eq_of_lt a.toNat_lt]
theorem w_add (a b : UInt32) : IntKind.u32.wrap ((a.toNat : Int) + (b.toNat : Int)) = ((a + b).toNat : Int) := by
  rw [← Int.natCast_add, wrap_nat, UInt32.toNat_add]
theorem w_add' (a b : UInt32) : ((a.toNat : Int) + (b.toNat : Int)) % 4294967296 = ((a + b).toNat : Int) := by
  rw [← w_add, IntKind.wrap_u32']
theorem ofInt_u (a : UInt32) : (BitVec.ofInt 32 (a.toNat : Int)) = a.toBitVec := by
  apply BitVec.eq_of_toNat_eq
  rw [BitVec.ofInt_natCast, BitVec.toNat_ofNat]
  exact Nat.mod_eq_of_lt a.toNat_lt
theorem w_and (a b : UInt32) : bits .and .u32 (a.toNat : Int) (b.toNat : Int) = ((a &&& b).toNat : Int) := by
  show IntKind.u32.wrap ((BitVec.ofInt 32 (a.toNat : Int) &&& BitVec.ofInt 32 (b.toNat : Int)).toNat : Int) = _
  rw [ofInt_u, ofInt_u, wrap_nat]
  have : (a.toBitVec &&& b.toBitVec).toNat = (a &&& b).toNat := rfl
  rw [this, Nat.mod_eq_of_lt (UInt32.toNat_lt _)]
theorem w_or (a b : UInt32) : bits .or .u32 (a.toNat : Int) (b.toNat : Int) = ((a ||| b).toNat : Int) := by
  show IntKind.u32.wrap ((BitVec.ofInt 32 (a.toNat : Int) ||| BitVec.ofInt 32 (b.toNat : Int)).toNat : Int) = _
  rw [ofInt_u, ofInt_u, wrap_nat]
  have : (a.toBitVec ||| b.toBitVec).toNat = (a ||| b).toNat := rfl
  rw [this, Nat.mod_eq_of_lt (UInt32.toNat_lt _)]
theorem w_xor (a b : UInt32) : bits .xor .u32 (a.toNat : Int) (b.toNat : Int) = ((a ^^^ b).toNat : Int) := by
  show IntKind.u32.wrap ((BitVec.ofInt 32 (a.toNat : Int) ^^^ BitVec.ofInt 32 (b.toNat : Int)).toNat : Int) = _
  rw [ofInt_u, ofInt_u, wrap_nat]
  have : (a.toBitVec ^^^ b.toBitVec).toNat = (a ^^^ b).toNat := rfl
  rw [this, Nat.mod_eq_of_lt (UInt32.toNat_lt _)]
theorem w_not (a : UInt32) : IntKind.u32.wrap (-1 - (a.toNat : Int)) = ((~~~a).toNat : Int) := by
  have := a.toNat_lt
  rw [IntKind.wrap_u32', UInt32.toNat_not]
  have e : UInt32.size = 4294967296 := rfl
  omega
theorem w_not2 (a : UInt32) : bits .xor .u32 (if IntKind.u32.signed = true then -1 else IntKind.u32.max) (a.toNat : Int) = ((~~~a).toNat : Int) := by
  have e : (if IntKind.u32.signed = true then (-1 : Int) else IntKind.u32.max) = ((4294967295 : UInt32).toNat : Int) := by decide
  rw [e, w_xor]
  have h : (4294967295 : UInt32) ^^^ a = ~~~a := by
    apply UInt32.toBitVec_inj.1
    show (4294967295#32 ^^^ a.toBitVec) = ~~~a.toBitVec
    rw [BitVec.not_def]
    rfl
  rw [h]
theorem w_shl (a : UInt32) (k : Nat) (hk : k < 32) : IntKind.u32.wrap ((a.toNat : Int) * 2 ^ k) = ((a <<< UInt32.ofNat k).toNat : Int) := by
  have : ((a.toNat : Int) * 2 ^ k) = ((a.toNat * 2 ^ k : Nat) : Int) := by push_cast; rfl
  rw [this, wrap_nat, UInt32.toNat_shiftLeft, UInt32.toNat_ofNat', Nat.shiftLeft_eq]
  rw [show k % 2 ^ 32 % 32 = k from by omega]
theorem w_shr (a : UInt32) (k : Nat) (hk : k < 32) : ((a.toNat : Int) / 2 ^ k) = ((a >>> UInt32.ofNat k).toNat : Int) := by
  have : ((a.toNat : Int) / 2 ^ k) = ((a.toNat / 2 ^ k : Nat) : Int) := by push_cast; rfl
  rw [this, UInt32.toNat_shiftRight, UInt32.toNat_ofNat', Nat.shiftRight_eq_div_pow]
  rw [show k % 2 ^ 32 % 32 = k from by omega]
/-- turned to the right -/
def rotr (x : UInt32) (n : Nat) : UInt32 := (x <<< UInt32.ofNat (32 - n)) ||| (x >>> UInt32.ofNat n)
def sig0 (x : UInt32) : UInt32 := rotr x 7 ^^^ rotr x 18 ^^^ (x >>> 3)
def sig1 (x : UInt32) : UInt32 := rotr x 17 ^^^ rotr x 19 ^^^ (x >>> 10)
def big0 (x : UInt32) : UInt32 := rotr x 2 ^^^ rotr x 13 ^^^ rotr x 22
def big1 (x : UInt32) : UInt32 := rotr x 6 ^^^ rotr x 11 ^^^ rotr x 25
def ch (e f g : UInt32) : UInt32 := (e &&& f) ^^^ (~~~e &&& g)
def maj (a b c : UInt32) : UInt32 := (a &&& b) ^^^ (a &&& c) ^^^ (b &&& c)
/-- the word at a place -/
def at_ (ws : List UInt32) (i : Nat) : UInt32 := ws.getD i 0
def next (ws : List UInt32) (i : Nat) : UInt32 := at_ ws (i - 16) + at_ ws (i - 7) + sig0 (at_ ws (i - 15)) + sig1 (at_ ws (i - 2))
/-- the schedule's words from 16 on -/
def sched : Nat → List UInt32 → List UInt32
  | 0, ws => ws
  | k + 1, ws => (sched k ws).set (16 + k) (next (sched k ws) (16 + k))
theorem sched_len : ∀ (k : Nat) (ws : List UInt32), (sched k ws).length = ws.length
  | 0, _ => rfl
  | k + 1, ws => by simp [sched, sched_len k ws]
/-- eight words under way -/
structure S8 where
  a : UInt32
  b : UInt32
  c : UInt32
  d : UInt32
  e : UInt32
  f : UInt32
  g : UInt32
  h : UInt32
def S8.list (s : S8) : List UInt32 := [s.a, s.b, s.c, s.d, s.e, s.f, s.g, s.h]
def S8.add (s t : S8) : S8 := ⟨s.a + t.a, s.b + t.b, s.c + t.c, s.d + t.d, s.e + t.e, s.f + t.f, s.g + t.g, s.h + t.h⟩
def one (s : S8) (k w : UInt32) : UInt32 := s.h + big1 s.e + ch s.e s.f s.g + k + w
def two (s : S8) : UInt32 := big0 s.a + maj s.a s.b s.c
def rnd (s : S8) (k w : UInt32) : S8 := ⟨one s k w + two s, s.a, s.b, s.c, s.d + one s k w, s.e, s.f, s.g⟩
def rnds (ks ws : List UInt32) (s : S8) : Nat → S8
  | 0 => s
  | n + 1 => rnd (rnds ks ws s n) (at_ ks n) (at_ ws n)
/-- a word out of four bytes -/
def word (b : List UInt8) (i : Nat) : UInt32 := ((b.getD (4 * i) 0).toUInt32 <<< 24) ||| ((b.getD (4 * i + 1) 0).toUInt32 <<< 16) ||| ((b.getD (4 * i + 2) 0).toUInt32 <<< 8) ||| (b.getD (4 * i + 3) 0).toUInt32
def words (b : List UInt8) : List UInt32 := (List.range 16).map (word b) ++ List.replicate 48 0
def mix (ks : List UInt32) (s : S8) (b : List UInt8) : S8 := s.add (rnds ks (sched 48 (words b)) s 64)
end W
end Go.Proofs.YthogembgndkmpaaGreatDoor

/- math/bits.RotateLeft32 at less than nought; the reference's turn. -/
namespace Go.Proofs.YthogembgndkmpaaGreatDoor
open Go.RowKit
namespace W
theorem rot_or (x : UInt32) (n : Nat) (h1 : 1 ≤ n) (h2 : n ≤ 31) : bits .or .u32 (IntKind.u32.wrap ((x.toNat : Int) * 2 ^ (32 - n))) ((x.toNat : Int) / 2 ^ n) = ((rotr x n).toNat : Int) := by
  rw [w_shl x (32 - n) (by omega), w_shr x n (by omega), w_or]
  rfl
theorem rot_or2 (x : UInt32) (n : Nat) (h1 : 1 ≤ n) (h2 : n ≤ 31) : bits .or .u32 ((x.toNat : Int) * 2 ^ (32 - n) % 4294967296) ((x.toNat : Int) / 2 ^ (32 - (32 - n))) = ((rotr x n).toNat : Int) := by
  have h := rot_or x n h1 h2
  rw [IntKind.wrap_u32'] at h
  rw [show 32 - (32 - n) = n from by omega]
  exact h
theorem Rot (x : UInt32) (n : Nat) (h1 : 1 ≤ n) (h2 : n ≤ 31) (w : World) : Calls Tryz.prog 146 #[uv x, .int .i64 (-(n : Int))] w fun e w' => e = .returned (uv (rotr x n)) ∧ w = w' := by
  have hc : bits .and .u64 (IntKind.u64.wrap (-(n : Int))) 31 = ((32 - n : Nat) : Int) := by
    have h : ∀ n : Nat, n < 32 → 1 ≤ n → bits .and .u64 (IntKind.u64.wrap (-(n : Int))) 31 = ((32 - n : Nat) : Int) := by decide +kernel
    exact h n (by omega) h1
  have HR := Lib.hid (rot_or2 x n h1 h2)
  unfold uv
  generalize hy : (rotr x n).toNat = y at *
  clear hy
  go_enter Tryz.func146, Tryz.ntmps146
  go_wp2_with fail
  go_ret
  exact ⟨ret_int HR.out, rfl⟩
theorem RotS (x : UInt32) (n : Nat) (m : Int) (hm : m = -(n : Int)) (h1 : 1 ≤ n) (h2 : n ≤ 31) (w : World) : Calls Tryz.prog 146 #[.int .u32 (x.toNat : Int), .int .i64 m] w fun e w' => e = .returned (.int .u32 ((rotr x n).toNat : Int)) ∧ w' = w := by
  subst hm
  exact (Rot x n h1 h2 w).mono fun e w' h => ⟨h.1, h.2.symm⟩
theorem shr3 (x : UInt32) : (x.toNat : Int) / (8 : Int) = ((x >>> 3).toNat : Int) := w_shr x 3 (by omega)
theorem shr10 (x : UInt32) : (x.toNat : Int) / (1024 : Int) = ((x >>> 10).toNat : Int) := w_shr x 10 (by omega)
theorem turn_or (x : UInt32) (n : Nat) (h1 : 1 ≤ n) (h2 : n ≤ 31) : bits .or .u32 ((x.toNat : Int) / 2 ^ n) ((x.toNat : Int) * 2 ^ (32 - n) % 4294967296) = ((rotr x n).toNat : Int) := by
  have e := w_shl x (32 - n) (by omega)
  rw [IntKind.wrap_u32'] at e
  rw [e, w_shr x n (by omega), w_or, UInt32.or_comm]
  rfl
theorem Turn_ (x : UInt32) (n : Nat) (h1 : 1 ≤ n) (h2 : n ≤ 31) (w : World) : Calls Tryz.prog 73 #[uv x, .int .i64 (n : Int)] w fun e w' => e = .returned (uv (rotr x n)) ∧ ∃ q, w' = w.drewN q := by
  unfold uv
  have hn0 : (0 : Int) ≤ (n : Int) := by omega
  have hn1 : (0 : Int) ≤ 32 - (n : Int) := by omega
  go_enter Tryz.func73, Tryz.ntmps73
  go_wp2_with fail
  go_quiet (fail)
  go_wp2_with fail
  go_ret
  exact ⟨ret_int (turn_or x n h1 h2), nq, rfl⟩
end W
end Go.Proofs.YthogembgndkmpaaGreatDoor

/- hash's state: a block mixed in. -/
namespace Go.Proofs.YthogembgndkmpaaGreatDoor
open Go.RowKit
namespace W
theorem mixed1 : Tryz.prog.follows .mixedOrders = true := by kernel_rfl
/-- an array of words in a block of its own -/
def ArrU (w : World) (g : Nat) (T : TypeId) (ws : List UInt32) : Prop := w.heap[g]? = some (.cells (ws.map uv).toArray T (0, 0))
theorem ArrU.lt {w : World} {g : Nat} {T : TypeId} {ws : List UInt32} (h : ArrU w g T ws) : g < w.heap.size := lt_block h
theorem ArrU.cell {w : World} {g : Nat} {T : TypeId} {ws : List UInt32} (h : ArrU w g T ws) (i : Nat) (hi : i < ws.length) : w.cell? ⟨g, i, none⟩ = some (.int .u32 ((at_ ws i).toNat : Int)) := by
  rw [cell_of_row _ _ _ _ _ _ h]
  simp [at_, hi, uv, List.getD]
theorem ArrU.frozen {w : World} {g : Nat} {T : TypeId} {ws : List UInt32} (h : ArrU w g T ws) (i : Nat) : w.frozen? ⟨g, i, none⟩ = false := by
  unfold ArrU at h
  simp [World.frozen?, h]
theorem ArrU.set {w : World} {g : Nat} {T : TypeId} {ws : List UInt32} (h : ArrU w g T ws) (i : Nat) (x : UInt32) : ArrU (w.setCell ⟨g, i, none⟩ (uv x)) g T (ws.set i x) := by
  unfold ArrU at h ⊢
  simp [World.setCell, Array.getElem?_modify, h, List.map_set]
theorem ArrU.keep {w w' : World} {g : Nat} {T : TypeId} {ws : List UInt32} (h : ArrU w g T ws) (hb : w'.heap[g]? = w.heap[g]?) : ArrU w' g T ws := hb.trans h
def wsAt (b : List UInt8) (j : Nat) : List UInt32 := (List.range j).map (word b) ++ List.replicate (64 - j) 0
theorem wsAt_len (b : List UInt8) (j : Nat) (hj : j ≤ 64) : (wsAt b j).length = 64 := by simp [wsAt]; omega
theorem wsAt_set (b : List UInt8) (j : Nat) (hj : j < 64) : (wsAt b j).set j (word b j) = wsAt b (j + 1) := by
  unfold wsAt
  rw [List.set_append_right _ _ (by simp), List.length_map, List.length_range, Nat.sub_self, List.range_succ, List.map_append, List.append_assoc]
  congr 1
  rw [show 64 - j = (64 - (j + 1)) + 1 from by omega, List.replicate_succ, List.set_cons_zero]
  rfl
theorem u8_u32 (c : UInt8) : IntKind.u32.wrap (c.toNat : Int) = (c.toUInt32.toNat : Int) := by
  have h : c.toUInt32.toNat = c.toNat := by simp
  rw [← h, w_id]
theorem word_eq (b : List UInt8) (j : Nat) (h : 4 * j + 3 < b.length) : bits .or .u32 (bits .or .u32 (bits .or .u32 (IntKind.u32.wrap (IntKind.u32.wrap ((b[4 * j]).toNat : Int) * 16777216)) (IntKind.u32.wrap (IntKind.u32.wrap ((b[4 * j + 1]).toNat : Int) * 65536))) (IntKind.u32.wrap (IntKind.u32.wrap ((b[4 * j + 2]).toNat : Int) * 256))) (IntKind.u32.wrap ((b[4 * j + 3]).toNat : Int)) = ((word b j).toNat : Int) := by
  have e24 := fun x : UInt32 => w_shl x 24 (by omega)
  have e16 := fun x : UInt32 => w_shl x 16 (by omega)
  have e8 := fun x : UInt32 => w_shl x 8 (by omega)
  rw [u8_u32, u8_u32, u8_u32, u8_u32]
  have f24 := e24 (b[4 * j]).toUInt32
  have f16 := e16 (b[4 * j + 1]).toUInt32
  have f8 := e8 (b[4 * j + 2]).toUInt32
  rw [show ((2 : Int) ^ 24) = 16777216 from rfl] at f24
  rw [show ((2 : Int) ^ 16) = 65536 from rfl] at f16
  rw [show ((2 : Int) ^ 8) = 256 from rfl] at f8
  rw [f24, f16, f8, w_or, w_or, w_or]
  unfold word
  simp [List.getD, show 4 * j < b.length by omega, show 4 * j + 1 < b.length by omega, show 4 * j + 2 < b.length by omega, h]
def LoadR (b : List UInt8) (w : World) (g : Nat) (i : Value) (wr : World) : Prop := ∃ j : Nat, j ≤ 16 ∧ i = .int .i64 j ∧ ArrU wr g 100 (wsAt b j) ∧ Below g w wr
def SchR (b : List UInt8) (w : World) (g : Nat) (i : Value) (wr : World) : Prop := ∃ I : Nat, 16 ≤ I ∧ I ≤ 64 ∧ i = .int .i64 I ∧ ArrU wr g 100 (sched (I - 16) (words b)) ∧ Below g w wr
theorem words_len (b : List UInt8) : (words b).length = 64 := by simp [words]
def RndR (ks ws : List UInt32) (s0 : S8) (w : World) (g : Nat) (va vb vc vd ve vf vg vh i : Value) (wr : World) : Prop := ∃ K : Nat, K ≤ 64 ∧ i = .int .i64 K ∧
  va = .int .u32 ((rnds ks ws s0 K).a.toNat : Int) ∧ vb = .int .u32 ((rnds ks ws s0 K).b.toNat : Int) ∧ vc = .int .u32 ((rnds ks ws s0 K).c.toNat : Int) ∧ vd = .int .u32 ((rnds ks ws s0 K).d.toNat : Int) ∧
  ve = .int .u32 ((rnds ks ws s0 K).e.toNat : Int) ∧ vf = .int .u32 ((rnds ks ws s0 K).f.toNat : Int) ∧ vg = .int .u32 ((rnds ks ws s0 K).g.toNat : Int) ∧ vh = .int .u32 ((rnds ks ws s0 K).h.toNat : Int) ∧ ArrU wr g 100 ws ∧ Below g w wr
theorem run_idx (W : World) (ks : List UInt32) (K : Nat) (hl : ks.length = 64) (hK : K < 64) : (Instr.index 100 (.agg (ks.map uv).toArray) (.int .i64 (K : Int))).run Tryz.prog W = .ok (.int .u32 ((at_ ks K).toNat : Int)) W := by
  have h1 : (0 : Int) ≤ (K : Int) ∧ (K : Int) < 64 := by omega
  have h2 : ks[K]? = some (at_ ks K) := by
    simp [at_, List.getD, show K < ks.length by omega]
  simp [Instr.index, asIntOf, go_sem, h1, h2, hK, uv]
/-- eight words to which the first ones are added -/
def addAt (s t : List UInt32) (j : Nat) : List UInt32 := (List.zipWith (· + ·) s t).take j ++ s.drop j
theorem addAt_len (s t : List UInt32) (j : Nat) (hs : s.length = 8) (ht : t.length = 8) (hj : j ≤ 8) : (addAt s t j).length = 8 := by simp [addAt, hs, ht]; omega
theorem addAt_at (s t : List UInt32) (j : Nat) (hs : s.length = 8) (ht : t.length = 8) (hj : j < 8) : at_ (addAt s t j) j = at_ s j := by
  unfold at_ addAt
  simp [List.getD, hs, ht, List.getElem?_append, hj, show min j 8 = j by omega]
theorem addAt_set (s t : List UInt32) (j : Nat) (hs : s.length = 8) (ht : t.length = 8) (hj : j < 8) : (addAt s t j).set j (at_ s j + at_ t j) = addAt s t (j + 1) := by
  unfold addAt
  have hl : ((List.zipWith (· + ·) s t).take j).length = j := by simp [hs, ht]; omega
  rw [List.set_append_right _ _ (by omega), hl, Nat.sub_self, List.drop_eq_getElem_cons (by omega : j < s.length), List.set_cons_zero]
  have hz : j < (List.zipWith (· + ·) s t).length := by simp [hs, ht, hj]
  rw [List.take_succ_eq_append_getElem hz, List.append_assoc]
  congr 1
  simp [at_, List.getD, hs, ht, hj]
theorem addAt_all (s t : S8) : addAt s.list t.list 8 = (s.add t).list := rfl
def AddR (s t : S8) (w : World) (gs : Nat) (i : Value) (wr : World) : Prop := ∃ j : Nat, j ≤ 8 ∧ i = .int .i64 j ∧ ArrU wr gs 166 (addAt s.list t.list j) ∧ Kept (fun k => k = gs) w wr
theorem run_idx8 (W : World) (t : S8) (K : Nat) (hK : K < 8) : (Instr.index 99 (.agg #[.int .u32 (t.a.toNat : Int), .int .u32 (t.b.toNat : Int), .int .u32 (t.c.toNat : Int), .int .u32 (t.d.toNat : Int), .int .u32 (t.e.toNat : Int), .int .u32 (t.f.toNat : Int), .int .u32 (t.g.toNat : Int), .int .u32 (t.h.toNat : Int)]) (.int .i64 (K : Int))).run Tryz.prog W = .ok (.int .u32 ((at_ t.list K).toNat : Int)) W := by
  have h1 : (0 : Int) ≤ (K : Int) ∧ (K : Int) < 8 := by omega
  have h2 : t.list[K]? = some (at_ t.list K) := by
    simp [at_, List.getD, show K < t.list.length from hK]
  have h3 : (#[.int .u32 (t.a.toNat : Int), .int .u32 (t.b.toNat : Int), .int .u32 (t.c.toNat : Int), .int .u32 (t.d.toNat : Int), .int .u32 (t.e.toNat : Int), .int .u32 (t.f.toNat : Int), .int .u32 (t.g.toNat : Int), .int .u32 (t.h.toNat : Int)] : Array Value) = (t.list.map uv).toArray := rfl
  rw [h3]
  simp [Instr.index, asIntOf, go_sem, h1, h2, hK, uv]
set_option maxRecDepth 100000 in
set_option maxHeartbeats 20000000 in
theorem Mix (gs gb ob cb : Nat) (s : S8) (ks : List UInt32) (b : List UInt8) (w : World) (hs : ArrU w gs 166 s.list) (hk : ArrU w 1 100 ks) (hkl : ks.length = 64) (hb : Cs w (some ⟨gb, ob, none⟩) (b.map byteV)) (hbl : b.length = 64) :
    Calls Tryz.prog 127 #[.pointer (some ⟨gs, 0, none⟩), .slice (some ⟨gb, ob, none⟩) 64 cb] w fun e w' => e = .returned (.tuple #[]) ∧ ArrU w' gs 166 (mix ks s b).list ∧ Kept (fun k => k = gs) w w' := by
  have HB := Lib.hid hb
  clear hb
  go_enter Tryz.func127, Tryz.ntmps127
  go_wp2_with fail
  have hz : ArrU (w.alloc (.cells (wsAt b 0 |>.map uv).toArray 100)) w.heap.size 100 (wsAt b 0) := heap_alloc_new w _
  have hz2 : ((wsAt b 0).map uv).toArray = (List.replicate 64 (Value.int .u32 0)).toArray := by
    simp [wsAt, uv]
  rw [hz2] at hz
  simp only [List.replicate] at hz
  have hb0 : Below w.heap.size w (w.alloc (.cells (List.replicate 64 (Value.int .u32 0)).toArray 100)) := (Below.refl _ _).alloc (Nat.le_refl _) _
  simp only [List.replicate] at hb0
  generalize w.alloc _ = w1 at *
  have hbnd := fun i (hi : i < 64) => HB.out.byte (l := b) (i := i) (by omega)
  have HBND := Lib.hid hbnd
  clear hbnd hz2
  go_loopw [23] (LoadR b w w.heap.size) (fun i _ => 16 - (intOf i).toNat)
  case atStart => exact ⟨0, Nat.zero_le _, rfl, hz, hb0⟩
  case round =>
    obtain ⟨j, hj, rfl, harr, hbel⟩ := hrel
    by_cases hlt : j < 16
    · have hl64 := wsAt_len b j (by omega)
      have hgl := harr.lt
      obtain ⟨_, _, e1, hgb, c0⟩ := HBND.out (4 * j) (by omega)
      cases e1
      obtain ⟨_, _, e1, _, c1⟩ := HBND.out (4 * j + 1) (by omega)
      cases e1
      obtain ⟨_, _, e1, _, c2⟩ := HBND.out (4 * j + 2) (by omega)
      cases e1
      obtain ⟨_, _, e1, _, c3⟩ := HBND.out (4 * j + 3) (by omega)
      cases e1
      have d0 := (hbel.cell (p := ⟨gb, ob + 4 * j, none⟩) hgb).trans c0
      have d1 := (hbel.cell (p := ⟨gb, ob + (4 * j + 1), none⟩) hgb).trans c1
      have d2 := (hbel.cell (p := ⟨gb, ob + (4 * j + 2), none⟩) hgb).trans c2
      have d3 := (hbel.cell (p := ⟨gb, ob + (4 * j + 3), none⟩) hgb).trans c3
      have m0 : IntKind.i64.wrap (4 * (j : Int)) = 4 * (j : Int) := IntWalk.i64_in _ (by omega)
      have m1 : IntKind.i64.wrap (4 * (j : Int) + 1) = 4 * (j : Int) + 1 := IntWalk.i64_in _ (by omega)
      have m2 : IntKind.i64.wrap (4 * (j : Int) + 2) = 4 * (j : Int) + 2 := IntWalk.i64_in _ (by omega)
      have m3 : IntKind.i64.wrap (4 * (j : Int) + 3) = 4 * (j : Int) + 3 := IntWalk.i64_in _ (by omega)
      have n0 : (4 * (j : Int)).toNat = 4 * j := by omega
      have n1 : (4 * (j : Int) + 1).toNat = 4 * j + 1 := by omega
      have n2 : (4 * (j : Int) + 2).toNat = 4 * j + 2 := by omega
      have n3 : (4 * (j : Int) + 3).toNat = 4 * j + 3 := by omega
      have l0 : (0 : Int) ≤ 4 * (j : Int) ∧ 4 * (j : Int) < 64 := by omega
      have l1 : (0 : Int) ≤ 4 * (j : Int) + 1 ∧ 4 * (j : Int) + 1 < 64 := by omega
      have l2 : (0 : Int) ≤ 4 * (j : Int) + 2 ∧ 4 * (j : Int) + 2 < 64 := by omega
      have l3 : (0 : Int) ≤ 4 * (j : Int) + 3 ∧ 4 * (j : Int) + 3 < 64 := by omega
      have hb1 : (0 : Int) ≤ (j : Int) ∧ (j : Int) < 64 := by omega
      have f0 := harr.frozen j
      have g0 := harr.cell j (by omega)
      clear c0 c1 c2 c3
      go_wp2_with fail
      go_still_tail 35, mixed1
      have hw := word_eq b j (by omega)
      simp only [hw]
      generalize hwj : word b j = wj at *
      have HW := Lib.hid hwj
      clear hw hwj
      go_wp2_with fail
      go_roundw
      case rel =>
        refine ⟨j + 1, by omega, by go_num, ?_, ?_⟩
        · rw [← wsAt_set b j (by omega), HW.out]
          exact ArrU.set (w := { wr with drawn := wr.drawn + 1 }) harr j wj
        · exact Below.setCell (p := ⟨w.heap.size, j, none⟩) (hbel.drew) (Nat.le_refl _) _
      case measure => simp [intOf]; omega
    · have hj16 : j = 16 := by omega
      subst hj16
      go_wp2_with fail
      have harr0 : ArrU wr w.heap.size 100 (sched (16 - 16) (words b)) := harr
      have HA0 := Lib.hid harr0
      have HB0 := Lib.hid hbel
      clear harr harr0 hbel hz hb0
      go_loopw [6, 7, 8] (fun i _ _ wr => SchR b w w.heap.size i wr) (fun i _ _ _ => 64 - (intOf i).toNat)
      case atStart => exact ⟨16, Nat.le_refl _, by omega, rfl, HA0.out, HB0.out⟩
      case round =>
        clear HA0 HB0
        obtain ⟨I, hI1, hI2, rfl, harr, hbel⟩ := hrel
        have hwl : (sched (I - 16) (words b)).length = 64 := by rw [sched_len, words_len]
        by_cases hlt : I < 64
        · have hnext : sched (I + 1 - 16) (words b) = (sched (I - 16) (words b)).set I (next (sched (I - 16) (words b)) I) := by
            rw [show I + 1 - 16 = (I - 16) + 1 from by omega]
            show (sched (I - 16) (words b)).set (16 + (I - 16)) (next (sched (I - 16) (words b)) (16 + (I - 16))) = _
            rw [show 16 + (I - 16) = I from by omega]
          have HNX := Lib.hid hnext
          clear hnext
          generalize sched (I - 16) (words b) = ws at *
          have c15 := harr.cell (I - 15) (by omega)
          have c2 := harr.cell (I - 2) (by omega)
          have c16 := harr.cell (I - 16) (by omega)
          have c7 := harr.cell (I - 7) (by omega)
          have cI := harr.cell I (by omega)
          have fI := harr.frozen I
          have hgl := harr.lt
          have hnx : next ws I = at_ ws (I - 16) + at_ ws (I - 7) + sig0 (at_ ws (I - 15)) + sig1 (at_ ws (I - 2)) := rfl
          have HN := Lib.hid hnx
          clear hnx
          generalize at_ ws (I - 15) = x at *
          generalize at_ ws (I - 2) = y at *
          generalize at_ ws (I - 16) = z at *
          generalize at_ ws (I - 7) = u at *
          generalize at_ ws I = old at *
          have m15 : IntKind.i64.wrap ((I : Int) - 15) = (I : Int) - 15 := IntWalk.i64_in _ (by omega)
          have m2 : IntKind.i64.wrap ((I : Int) - 2) = (I : Int) - 2 := IntWalk.i64_in _ (by omega)
          have m16 : IntKind.i64.wrap ((I : Int) - 16) = (I : Int) - 16 := IntWalk.i64_in _ (by omega)
          have m7 : IntKind.i64.wrap ((I : Int) - 7) = (I : Int) - 7 := IntWalk.i64_in _ (by omega)
          have n15 : ((I : Int) - 15).toNat = I - 15 := by omega
          have n2 : ((I : Int) - 2).toNat = I - 2 := by omega
          have n16 : ((I : Int) - 16).toNat = I - 16 := by omega
          have n7 : ((I : Int) - 7).toNat = I - 7 := by omega
          have l15 : (0 : Int) ≤ (I : Int) - 15 ∧ (I : Int) - 15 < 64 := by omega
          have l2 : (0 : Int) ≤ (I : Int) - 2 ∧ (I : Int) - 2 < 64 := by omega
          have l16 : (0 : Int) ≤ (I : Int) - 16 ∧ (I : Int) - 16 < 64 := by omega
          have l7 : (0 : Int) ≤ (I : Int) - 7 ∧ (I : Int) - 7 < 64 := by omega
          have lI : (0 : Int) ≤ (I : Int) ∧ (I : Int) < 64 := by omega
          have k16 : (16 : Int) ≤ (I : Int) := by omega
          have k15 : (15 : Int) ≤ (I : Int) := by omega
          have k7 : (7 : Int) ≤ (I : Int) := by omega
          have k2 : (2 : Int) ≤ (I : Int) := by omega
          have q7 := fun W => RotS x 7 (-7) rfl (by omega) (by omega) W
          have q18 := fun W => RotS x 18 (-18) rfl (by omega) (by omega) W
          have q17 := fun W => RotS y 17 (-17) rfl (by omega) (by omega) W
          have q19 := fun W => RotS y 19 (-19) rfl (by omega) (by omega) W
          have Q := Lib.hid (And.intro q7 (And.intro q18 (And.intro q17 q19)))
          clear q7 q18 q17 q19
          go_wp2_with fail
          go_quiet (fail)
          have c16' : (wr.drewN nq).cell? ⟨w.heap.size, I - 16, none⟩ = some (.int .u32 (z.toNat : Int)) := c16
          have c7' : (wr.drewN nq).cell? ⟨w.heap.size, I - 7, none⟩ = some (.int .u32 (u.toNat : Int)) := c7
          have cI' : (wr.drewN nq).cell? ⟨w.heap.size, I, none⟩ = some (.int .u32 (old.toNat : Int)) := cI
          have fI' : (wr.drewN nq).frozen? ⟨w.heap.size, I, none⟩ = false := fI
          have harr' : ArrU (wr.drewN nq) w.heap.size 100 ws := harr
          have hbel' : Below w.heap.size w (wr.drewN nq) := hbel.trans ⟨rfl, rfl, rfl, Nat.le_refl _, fun _ _ => rfl⟩
          have hgl' : w.heap.size < (wr.drewN nq).heap.size := hgl
          clear c15 c2 c16 c7 cI fI harr hbel hgl
          go_wp2_with fail
          generalize wr.drewN nq = V at *
          refine wp_region_still_tail 29 mixed1 (by kernel_rfl) ?_
          simp only [List.take_succ_cons, List.take_zero, List.drop_succ_cons, List.drop_zero]
          repeat still_step
          still_call (Q.out.1 _)
          repeat still_step
          still_call (Q.out.2.1 _)
          repeat still_step
          still_call (Q.out.2.2.1 _)
          repeat still_step
          still_call (Q.out.2.2.2 _)
          repeat still_step
          try refine wpStill_nil ?_
          simp only [shr3, shr10, w_xor, w_add]
          have hst : z + u + (rotr x 7 ^^^ rotr x 18 ^^^ x >>> 3) + (rotr y 17 ^^^ rotr y 19 ^^^ y >>> 10) = next ws I := by rw [HN.out]; rfl
          simp only [hst]
          have HNX2 := Lib.hid HNX.out
          generalize next ws I = nw at *
          clear hst HN HNX
          go_wp2_with fail
          go_roundw
          case rel =>
            have hN : SchR b w w.heap.size (.int .i64 ((I : Int) + 1)) (({ V with drawn := V.drawn + 1 } : World).setCell ⟨w.heap.size, I, none⟩ (.int .u32 (nw.toNat : Int))) := by
              refine ⟨I + 1, by omega, by omega, by congr 1, ?_, ?_⟩
              · rw [HNX2.out]
                exact ArrU.set (w := { V with drawn := V.drawn + 1 }) harr' I nw
              · exact Below.setCell (p := ⟨w.heap.size, I, none⟩) (hbel'.drew) (Nat.le_refl _) _
            first
              | exact hN
              | ((repeat apply Exists.intro); exact ⟨hN, rfl⟩)
          case measure => simp [intOf]; omega
        · have hI64 : I = 64 := by omega
          subst hI64
          go_wp2_with fail
          have hgs : gs < w.heap.size := hs.lt
          have hsr : ArrU wr gs 166 s.list := hs.keep (hbel.block gs hgs)
          have hkr : ArrU wr 1 100 ks := hk.keep (hbel.block 1 hk.lt)
          have s0 := hsr.cell 0 (by simp [S8.list])
          have s1 := hsr.cell 1 (by simp [S8.list])
          have s2 := hsr.cell 2 (by simp [S8.list])
          have s3 := hsr.cell 3 (by simp [S8.list])
          have s4 := hsr.cell 4 (by simp [S8.list])
          have s5 := hsr.cell 5 (by simp [S8.list])
          have s6 := hsr.cell 6 (by simp [S8.list])
          have s7 := hsr.cell 7 (by simp [S8.list])
          simp only [at_, S8.list, List.getD_cons_zero, List.getD_cons_succ] at s0 s1 s2 s3 s4 s5 s6 s7
          have HA := Lib.hid harr
          go_still mixed1
          change Exit.then _ _ _ _ (World.drew wr)
          have hsr1 : ArrU (World.drew wr) gs 166 s.list := hsr
          have hkr1 : ArrU (World.drew wr) 1 100 ks := hkr
          have ha1 : ArrU (World.drew wr) w.heap.size 100 (sched (64 - 16) (words b)) := HA.out
          have hbel1 : Below w.heap.size w (World.drew wr) := hbel.drew
          clear s0 s1 s2 s3 s4 s5 s6 s7 hsr hkr hbel harr HA
          generalize World.drew wr = V1 at *
          have s4 := hsr1.cell 4 (by simp [S8.list])
          have s5 := hsr1.cell 5 (by simp [S8.list])
          have s6 := hsr1.cell 6 (by simp [S8.list])
          have s7 := hsr1.cell 7 (by simp [S8.list])
          simp only [at_, S8.list, List.getD_cons_zero, List.getD_cons_succ] at s4 s5 s6 s7
          have HA1 := Lib.hid ha1
          go_wp2_with fail
          go_still mixed1
          change Exit.then _ _ _ _ (World.drew V1)
          have hsr2 : ArrU (World.drew V1) gs 166 s.list := hsr1
          have hkr2 : ArrU (World.drew V1) 1 100 ks := hkr1
          have ha2 : ArrU (World.drew V1) w.heap.size 100 (sched (64 - 16) (words b)) := HA1.out
          have hbel2 : Below w.heap.size w (World.drew V1) := hbel1.drew
          clear s4 s5 s6 s7 hsr1 hkr1 hbel1 ha1 HA1
          generalize World.drew V1 = V2 at *
          have HS2 := Lib.hid (And.intro hsr2 (And.intro ha2 hbel2))
          have hi64 : (Tryz.prog.info? 100).map (·.size) = some ((ks.map uv).toArray.size) := by
            have : (Tryz.prog.info? 100).map (·.size) = some 64 := by kernel_rfl
            rw [this]
            simp [hkl]
          clear ha2
          go_wp2_with (refine wpList_load_row rfl 100 _ rfl 1 rfl 100 (ks.map uv).toArray (0, 0) _ hkr2 Tryz.underlying100 rfl hi64 ?_)
          clear hkr2 hi64 hsr2 hbel2
          go_loopw [9, 10, 11, 12, 13, 14, 15, 16, 17, 18, 19, 20, 136] (fun va vb vc vd ve vf vg vh _ _ _ _ i wr => RndR ks (sched (64 - 16) (words b)) s w w.heap.size va vb vc vd ve vf vg vh i wr) (fun _ _ _ _ _ _ _ _ _ _ _ _ i _ => 64 - (intOf i).toNat)
          case atStart => exact ⟨0, Nat.zero_le _, rfl, rfl, rfl, rfl, rfl, rfl, rfl, rfl, rfl, HS2.out.2.1, HS2.out.2.2⟩
          case round =>
            obtain ⟨K, hK, rfl, rfl, rfl, rfl, rfl, rfl, rfl, rfl, rfl, harr, hbel⟩ := hrel
            have hwl2 : (sched (64 - 16) (words b)).length = 64 := by rw [sched_len, words_len]
            have HBE := Lib.hid hbel
            have HAR := Lib.hid harr
            by_cases hltK : K < 64
            · have hnx : rnds ks (sched (64 - 16) (words b)) s (K + 1) = rnd (rnds ks (sched (64 - 16) (words b)) s K) (at_ ks K) (at_ (sched (64 - 16) (words b)) K) := rfl
              have HNX := Lib.hid hnx
              have cK := harr.cell K (by omega)
              have hidx := run_idx wr ks K hkl hltK
              clear hnx harr hbel
              generalize hS : rnds ks (sched (64 - 16) (words b)) s K = S at *
              generalize at_ (sched (64 - 16) (words b)) K = wk at *
              generalize at_ ks K = kk at *
              have HSK := Lib.hid hS
              clear hS
              obtain ⟨Sa, Sb, Sc, Sd, Se, Sf, Sg, Sh⟩ := S
              have q6 := fun W => RotS Se 6 (-6) rfl (by omega) (by omega) W
              have q11 := fun W => RotS Se 11 (-11) rfl (by omega) (by omega) W
              have q25 := fun W => RotS Se 25 (-25) rfl (by omega) (by omega) W
              have q2 := fun W => RotS Sa 2 (-2) rfl (by omega) (by omega) W
              have q13 := fun W => RotS Sa 13 (-13) rfl (by omega) (by omega) W
              have q22 := fun W => RotS Sa 22 (-22) rfl (by omega) (by omega) W
              have Q := Lib.hid (And.intro q6 (And.intro q11 (And.intro q25 (And.intro q2 (And.intro q13 q22)))))
              have lK : (0 : Int) ≤ (K : Int) ∧ (K : Int) < 64 := by omega
              clear q6 q11 q25 q2 q13 q22
              go_wp2_with fail
              refine wp_region_still_lit mixed1 (by kernel_rfl) ?_
              repeat still_step
              still_call (Q.out.1 _)
              repeat still_step
              still_call (Q.out.2.1 _)
              repeat still_step
              still_call (Q.out.2.2.1 _)
              repeat still_step
              try refine wpStill_nil ?_
              simp only [w_not2, w_xor, w_add, w_and]
              have e1 : Sh + (rotr Se 6 ^^^ rotr Se 11 ^^^ rotr Se 25) + (Se &&& Sf ^^^ ~~~Se &&& Sg) + kk + wk = one ⟨Sa, Sb, Sc, Sd, Se, Sf, Sg, Sh⟩ kk wk := rfl
              simp only [e1]
              have HON := Lib.hid e1
              clear e1
              generalize hon : one ⟨Sa, Sb, Sc, Sd, Se, Sf, Sg, Sh⟩ kk wk = on at *
              have HON2 := Lib.hid hon
              clear hon HON
              change Exit.then _ _ _ _ (World.drew wr)
              have HW : Hid (ArrU (World.drew wr) w.heap.size 100 (sched (64 - 16) (words b)) ∧ Below w.heap.size w (World.drew wr)) := Lib.hid ⟨HAR.out, HBE.out.drew⟩
              clear HAR HBE cK hidx
              generalize World.drew wr = V at *
              go_wp2_with fail
              refine (Q.out.2.2.2.1 _).mono ?_
              rintro e w' ⟨rfl, rfl⟩
              go_wp2_with fail
              refine (Q.out.2.2.2.2.1 _).mono ?_
              rintro e w' ⟨rfl, rfl⟩
              go_wp2_with fail
              refine (Q.out.2.2.2.2.2 _).mono ?_
              rintro e w' ⟨rfl, rfl⟩
              go_wp2_with fail
              have hr : rnds ks (sched (64 - 16) (words b)) s (K + 1) = ⟨on + ((rotr Sa 2 ^^^ rotr Sa 13 ^^^ rotr Sa 22) + (Sa &&& Sb ^^^ Sa &&& Sc ^^^ Sb &&& Sc)), Sa, Sb, Sc, Sd + on, Se, Sf, Sg⟩ := by
                rw [HNX.out]
                unfold rnd
                simp only
                rw [HON2.out]
                rfl
              have hg : (.int .i64 ((K : Int) + 1) : Value) = .int .i64 ((K + 1 : Nat) : Int) := by go_num
              refine ⟨⟨K + 1, by omega, hg, ?_, ?_, ?_, ?_, ?_, ?_, ?_, ?_, HW.out.1, HW.out.2⟩, by simp [intOf]; omega⟩
              all_goals
                rw [hr]
                try simp only [w_xor, w_and, w_add']
            · have hK64 : K = 64 := by omega
              subst hK64
              generalize hT : rnds ks (sched (64 - 16) (words b)) s 64 = T at *
              have HTT := Lib.hid hT
              clear hT
              obtain ⟨Ta, Tb, Tc, Td, Te, Tf, Tg, Th⟩ := T
              simp only at *
              go_wp2_with fail
              have hgs : gs < w.heap.size := hs.lt
              have hs4 : ArrU wr gs 166 s.list := hs.keep (HBE.out.block gs hgs)
              have HS4 := Lib.hid hs4
              have hkp : Kept (fun k => k = gs) w wr := (Kept.of_ext HBE.out).mono (fun _ _ h => h.elim)
              have HKP := Lib.hid hkp
              clear hkp hs4 HBE HAR hs hk harr hbel
              go_loopw [21, 22, 207] (fun _ _ i wr => AddR s ⟨Ta, Tb, Tc, Td, Te, Tf, Tg, Th⟩ w gs i wr) (fun _ _ i _ => 8 - (intOf i).toNat)
              case atStart => exact ⟨0, Nat.zero_le _, rfl, HS4.out, HKP.out⟩
              case round =>
                clear HS4 HKP
                obtain ⟨j, hj, rfl, harr, hkp⟩ := hrel
                by_cases hlt : j < 8
                · have hidx := run_idx8 wr ⟨Ta, Tb, Tc, Td, Te, Tf, Tg, Th⟩ j hlt
                  simp only at hidx
                  have hal := addAt_len s.list (S8.list ⟨Ta, Tb, Tc, Td, Te, Tf, Tg, Th⟩) j rfl rfl (by omega)
                  have cj := harr.cell j (by omega)
                  rw [addAt_at _ _ _ rfl rfl hlt] at cj
                  have fj := harr.frozen j
                  have hset := addAt_set s.list (S8.list ⟨Ta, Tb, Tc, Td, Te, Tf, Tg, Th⟩) j rfl rfl hlt
                  have HSET := Lib.hid hset
                  have HARR := Lib.hid harr
                  have hgl := harr.lt
                  clear hset harr hal
                  generalize at_ s.list j = sj at *
                  generalize at_ (S8.list ⟨Ta, Tb, Tc, Td, Te, Tf, Tg, Th⟩) j = tj at *
                  have lj : (0 : Int) ≤ (j : Int) ∧ (j : Int) < 8 := by omega
                  go_wp2_with fail
                  go_still_tail 9, mixed1
                  simp only [w_add]
                  go_wp2_with fail
                  go_roundw
                  case rel =>
                    have hN : AddR s ⟨Ta, Tb, Tc, Td, Te, Tf, Tg, Th⟩ w gs (.int .i64 ((j : Int) + 1)) (({ wr with drawn := wr.drawn + 1 } : World).setCell ⟨gs, j, none⟩ (.int .u32 ((sj + tj).toNat : Int))) := by
                      refine ⟨j + 1, by omega, by congr 1, ?_, ?_⟩
                      · rw [← HSET.out]
                        exact ArrU.set (w := { wr with drawn := wr.drawn + 1 }) HARR.out j (sj + tj)
                      · exact Kept.setCell (p := ⟨gs, j, none⟩) (hkp.drew) (fun _ => rfl) _
                    first
                      | exact hN
                      | ((repeat apply Exists.intro); exact ⟨hN, rfl⟩)
                  case measure => simp [intOf]; omega
                · have hj8 : j = 8 := by omega
                  subst hj8
                  go_wp2_with fail
                  refine bodyPost_end (results_none rfl _ _ _) rfl ?_
                  refine ⟨rfl, ?_, hkp⟩
                  have h8 := harr
                  rw [addAt_all] at h8
                  have : mix ks s b = s.add ⟨Ta, Tb, Tc, Td, Te, Tf, Tg, Th⟩ := by
                    unfold mix
                    rw [← HTT.out]
                  rw [this]
                  exact h8
end W
end Go.Proofs.YthogembgndkmpaaGreatDoor

/- Contract of the reference's table (signetref1.table). -/
namespace Go.Proofs.YthogembgndkmpaaGreatDoor
open Go.RowKit
namespace W
/-- the rounds' constants -/
def ks0 : List UInt32 := [0x428a2f98, 0x71374491, 0xb5c0fbcf, 0xe9b5dba5, 0x3956c25b, 0x59f111f1, 0x923f82a4, 0xab1c5ed5, 0xd807aa98, 0x12835b01, 0x243185be, 0x550c7dc3, 0x72be5d74, 0x80deb1fe, 0x9bdc06a7, 0xc19bf174, 0xe49b69c1, 0xefbe4786, 0x0fc19dc6, 0x240ca1cc, 0x2de92c6f, 0x4a7484aa, 0x5cb0a9dc, 0x76f988da, 0x983e5152, 0xa831c66d, 0xb00327c8, 0xbf597fc7, 0xc6e00bf3, 0xd5a79147, 0x06ca6351, 0x14292967, 0x27b70a85, 0x2e1b2138, 0x4d2c6dfc, 0x53380d13, 0x650a7354, 0x766a0abb, 0x81c2c92e, 0x92722c85, 0xa2bfe8a1, 0xa81a664b, 0xc24b8b70, 0xc76c51a3, 0xd192e819, 0xd6990624, 0xf40e3585, 0x106aa070, 0x19a4c116, 0x1e376c08, 0x2748774c, 0x34b0bcb5, 0x391c0cb3, 0x4ed8aa4a, 0x5b9cca4f, 0x682e6ff3, 0x748f82ee, 0x78a5636f, 0x84c87814, 0x8cc70208, 0x90befffa, 0xa4506ceb, 0xbef9a3f7, 0xc67178f2]
def z64 : Array Value := (List.replicate 64 (Value.int .u32 0)).toArray
theorem ks0_len : ks0.length = 64 := rfl
set_option maxRecDepth 100000 in
set_option maxHeartbeats 20000000 in
theorem TableR (w : World) : Calls Tryz.prog 71 #[] w fun e w' => e = .returned (.agg (ks0.map uv).toArray) ∧ Below w.heap.size w w' := by
  have hz : (w.alloc (.cells z64 100)).heap[w.heap.size]? = some (.cells z64 100 (0, 0)) := heap_alloc_new w _
  have hi64 : (Tryz.prog.info? 100).map (·.size) = some (ks0.map uv).toArray.size := by kernel_rfl
  have hone : (ks0.map uv).toArray.all (·.oneCell') = true := by kernel_rfl
  have hcz : z64.size = (ks0.map uv).toArray.size := by kernel_rfl
  have hb0 : Below w.heap.size w (w.alloc (.cells z64 100)) := (Below.refl _ _).alloc (Nat.le_refl _) _
  have hrb := setRow_heap (w.alloc (.cells z64 100)) w.heap.size _ (ks0.map uv).toArray _ _ hz
  have hb : Below w.heap.size w ((w.alloc (.cells z64 100)).setRow w.heap.size (ks0.map uv).toArray) := hb0.trans ⟨rfl, rfl, rfl, by simp, fun k hk => setRow_other (w.alloc (.cells z64 100)) w.heap.size k _ (by omega)⟩
  have HH := Lib.hid (And.intro hi64 (And.intro hone (And.intro hcz (And.intro hrb (And.intro hb hz)))))
  clear hi64 hone hcz hrb hb0 hb hz
  go_enter Tryz.func71, Tryz.ntmps71
  go_wp2_with (first | (refine wpList_store_row rfl 100 (.tmp 0) (.tmp 1) rfl w.heap.size (ks0.map uv).toArray rfl (by kernel_rfl) 100 z64 HH.out.2.2.2.2.2 HH.out.1 HH.out.2.2.1 HH.out.2.1 ?_))
  refine bodyPost_ret (v := .agg (ks0.map uv).toArray) (results_cell_row rfl _ _ w.heap.size 100 (ks0.map uv).toArray (0, 0) _ rfl HH.out.2.2.2.1 Tryz.underlying100 rfl HH.out.1) rfl ⟨rfl, HH.out.2.2.2.2.1⟩
end W
end Go.Proofs.YthogembgndkmpaaGreatDoor

/- A region that draws its order: what is said of an operation may name the values of those that it waits for (a store into what was allocated). -/
namespace Go.Proofs.YthogembgndkmpaaGreatDoor
open Go.RowKit
/-- the static side, wider: an operation may look at a slot that one writes which waits for it -/
def relAt2 (ops : Array Oper) (i : Nat) (o : Oper) : Bool :=
  (match o.op with | .select _ _ => false | _ => true) &&
  (o.after.all fun e => !Region.binds .any e || decide (e.on < i)) &&
  ((List.range ops.size).all fun j => match dstAt ops j with
    | none => true
    | some d => (j == i || o.dst != some d) && (!(o.looksAt ops).contains d || ((decide (j < i) && o.after.any fun e => e.on == j && Region.binds .any e) || waitsB ops j i)))
def relB2 (ops : Array Oper) : Bool := (List.range ops.size).all fun i => match ops[i]? with
  | none => true
  | some o => relAt2 ops i o
theorem waitsB_elim {ops : Array Oper} {j i : Nat} (h : waitsB ops j i = true) : ∃ o, ops[j]? = some o ∧ ∃ e ∈ o.after, e.on = i ∧ Region.binds .any e = true := by
  unfold waitsB at h
  split at h
  · cases h
  · rename_i o ho
    refine ⟨o, ho, ?_⟩
    rw [Array.any_eq_true] at h
    obtain ⟨x, hx, h9⟩ := h
    simp only [Bool.and_eq_true, beq_iff_eq] at h9
    exact ⟨_, Array.getElem_mem hx, h9.1, h9.2⟩
theorem relB2_spec {ops : Array Oper} (h : relB2 ops = true) {i : Nat} {o : Oper} (hi : ops[i]? = some o) :
    (∀ cs b, o.op ≠ .select cs b) ∧ (∀ e ∈ o.after, Region.binds .any e = true → e.on < i) ∧
    (∀ j d, dstAt ops j = some d → (j ≠ i → o.dst ≠ some d) ∧ (d ∈ o.looksAt ops → (j < i ∧ ∃ e ∈ o.after, e.on = j ∧ Region.binds .any e = true) ∨ waitsB ops j i = true)) := by
  have hlt : i < ops.size := (Array.getElem?_eq_some_iff.1 hi).1
  have h1 := List.all_eq_true.1 h i (List.mem_range.2 hlt)
  rw [hi] at h1
  simp only [relAt2, Bool.and_eq_true] at h1
  obtain ⟨⟨h2, h3⟩, h4⟩ := h1
  refine ⟨?_, ?_, ?_⟩
  · intro cs b he
    rw [he] at h2
    cases h2
  · intro e he hb
    have := (Array.all_eq_true_iff_forall_mem.1 h3) e he
    rw [hb] at this
    simpa using this
  · intro j d hj
    have hjl : j < ops.size := by
      rcases Nat.lt_or_ge j ops.size with g | g
      · exact g
      · unfold dstAt at hj; rw [Array.getElem?_eq_none g] at hj; cases hj
    have h5 := List.all_eq_true.1 h4 j (List.mem_range.2 hjl)
    rw [hj] at h5
    simp only [Bool.and_eq_true, Bool.or_eq_true, beq_iff_eq, bne_iff_ne, ne_eq, Bool.not_eq_true', decide_eq_true_eq] at h5
    obtain ⟨h6, h7⟩ := h5
    refine ⟨fun hne => h6.resolve_left hne, fun hd => ?_⟩
    rcases h7 with h7 | ⟨h7, h8⟩ | h7
    · have : (o.looksAt ops).contains d = true := by simpa using hd
      rw [this] at h7; cases h7
    · refine .inl ⟨h7, ?_⟩
      rw [Array.any_eq_true] at h8
      obtain ⟨x, hx, h9⟩ := h8
      simp only [Bool.and_eq_true, beq_iff_eq] at h9
      exact ⟨_, Array.getElem_mem hx, h9.1, h9.2⟩
    · exact .inr h7
section
variable {P : Program} {ops : Array Oper}
/-- WHATEVER THE ORDER; what is said of an operation may name the values of those that it waits for -/
theorem wp_region_dep {id : Nat} {Q : Exit → Act → World → Prop} {a0 : Act} {w0 : World} (hm : P.follows .mixedOrders = true) (hB : relB2 ops = true)
    (kills : Nat → Nat → Bool) (hkB : killsB ops kills = true) (T : Nat → World → World → Prop) (C : World → Prop) (R : Nat → (Nat → Value) → World → Prop) (hRc : ∀ j vals i v W, i ≠ j → waitsB ops j i = false → R j vals W → R j (fun k => if k = i then v else vals k) W)
    (I0 : World → Prop) (kills0 : Nat → Bool) (hI0 : I0 { w0 with drawn := w0.drawn + 1 }) (hIst : ∀ i W W', kills0 i = false → C W → I0 W → T i W W' → I0 W')
    (hC0 : C { w0 with drawn := w0.drawn + 1 }) (hC : ∀ i W W', C W → T i W W' → C W')
    (hR : ∀ i j v W W', i ≠ j → kills i j = false → waitsB ops j i = false → C W → R j v W → T i W W' → R j v W')
    (step : ∀ i o, ops[i]? = some o → ∀ vals W, C W → (∀ e ∈ o.after, bindD e = true → R e.on vals W) → ((∀ k, k < ops.size → kills0 k = true → k = i ∨ waitsB ops k i = true) → I0 W) →
      opYield P ops o (relAct ops a0 (fun _ => true) vals i) W (fun v W' => T i W W' ∧ R i (fun k => if k = i then v else vals k) W'))
    (hend : ∀ vals W, C W → (∀ j, j < ops.size → (∀ i, i < ops.size → kills i j = false) → R j vals W) → Q .normal (relAct ops a0 (fun _ => true) vals ops.size) W) :
    (Code.region id ops true).wp P Q a0 w0 := by
  have main : ∀ (fuel : Nat) (listed : Array Bool) (vals : Nat → Value) (W : World), listed.size = ops.size → listed.toList.count false ≤ fuel →
      (∀ j o, ops[j]? = some o → listed.getD j false = true → ∀ e ∈ o.after, Region.binds .any e = true → listed.getD e.on false = true) → C W →
      (∀ j, listed.getD j false = true → (∀ i, listed.getD i false = true → kills i j = false) → R j vals W) → ((∀ k, listed.getD k false = true → kills0 k = false) → I0 W) →
      wpAny P .any ops Q fuel listed (relAct ops a0 (fun j => listed.getD j false) vals ops.size) W := by
    intro fuel
    have fin : ∀ (listed : Array Bool) (vals : Nat → Value) (W : World), listed.size = ops.size → Region.ready .any ops listed = [] → C W →
        (∀ j, listed.getD j false = true → (∀ i, listed.getD i false = true → kills i j = false) → R j vals W) → Q .normal (relAct ops a0 (fun j => listed.getD j false) vals ops.size) W := by
      intro listed vals W hs hr hCW hRW
      have all : ∀ n, ∀ j, j < n → j < ops.size → listed.getD j false = true := by
        intro n
        induction n with
        | zero => intro j h; omega
        | succ n ih =>
          intro j hj hlt
          cases hl : listed.getD j false
          · exfalso
            have hop : ops[j]? = some ops[j] := Array.getElem?_eq_getElem hlt
            obtain ⟨_, hb2, _⟩ := relB2_spec hB hop
            have : j ∈ Region.ready .any ops listed := by
              rw [mem_ready]
              refine ⟨?_, ops[j], hop, fun e he hb => ih e.on (by have := hb2 e he hb; omega) (by have := hb2 e he hb; omega)⟩
              have hjs : j < listed.size := by omega
              simp [hjs] at hl ⊢
              exact hl
            rw [hr] at this
            cases this
          · rfl
      have e := relAct_congr (ops := ops) (a0 := a0) (L := fun j => listed.getD j false) (L' := fun _ => true) (vals := vals) (vals' := vals) ops.size (fun j hj => ⟨all (j + 1) j (by omega) hj, fun _ => rfl⟩)
      rw [e]
      refine hend vals W hCW fun j hj hk => hRW j (all (j + 1) j (by omega) hj) fun i hi => ?_
      refine hk i ?_
      rcases Nat.lt_or_ge i ops.size with g | g
      · exact g
      · have : listed.getD i false = false := by simp [Array.getElem?_eq_none (show listed.size ≤ i by omega)]
        rw [this] at hi; cases hi
    induction fuel with
    | zero =>
      intro listed vals W hs hcount hdown hCW hRW hIW
      have hr : Region.ready .any ops listed = [] := by
        rw [List.eq_nil_iff_forall_not_mem]
        intro j hj
        have h0 := (mem_ready.1 hj).1
        obtain ⟨_, o, ho, _⟩ := mem_ready.1 hj
        have hjs : j < listed.size := by have := (Array.getElem?_eq_some_iff.1 ho).1; omega
        have hmem : false ∈ listed.toList := by
          have : listed[j] = false := by simpa [hjs] using h0
          rw [← this]
          simp
        have := List.count_pos_iff.2 hmem
        omega
      exact ⟨hr, fin listed vals W hs hr hCW hRW⟩
    | succ fuel ih =>
      intro listed vals W hs hcount hdown hCW hRW hIW
      refine ⟨fun hr => fin listed vals W hs hr hCW hRW, fun i hi => ?_⟩
      obtain ⟨h0, o, ho, hall⟩ := mem_ready.1 hi
      have hlt : i < ops.size := (Array.getElem?_eq_some_iff.1 ho).1
      have hli : listed.getD i false = false := by simpa [show i < listed.size by omega] using h0
      have hli? : listed[i]? = some false := by
        rw [Array.getElem?_eq_getElem (show i < listed.size by omega)]
        simpa [show i < listed.size by omega] using hli
      obtain ⟨hsel, hb2, hb3⟩ := relB2_spec hB ho
      have hdi : dstAt ops i = o.dst := by unfold dstAt; rw [ho]; rfl
      have notkilled : ∀ e ∈ o.after, bindD e = true → ∀ k, listed.getD k false = true → kills k e.on = false := by
        intro e he hb k hk
        cases hkk : kills k e.on
        · rfl
        · exfalso
          have hkl : k < ops.size := by
            rcases Nat.lt_or_ge k ops.size with g | g
            · exact g
            · have : listed.getD k false = false := by simp [Array.getElem?_eq_none (show listed.size ≤ k by omega)]
              rw [this] at hk; cases hk
          have h1 := List.all_eq_true.1 hkB k (List.mem_range.2 hkl)
          have heo : e.on < ops.size := by have := hb2 e he (bindD_binds hb); omega
          have h2 := List.all_eq_true.1 h1 e.on (List.mem_range.2 heo)
          rw [hkk] at h2
          simp only [Bool.not_true, Bool.false_or] at h2
          have h3 := List.all_eq_true.1 h2 i (List.mem_range.2 hlt)
          rw [ho] at h3
          simp only [Bool.or_eq_true, beq_iff_eq] at h3
          rcases h3 with h3 | h3
          · subst h3; rw [hli] at hk; cases hk
          · have h4 := (Array.all_eq_true_iff_forall_mem.1 h3) e he
            rw [hb] at h4
            simp at h4
      have hst := step i o ho vals W hCW (fun e he hb => hRW e.on (hall e he (bindD_binds hb)) (notkilled e he hb)) (fun hw => hIW fun k hk => by
        cases hkk : kills0 k
        · rfl
        · exfalso
          have hkl : k < ops.size := by
            rcases Nat.lt_or_ge k ops.size with g | g
            · exact g
            · have : listed.getD k false = false := by simp [Array.getElem?_eq_none (show listed.size ≤ k by omega)]
              rw [this] at hk; cases hk
          rcases hw k hkl hkk with rfl | hwt
          · rw [hli] at hk; cases hk
          · unfold waitsB at hwt
            rw [Array.getElem?_eq_getElem hkl] at hwt
            simp only [] at hwt
            rw [Array.any_eq_true] at hwt
            obtain ⟨x, hx, h9⟩ := hwt
            simp only [Bool.and_eq_true, beq_iff_eq] at h9
            have := hdown k _ (Array.getElem?_eq_getElem hkl) hk _ (Array.getElem_mem hx) h9.2
            rw [h9.1, hli] at this
            cases this)
      have hst2 : opYield P ops o (relAct ops a0 (fun j => listed.getD j false) vals ops.size) W (fun v W' => T i W W' ∧ R i (fun k => if k = i then v else vals k) W') := by
        refine opYield_congr hsel ?_ hst
        intro t ht
        by_cases hex : ∃ k, dstAt ops k = some t
        · obtain ⟨k, hk⟩ := hex
          rcases (hb3 k t hk).2 ht with ⟨hki, e, he, heq, hbe⟩ | hkw
          rotate_left
          · obtain ⟨ok, hok, e, he, heq, hbe⟩ := waitsB_elim hkw
            have hik : i < k := by have := (relB2_spec hB hok).2.1 e he hbe; omega
            have hlk : listed.getD k false = false := by
              cases hlk : listed.getD k false
              · rfl
              · have := hdown k ok hok hlk e he hbe
                rw [heq, hli] at this
                cases this
            have hu : ∀ j, dstAt ops j = some t → j = k := by
              intro j hj
              have hjl : j < ops.size := by
                rcases Nat.lt_or_ge j ops.size with g | g
                · exact g
                · unfold dstAt at hj; rw [Array.getElem?_eq_none g] at hj; cases hj
              rcases Nat.lt_trichotomy j k with g | g | g
              · exfalso
                have := ((relB2_spec hB hok).2.2 j t hj).1 (by omega)
                apply this
                unfold dstAt at hk; rw [hok] at hk; exact hk
              · exact g
              · exfalso
                have hjop : ops[j]? = some ops[j] := Array.getElem?_eq_getElem hjl
                have := ((relB2_spec hB hjop).2.2 k t hk).1 (by omega)
                apply this
                unfold dstAt at hj; rw [hjop] at hj; exact hj
            rw [relAct_free i (fun j hj _ h => by have := hu j h; omega), relAct_free ops.size (fun j _ hl h => by
              have := hu j h
              rw [this, hlk] at hl
              cases hl)]
          have hkl : listed.getD k false = true := by rw [← heq]; exact hall e he hbe
          have hu : ∀ j, dstAt ops j = some t → j = k := by
            intro j hj
            rcases Nat.lt_trichotomy j k with g | g | g
            · exfalso
              have hkop : ops[k]? = some ops[k] := Array.getElem?_eq_getElem (by omega)
              have := ((relB2_spec hB hkop).2.2 j t hj).1 (by omega)
              apply this
              unfold dstAt at hk; rw [hkop] at hk; exact hk
            · exact g
            · exfalso
              have hjl : j < ops.size := by
                rcases Nat.lt_or_ge j ops.size with g | g
                · exact g
                · unfold dstAt at hj; rw [Array.getElem?_eq_none g] at hj; cases hj
              have hjop : ops[j]? = some ops[j] := Array.getElem?_eq_getElem hjl
              have := ((relB2_spec hB hjop).2.2 k t hk).1 (by omega)
              apply this
              unfold dstAt at hj; rw [hjop] at hj; exact hj
          rw [relAct_at hk hu i hki rfl, relAct_at hk hu ops.size (by omega) hkl]
        · have hno : ∀ j, dstAt ops j ≠ some t := fun j hj => hex ⟨j, hj⟩
          rw [relAct_free i (fun j _ _ => hno j), relAct_free ops.size (fun j _ _ => hno j)]
      refine wpOp_of_yield ho hst2 fun v W' ⟨hT, hRi⟩ => ?_
      rw [← hdi, put_relAct hli (fun j d hne hj => by
        intro hid
        rw [hdi] at hid
        exact (hb3 j d hj).1 hne hid) ops.size hlt]
      have hget : ∀ j, (listed.setIfInBounds i true).getD j false = if j = i then true else listed.getD j false := by
        intro j
        by_cases e : j = i
        · subst e
          rw [if_pos rfl]
          simp [show j < listed.size by omega]
        · rw [if_neg e]
          have hne : i ≠ j := fun h => e h.symm
          simp only [Array.getD_eq_getD_getElem?, Array.getElem?_setIfInBounds_ne hne]
      have hcg := relAct_congr (ops := ops) (a0 := a0) (L := fun j => if j = i then true else listed.getD j false) (L' := fun j => (listed.setIfInBounds i true).getD j false) (vals := fun j => if j = i then v else vals j) (vals' := fun j => if j = i then v else vals j) ops.size (fun j _ => ⟨(hget j).symm, fun _ => rfl⟩)
      rw [hcg]
      refine ih _ _ W' (by simpa using hs) ?_ ?_ (hC i W W' hCW hT) ?_ ?_
      · have := count_set listed i hli?
        omega
      · intro j oj hj hlj e he hb
        rw [hget]
        by_cases ee : e.on = i
        · rw [if_pos ee]
        · rw [if_neg ee]
          rw [hget] at hlj
          by_cases ej : j = i
          · subst ej
            rw [ho] at hj
            cases hj
            exact hall e he hb
          · rw [if_neg ej] at hlj
            exact hdown j oj hj hlj e he hb
      · intro j hlj hnk
        by_cases ej : j = i
        · subst ej
          exact hRi
        · rw [hget, if_neg ej] at hlj
          have hki := hnk i (by rw [hget, if_pos rfl])
          have hwf : waitsB ops j i = false := by
            cases hwt : waitsB ops j i
            · rfl
            · exfalso
              unfold waitsB at hwt
              cases hjo : ops[j]? with
              | none => rw [hjo] at hwt; cases hwt
              | some oj =>
                rw [hjo] at hwt
                simp only [] at hwt
                rw [Array.any_eq_true] at hwt
                obtain ⟨x, hx, h9⟩ := hwt
                simp only [Bool.and_eq_true, beq_iff_eq] at h9
                have := hdown j oj hjo hlj _ (Array.getElem_mem hx) h9.2
                rw [h9.1, hli] at this
                cases this
          refine hRc j vals i v W' (fun h => ej h.symm) hwf (hR i j _ W W' (fun h => ej h.symm) hki hwf hCW ?_ hT)
          refine hRW j hlj fun k hk => hnk k ?_
          rw [hget]
          split
          · rfl
          · exact hk
      · intro hnk
        have hki0 := hnk i (by rw [hget, if_pos rfl])
        refine hIst i W W' hki0 hCW (hIW fun k hk => hnk k ?_) hT
        rw [hget]
        split
        · rfl
        · exact hk
  refine wp_region_any hm ?_
  have h := main ops.size (Array.replicate ops.size false) (fun _ => undef) { w0 with drawn := w0.drawn + 1 } (by simp) (by simp) (fun j o _ hl => by rw [none_listed] at hl; cases hl) hC0 (fun j hl => by rw [none_listed] at hl; cases hl) (fun _ => hI0)
  have e : relAct ops a0 (fun j => (Array.replicate ops.size false).getD j false) (fun _ => undef) ops.size = a0 := by
    have : ∀ n, relAct ops a0 (fun j => (Array.replicate ops.size false).getD j false) (fun _ => undef) n = a0 := by
      intro n
      induction n with
      | zero => rfl
      | succ n ih =>
        unfold relAct
        rw [ih, if_neg (by rw [none_listed]; exact Bool.false_ne_true)]
    exact this _
  rw [e] at h
  exact h

end
end Go.Proofs.YthogembgndkmpaaGreatDoor
