/-
  Texts merged by a program (Zone1, Zone2, Bytes, Find, Find2, Zone3, Ptr, At, Cnt).
-/
import Derived.Maps.OwnSet
import Derived.Carry
import Derived.Test.YtkeimgamjnpcbaaGreatShelf
import Derived.Lib.BytesEntry
import Derived.Deep.Cut
import Derived.Test.YtkeimgamjnpcbaaGreatPk2
import Derived.Test.YtkeimgamjnpcbaaGreatPk4
set_option linter.unusedSimpArgs false
set_option linter.unusedVariables false
/- Contracts of package zone: canon, key; rdata.Check and Canon at all types but RRSIG, DNSKEY, NSEC3. -/
namespace Go.Proofs.YtkeimgamjnpcbaaGreat
open Go.RowKit
set_option linter.unusedVariables false
namespace Nm
def easyT (t : Int) : Prop := t ≠ 46 ∧ t ≠ 48 ∧ t ≠ 50
theorem CheckE (t : Int) (ht : easyT t) (A : Option Addr) (l : Lab) (cap : Nat) (w : World) (hc : Cs w A (l.map byteV)) (hl : l.length ≤ 100000) (hcap : l.length ≤ cap) (hcap2 : cap ≤ maxLen) :
    Calls Tryz.prog 67 #[.int .u16 t, .slice A l.length cap] w fun e w' => Below w.heap.size w w' ∧ e = .returned (.int .i64 (code50 (chk t l))) := by
  by_cases h6 : t = 6
  · subst h6
    exact Check6 A l cap w hc hl hcap hcap2
  · exact CheckS t A l cap w h6 ht.1 ht.2.1 ht.2.2 hc hl hcap hcap2
theorem CanonE (t : Int) (ht : easyT t) (A : Option Addr) (l : Lab) (cap : Nat) (w : World) (hc : Cs w A (l.map byteV)) (hl : l.length ≤ 100000) (hcap : l.length ≤ cap) (hcap2 : cap ≤ maxLen) :
    Calls Tryz.prog 97 #[.int .u16 t, .slice A l.length cap] w fun e w' =>
      Below w.heap.size w w' ∧ ∃ v, e = .returned (.tuple #[v, .int .i64 (code50 (chk t l))]) ∧ w'.ownsRow w.heap.size 5 1 v (canonR t l).length ((canonR t l).map byteV) := by
  by_cases h6 : t = 6
  · subst h6
    exact Canon6 A l cap w hc hl hcap hcap2
  · by_cases hN : isN t
    · exact CanonN t hN A l cap w hc hl hcap hcap2
    · exact CanonP t (fun h => hN (.inl h)) (fun h => hN (.inr (.inl h))) (fun h => hN (.inr (.inr h))) h6 ht.1 ht.2.1 ht.2.2 A l cap w hc hl hcap hcap2
set_option maxHeartbeats 1000000 in
theorem ZCanon (t : Int) (ht : easyT t) (A : Option Addr) (l : Lab) (cap : Nat) (w : World) (hc : Cs w A (l.map byteV)) (hl : l.length ≤ 100000) (hcap : l.length ≤ cap) (hcap2 : cap ≤ maxLen) :
    Calls Tryz.prog 68 #[.int .u16 t, .slice A l.length cap] w fun e w' =>
      Below w.heap.size w w' ∧ ∃ v, e = .returned v ∧ w'.ownsRow w.heap.size 5 1 v (canonD t l).length ((canonD t l).map byteV) := by
  have HC := Lib.hid (CanonE t ht A l cap w hc hl hcap hcap2)
  have HCl : Hid (∀ W, Below w.heap.size w W → Calls Tryz.prog 74 #[.slice A l.length cap] W fun e w' => ∃ v, e = .returned v ∧ w'.ownsRow W.heap.size 5 1 v l.length (l.map byteV) ∧ Below W.heap.size W w') := Lib.hid fun W hW => CloneB A l cap W (hc.below hW) (by omega)
  cases hk : chk t l with
  | false =>
    have HE : Hid (canonD t l = l) := Lib.hid (by unfold canonD; rw [hk]; rfl)
    rw [hk] at HC
    unfold code50 at HC
    clear hk
    go_enter Tryz.func68, Tryz.ntmps68
    go_wp2_with fail
    refine HC.out.mono ?_
    rintro e w1 ⟨hb1, v, rfl, hown⟩
    go_wp2_with fail
    refine (HCl.out w1 hb1).mono ?_
    rintro e w2 ⟨v2, rfl, hown2, hb2⟩
    have hb12 := hb1.trans (hb2.mono hb1.size)
    have ho := own_base hown2 hb1.size
    clear hown
    go_wp2_with fail
    go_ret
    exact ⟨hb12, _, rfl, by rw [HE.out]; exact ho⟩
  | true =>
    have HE : Hid (canonD t l = canonR t l) := Lib.hid (by unfold canonD canonR; rw [hk]; rfl)
    rw [hk] at HC
    unfold code50 at HC
    clear hk
    go_enter Tryz.func68, Tryz.ntmps68
    go_wp2_with fail
    refine HC.out.mono ?_
    rintro e w1 ⟨hb1, v, rfl, hown⟩
    have HO := Lib.hid hown
    clear hown
    go_wp2_with fail
    go_ret
    exact ⟨hb1, _, rfl, by rw [HE.out]; exact HO.out⟩
/-- a name's key -/
def zkey (n : List Lab) : Lab := wire (lower n)
set_option maxHeartbeats 1000000 in
theorem ZKey (A : Option Addr) (n : List Lab) (cap : Nat) (w : World) (hA : Cs w A (n.map strV)) (hn : Small n) :
    Calls Tryz.prog 71 #[.slice A n.length cap] w fun e w' => e = .returned (strV (zkey n)) ∧ Below w.heap.size w w' := by
  go_enter Tryz.func71, Tryz.ntmps71
  go_wp2_with fail
  refine (Lower A n cap w hA hn.few).mono ?_
  rintro e w1 ⟨v1, rfl, hown1, hb1⟩
  obtain ⟨A1, c1, rfl, _, hcs1⟩ := Cs.of_own hown1
  have hll : (lower n).length = n.length := lower_len n
  have hwi := Wire A1 (lower n) c1 w1 hcs1 hn.lower
  rw [hll] at hwi
  clear hown1
  go_wp2_with fail
  refine hwi.mono ?_
  rintro e w2 ⟨v2, rfl, hown2, hb2⟩
  obtain ⟨A2, c2, rfl, _, hcs2⟩ := Cs.of_own hown2
  have hst := run_str (P := Tryz.prog) w2 Tryz.underlying31 Tryz.underlying5 Tryz.underlying9 c2 hcs2
  have hb12 := hb1.trans (hb2.mono hb1.size)
  clear hown2 hwi hcs2
  go_wp2_with fail
  go_ret
  exact ⟨rfl, hb12⟩
end Nm
end Go.Proofs.YtkeimgamjnpcbaaGreat

/- Contracts of package zone: New. -/
namespace Go.Proofs.YtkeimgamjnpcbaaGreat
open Go.RowKit
set_option linter.unusedVariables false
namespace Nm
/-- an empty zone, as it is made -/
structure Made (w : World) (B z bn bb : Nat) (ap : List Lab) : Prop where
  blk : ∃ A c, w.heap[z]? = some (.cells #[.slice A ap.length c, .map (some bn), .map (some bb), .int .i64 0] 100 (0, 0)) ∧ w.ownsRow B 9 1 (.slice A ap.length c) ap.length (ap.map strV)
  nodes : w.heap[bn]? = some (.map #[] 0)
  below : w.heap[bb]? = some (.map #[] 0)
  h1 : B ≤ bn
  h2 : bn < bb
  h3 : bb < z
set_option maxHeartbeats 1000000 in
theorem ZNew (A : Option Addr) (n : List Lab) (cap : Nat) (w : World) (hA : Cs w A (n.map strV)) (hn : Few n) :
    Calls Tryz.prog 24 #[.slice A n.length cap] w fun e w' => ∃ z bn bb, e = .returned (.pointer (some ⟨z, 0, none⟩)) ∧ Made w' w.heap.size z bn bb (lower n) ∧ Below w.heap.size w w' := by
  have hmm := @run_makeMap Tryz.prog
  have hll := lower_len n
  go_enter Tryz.func24, Tryz.ntmps24
  go_wp2_with fail
  refine (Lower A n cap w hA hn).mono ?_
  rintro e w1 ⟨v1, rfl, hown1, hb1⟩
  obtain ⟨A1, c1, rfl, _, hcs1⟩ := Cs.of_own hown1
  have hz1 := hb1.size
  go_wp2_with fail
  go_ret
  have b1 : Below w1.heap.size w1 (w1.alloc (.map #[] 0)) := (Below.refl _ _).alloc (Nat.le_refl _) _
  have b2 : Below (w1.heap.size + 1) (w1.alloc (.map #[] 0)) ((w1.alloc (.map #[] 0)).alloc (.map #[] 0)) := (Below.refl _ _).alloc (by simp) _
  have m1 : ((w1.alloc (.map #[] 0)).alloc (.map #[] 0)).heap[w1.heap.size]? = some (.map #[] 0) := by
    rw [Below.heap_alloc _ _ _ (by simp)]
    exact heap_alloc_new w1 _
  have m2 : ((w1.alloc (.map #[] 0)).alloc (.map #[] 0)).heap[w1.heap.size + 1]? = some (.map #[] 0) := by
    have := heap_alloc_new (w1.alloc (.map #[] 0)) (.map #[] 0)
    rw [World.size_alloc] at this
    exact this
  have b12 := b1.trans (b2.mono (by omega))
  have hs : ((w1.alloc (.map #[] 0)).alloc (.map #[] 0)).heap.size = w1.heap.size + 2 := by simp
  have o2 := own_below hown1 b12
  generalize (w1.alloc (.map #[] 0)).alloc (.map #[] 0) = w2 at *
  have b3 : Below w2.heap.size w2 (w2.alloc (.cells #[.slice A1 n.length c1, .map (some w1.heap.size), .map (some (w1.heap.size + 1)), .int .i64 0] 100)) := (Below.refl _ _).alloc (Nat.le_refl _) _
  have z3 := heap_alloc_new w2 (.cells #[.slice A1 n.length c1, .map (some w1.heap.size), .map (some (w1.heap.size + 1)), .int .i64 0] 100)
  have o3 := own_below o2 b3
  refine ⟨w2.heap.size, w1.heap.size, w1.heap.size + 1, by rw [hs]; rfl, ⟨⟨A1, c1, ?_, ?_⟩, (b3.block _ (by omega)).trans m1, (b3.block _ (by omega)).trans m2, hz1, by omega, by omega⟩, (hb1.trans (b12.mono hz1)).trans (b3.mono (by omega))⟩
  · rw [hll]; exact z3
  · rw [hll]; exact o3
end Nm
end Go.Proofs.YtkeimgamjnpcbaaGreat

/- Contracts of package bytes: Compare, Equal; the sort of one. -/
namespace Go.Proofs.YtkeimgamjnpcbaaGreat
open Go.RowKit
set_option linter.unusedVariables false
namespace Nm
theorem run_bytesOf {P : Program} (w : World) {A : Option Addr} {l : Lab} (c : Nat) (h : Cs w A (l.map byteV)) : (Extern.Bytes.bytesOf (.slice A l.length c)).run P w = .ok (strB l) w := by
  cases A with
  | none =>
    have : l = [] := by simpa using h.none_nil
    subst this
    rfl
  | some a =>
    have hl := Lib.run_loadBytesX (P := P) w (l.map fun c => (c.toNat : Int)) a .empty (fun j x hj => by
      refine h.cells j _ ?_
      rw [List.getElem?_map] at hj ⊢
      cases hlj : l[j]? with
      | none => rw [hlj] at hj; cases hj
      | some y => rw [hlj] at hj; simp at hj; subst hj; rfl)
    rw [List.length_map] at hl
    show (Extern.Bytes.loadBytes a l.length .empty).run P w = _
    rw [hl]
    congr 1
    apply ByteArray.ext
    simp [strB, Lib.bytesOf]
    conv => rhs; rw [← List.map_id l]
    refine List.map_congr_left fun x _ => ?_
    simp
theorem run_bcompare {P : Program} (w : World) {A B : Option Addr} {l m : Lab} (c d : Nat) (hA : Cs w A (l.map byteV)) (hB : Cs w B (m.map byteV)) :
    (Extern.BytealgCompare.compare #[.slice A l.length c, .slice B m.length d]).run P w = .ok (.int .i64 (Lib.compareBytes l m)) w := by
  change Sem.run P (do pure (goInt (Extern.BytealgCompare.cmp (← Extern.Bytes.bytesOf (.slice A l.length c)) (← Extern.Bytes.bytesOf (.slice B m.length d))))) w = _
  simp only [Sem.run_bind, run_bytesOf w c hA, run_bytesOf w d hB, Sem.run_pure, Result.andThen]
  rw [Lib.cmp_eq]
  simp [strB, goInt]
set_option maxHeartbeats 1000000 in
theorem BCompare (A B : Option Addr) (l m : Lab) (c d : Nat) (w : World) (hA : Cs w A (l.map byteV)) (hB : Cs w B (m.map byteV)) :
    Calls Tryz.prog 99 #[.slice A l.length c, .slice B m.length d] w fun e w' => e = .returned (.int .i64 (Lib.compareBytes l m)) ∧ w = w' := by
  have hx : (callFunc 133 #[.slice A l.length c, .slice B m.length d]).run Tryz.prog w = .ok (.value (.int .i64 (Lib.compareBytes l m))) w := by
    rw [run_callFunc_extern Tryz.func133 (by kernel_rfl) (by kernel_rfl) (by kernel_rfl) (e := Extern.BytealgCompare.compare) (by kernel_rfl), run_bcompare w c d hA hB]
    rfl
  go_enter Tryz.func99, Tryz.ntmps99
  go_wp2_with fail
  go_ret
  exact ⟨rfl, rfl⟩
theorem BEqual (A B : Option Addr) (l m : Lab) (c d : Nat) (w : World) (hA : Cs w A (l.map byteV)) (hB : Cs w B (m.map byteV)) :
    Calls Tryz.prog 101 #[.slice A l.length c, .slice B m.length d] w fun e w' => e = .returned (.bool (decide (l = m))) ∧ w = w' := by
  have h1 := run_str (P := Tryz.prog) w Tryz.underlying31 Tryz.underlying5 Tryz.underlying9 c hA
  have h2 := run_str (P := Tryz.prog) w Tryz.underlying31 Tryz.underlying5 Tryz.underlying9 d hB
  go_enter Tryz.func101, Tryz.ntmps101
  go_wp2_with fail
  go_ret
  exact ⟨ret_bool (by rw [Bool.eq_iff_iff]; simp), rfl⟩
end Nm
end Go.Proofs.YtkeimgamjnpcbaaGreat

/- Contracts of package zone: how a datum is sought. -/
namespace Go.Proofs.YtkeimgamjnpcbaaGreat
open Go.RowKit
set_option linter.unusedVariables false
namespace Nm
set_option maxHeartbeats 1000000 in
theorem find1 (x y : Blob) (B : Option Addr) (m : Lab) (d : Nat) (w : World) (hy : y.ok w) (hB : Cs w B (m.map byteV)) :
    Calls Tryz.prog 112 #[.agg #[x.v, y.v], .slice B m.length d] w fun e w' => e = .returned (.int .i64 (Lib.compareBytes y.l m)) ∧ Below w.heap.size w w' := by
  unfold Blob.v
  have hb1 : Below w.heap.size w (w.alloc (.cells #[.slice x.A x.l.length x.cap, .slice y.A y.l.length y.cap] 119)) := (Below.refl _ _).alloc (Nat.le_refl _) _
  have HC := Lib.hid (BCompare y.A B y.l m y.cap d (w.alloc (.cells #[.slice x.A x.l.length x.cap, .slice y.A y.l.length y.cap] 119)) (Cs.below hy hb1) (hB.below hb1))
  go_enter Tryz.func112, Tryz.ntmps112
  go_wp2_with fail
  refine HC.out.mono ?_
  rintro e w2 ⟨rfl, rfl⟩
  go_wp2_with fail
  go_ret
  exact ⟨rfl, hb1⟩
/-- data, cell by cell -/
def datC (ds : List (Blob × Blob)) : List Value := ds.flatMap fun d => [d.1.v, d.2.v]
theorem datC_get : ∀ (ds : List (Blob × Blob)) (i : Nat) (h : i < ds.length), (datC ds)[i * 2]? = some ds[i].1.v ∧ (datC ds)[i * 2 + 1]? = some ds[i].2.v
  | d :: ds, 0, _ => ⟨rfl, rfl⟩
  | d :: ds, i + 1, h => by
    have := datC_get ds i (by simpa using h)
    have e : datC (d :: ds) = d.1.v :: d.2.v :: datC ds := rfl
    rw [e, show (i + 1) * 2 = i * 2 + 2 by omega]
    simpa using this
def DatOk (w : World) (ds : List (Blob × Blob)) : Prop := ∀ d ∈ ds, d.1.ok w ∧ d.2.ok w
/-- where the first datum stands that is not ahead of it -/
def FindAt (ds : List (Blob × Blob)) (m : Lab) (p : Nat) : Prop := p ≤ ds.length ∧ (∀ j (h : j < ds.length), j < p → Lib.compareBytes ds[j].2.l m < 0) ∧ (∀ j (h : j < ds.length), p ≤ j → ¬ Lib.compareBytes ds[j].2.l m < 0)
def FindR (ds : List (Blob × Blob)) (p : Nat) (w : World) (lo hi x : Value) (wr : World) : Prop :=
  ∃ a b : Nat, a ≤ p ∧ p ≤ b ∧ b ≤ ds.length ∧ lo = .int .i64 a ∧ hi = .int .i64 b ∧ Below w.heap.size w wr
end Nm
end Go.Proofs.YtkeimgamjnpcbaaGreat

/- Contracts of package zone: the search (NOT DONE). -/
namespace Go.Proofs.YtkeimgamjnpcbaaGreat
open Go.RowKit
set_option linter.unusedVariables false
namespace Nm
set_option maxRecDepth 100000 in
set_option maxHeartbeats 4000000 in
theorem Search (A B : Option Addr) (ds : List (Blob × Blob)) (cap : Nat) (m : Lab) (d p : Nat) (w : World) (hA : Cs w A (datC ds)) (hd : DatOk w ds) (hB : Cs w B (m.map byteV)) (hn : ds.length ≤ 1000000) (hp : FindAt ds m p) :
    Calls Tryz.prog 111 #[.slice A ds.length cap, .slice B m.length d, .func (.func 112) #[] #[]] w fun e w' =>
      e = .returned (.tuple #[.int .i64 p, .bool (decide (p < ds.length) && decide (Lib.compareBytes (ds.getD p default).2.l m = 0))]) ∧ Below w.heap.size w w' := by
  go_enter Tryz.func111, Tryz.ntmps111
  go_wp2_with fail
  go_loopw [9, 10, 11] (FindR ds p w) (fun lo hi _ _ => (intOf hi).toNat - (intOf lo).toNat)
  case atStart => exact ⟨0, ds.length, by omega, hp.1, Nat.le_refl _, rfl, rfl, Below.refl _ _⟩
  case round =>
    obtain ⟨a, b, h1, h2, h3, rfl, rfl, hbel⟩ := hrel
    by_cases hlt : a < b
    · go_upto_region 5 with fail
      obtain ⟨h, hh⟩ : ∃ h : Nat, h = (a + b) / 2 := ⟨_, rfl⟩
      have hhi : ((a : Int) + b) / 2 = h := by omega
      have hhl : h < ds.length := by omega
      rw [hhi]
      obtain ⟨g1, g2⟩ := datC_get ds h hhl
      obtain ⟨bk, off, rfl, hbk, hc0⟩ := hA _ _ g1
      obtain ⟨_, _, e9, _, hc1⟩ := hA _ _ g2
      cases e9
      have q0 := (hbel.cell (p := ⟨bk, off + h * 2, none⟩) hbk).trans hc0
      have q1 := (hbel.cell (p := ⟨bk, off + (h * 2 + 1), none⟩) hbk).trans hc1
      rw [← Nat.add_assoc] at q1
      have hok := hd ds[h] (List.getElem_mem hhl)
      have HF := Lib.hid (find1 ds[h].1 ds[h].2 B m d wr (Cs.below hok.2 hbel) (hB.below hbel))
      have HP1 := Lib.hid (hp.2.1 h hhl)
      have HP2 := Lib.hid (hp.2.2 h hhl)
      generalize ds[h] = x at *
      obtain ⟨x1, x2⟩ := x
      unfold Blob.v at q0 q1 HF
      simp only at q0 q1 HF HP1 HP2
      have hah : a ≤ h := by omega
      have hhb : h < b := by omega
      clear g1 g2 hc0 hc1 hhi hok hh
      go_wp2_with fail
      refine HF.out.mono ?_
      rintro e w2 ⟨rfl, hb2⟩
      have hbw := hbel.trans (hb2.mono hbel.size)
      generalize Lib.compareBytes x2.l m = cmp at *
      by_cases hneg : cmp < 0
      · have hhp : h + 1 ≤ p := by
          rcases Nat.lt_or_ge h p with g | g
          · exact g
          · have := HP2.out g; omega
        have hdec : decide (cmp < 0) = true := decide_eq_true hneg
        go_wp2_with fail
        exact ⟨⟨h + 1, b, hhp, h2, h3, by go_num, rfl, hbw⟩, by simp [intOf]; omega⟩
      · have hhp : p ≤ h := by
          rcases Nat.lt_or_ge h p with g | g
          · have := HP1.out g; omega
          · exact g
        have hdec : decide (cmp < 0) = false := decide_eq_false hneg
        go_wp2_with fail
        exact ⟨⟨a, h, h1, hhp, by omega, rfl, rfl, hbw⟩, by simp [intOf]; omega⟩
    · have hap : a = p := by omega
      have hbp : b = p := by omega
      subst hap
      subst hbp
      by_cases hpl : b < ds.length
      · obtain ⟨g1, g2⟩ := datC_get ds b hpl
        obtain ⟨bk, off, rfl, hbk, hc0⟩ := hA _ _ g1
        obtain ⟨_, _, e9, _, hc1⟩ := hA _ _ g2
        cases e9
        have q0 := (hbel.cell (p := ⟨bk, off + b * 2, none⟩) hbk).trans hc0
        have q1 := (hbel.cell (p := ⟨bk, off + (b * 2 + 1), none⟩) hbk).trans hc1
        rw [← Nat.add_assoc] at q1
        have hok := hd ds[b] (List.getElem_mem hpl)
        have hgd : ds.getD b default = ds[b] := by simp [List.getD, hpl]
        have HG := Lib.hid (congrArg (fun x : Blob × Blob => Lib.compareBytes x.2.l m) hgd)
        clear hgd
        have HF := Lib.hid (find1 ds[b].1 ds[b].2 B m d wr (Cs.below hok.2 hbel) (hB.below hbel))
        generalize ds[b] = x at *
        obtain ⟨x1, x2⟩ := x
        unfold Blob.v at q0 q1 HF
        simp only at q0 q1 HF
        clear g1 g2 hc0 hc1 hok hp hd
        generalize Lib.compareBytes x2.l m = cmp at *
        have hdl : decide (b < ds.length) = true := decide_eq_true hpl
        go_wp2_with fail
        refine HF.out.mono ?_
        rintro e w2 ⟨rfl, hb2⟩
        have hbw := hbel.trans (hb2.mono hbel.size)
        go_wp2_with fail
        go_ret2
        have hg : Lib.compareBytes (ds.getD b default).2.l m = cmp := HG.out
        refine ⟨?_, hbw⟩
        rw [hg]
        simp [hpl]
        rw [Bool.eq_iff_iff]; simp
      · have hdl : decide (b < ds.length) = false := decide_eq_false hpl
        clear hp hd
        go_wp2_with fail
        go_ret2
        refine ⟨?_, hbel⟩
        rw [hdl]
        simp
end Nm
end Go.Proofs.YtkeimgamjnpcbaaGreat

/- Contracts of package zone: find. -/
namespace Go.Proofs.YtkeimgamjnpcbaaGreat
open Go.RowKit
set_option linter.unusedVariables false
namespace Nm
def hitB (ds : List (Blob × Blob)) (m : Lab) (p : Nat) : Bool := decide (p < ds.length) && decide (Lib.compareBytes (ds.getD p default).2.l m = 0)
set_option maxHeartbeats 1000000 in
theorem ZFind (s : Nat) (A B : Option Addr) (ds : List (Blob × Blob)) (cap : Nat) (m : Lab) (d p : Nat) (w : World) (hs : w.cell? ⟨s, 1, none⟩ = some (.slice A ds.length cap)) (hA : Cs w A (datC ds)) (hd : DatOk w ds) (hB : Cs w B (m.map byteV)) (hn : ds.length ≤ 1000000) (hp : FindAt ds m p) :
    Calls Tryz.prog 70 #[.pointer (some ⟨s, 0, none⟩), .slice B m.length d] w fun e w' => e = .returned (.tuple #[.int .i64 p, .bool (hitB ds m p)]) ∧ Below w.heap.size w w' := by
  have HS := Lib.hid (Search A B ds cap m d p w hA hd hB hn hp)
  unfold hitB
  clear hA hd hB hp
  go_enter Tryz.func70, Tryz.ntmps70
  go_wp2_with fail
  refine HS.out.mono ?_
  rintro e w2 ⟨rfl, hb⟩
  go_wp2_with fail
  go_ret2
  exact ⟨rfl, hb⟩
end Nm
end Go.Proofs.YtkeimgamjnpcbaaGreat

/- Maps whose elements are pointers, or whole numbers: what a lookup hands over. -/
namespace Go.Proofs.YtkeimgamjnpcbaaGreat
open Go.RowKit
set_option linter.unusedVariables false
namespace Nm
/-- a pointer to a block's begin, as a number -/
def ptrR (v : Value) : Option (DataW Unit × List MemPlace) := match v with
  | .pointer none => some (.nil, [])
  | .pointer (some ⟨b, 0, none⟩) => some (.lit (.int .i64 (b : Int)), [])
  | _ => none
theorem ptrR_nil : ptrR (.pointer none) = some (.nil, []) := rfl
theorem ptrR_at (b : Nat) : ptrR (.pointer (some ⟨b, 0, none⟩)) = some (.lit (.int .i64 (b : Int)), []) := rfl
theorem ptrR_inv {v : Value} {z : DataW Unit × List MemPlace} (h : ptrR v = some z) : (v = .pointer none ∧ z.1 = .nil) ∨ ∃ b : Nat, v = .pointer (some ⟨b, 0, none⟩) ∧ z.1 = .lit (.int .i64 (b : Int)) := by
  unfold ptrR at h
  split at h
  · cases h; exact .inl ⟨rfl, rfl⟩
  · cases h; exact .inr ⟨_, rfl, rfl⟩
  · cases h
def ptrD : Option Nat → DataW Unit
  | none => .nil
  | some b => .lit (.int .i64 (b : Int))
def ptrV : Option Nat → Value
  | none => .pointer none
  | some b => .pointer (some ⟨b, 0, none⟩)
theorem ptr_of {v : Value} {o : Option Nat} {ps : List MemPlace} (h : ptrR v = some (ptrD o, ps)) : v = ptrV o := by
  rcases ptrR_inv h with ⟨rfl, hz⟩ | ⟨b, rfl, hz⟩
  · cases o with
    | none => rfl
    | some b => cases hz
  · cases o with
    | none => cases hz
    | some c =>
      simp only [ptrD] at hz
      injection hz with hz
      injection hz with _ hz
      have : c = b := by omega
      rw [this]; rfl
theorem look_ptr {w : World} {P : Program} {k t e : TypeId} {b n : Nat} {D : DataW Unit} (h : w.ownsMap P k ptrR b n D) (K : Maps.Keyed P k) (ht : P.underlying t = some (.map k e)) (hz : (zeroValue e).run P w = .ok (.pointer none) w) {key : Value} {kl : Lit} (hkey : keyOf P k key = some kl)
    {o : Option Nat} (ho : D.atKey kl .nil = ptrD o) : (Instr.lookup t (.map (some b)) key false).run P w = .ok (ptrV o) w := by
  obtain ⟨v, ps, hrun, hv⟩ := h.lookup K ht hz ptrR_nil hkey
  rw [ho] at hv
  rw [hrun, ptr_of hv]
end Nm
end Go.Proofs.YtkeimgamjnpcbaaGreat

/- Contracts of package zone: at. -/
namespace Go.Proofs.YtkeimgamjnpcbaaGreat
open Go.RowKit
set_option linter.unusedVariables false
namespace Nm
theorem keyS : Maps.Keyed Tryz.prog 9 := Maps.string_keyed Tryz.underlying9
theorem keyT : Maps.Keyed Tryz.prog 24 := Maps.int_keyed Tryz.underlying24
theorem keyOf_str (l : Lab) (h : l.length ≤ maxLen) : keyOf Tryz.prog 9 (strV l) = some (.string l) := by
  have hs : (strB l).size ≤ maxLen := by rw [strB_size]; exact h
  have hd := strB_data l
  unfold strV
  simp only [keyOf, Tryz.underlying9, mapKey, if_pos hs, hd]
theorem keyOf_u16 (t : Int) (h : (Lit.int .u16 t).wf = true) : keyOf Tryz.prog 24 (.int .u16 t) = some (.int .u16 t) := by
  simp only [keyOf, Tryz.underlying24, mapKey, h]
  simp
theorem zkey_len {n : List Lab} (h : Small n) : (zkey n).length ≤ maxLen := by
  have := wire_len_few h.lower
  unfold zkey maxLen
  omega
def atO (o : Option Nat) (o2 : Option Nat) : Option Nat := match o with | none => none | some _ => o2
set_option maxRecDepth 100000 in
set_option maxHeartbeats 10000000 in
theorem ZAt (z bn : Nat) (A : Option Addr) (n : List Lab) (cap : Nat) (t : Int) (N N2 : Nat) (D D2 : DataW Unit) (o o2 : Option Nat) (w : World) (hz : w.cell? ⟨z, 1, none⟩ = some (.map (some bn))) (hzl : z < w.heap.size)
    (hbn : w.ownsMap Tryz.prog 9 ptrR bn N D) (hA : Cs w A (n.map strV)) (hn : Small n) (hwt : (Lit.int .u16 t).wf = true) (ho : D.atKey (.string (zkey n)) .nil = ptrD o)
    (ho2 : ∀ x, o = some x → x < w.heap.size ∧ ∃ bs, w.cell? ⟨x, 1, none⟩ = some (.map (some bs)) ∧ w.ownsMap Tryz.prog 24 ptrR bs N2 D2 ∧ D2.atKey (.int .u16 t) .nil = ptrD o2) :
    Calls Tryz.prog 69 #[.pointer (some ⟨z, 0, none⟩), .slice A n.length cap, .int .u16 t] w fun e w' => e = .returned (ptrV (atO o o2)) ∧ Below w.heap.size w w' := by
  have HK : Hid (∀ W, Below w.heap.size w W → Calls Tryz.prog 71 #[.slice A n.length cap] W fun e w' => e = .returned (strV (zkey n)) ∧ Below W.heap.size W w') := Lib.hid fun W hW => ZKey A n cap W (hA.below hW) hn
  have hlk : ∀ W, Below w.heap.size w W → (Instr.lookup 97 (.map (some bn)) (strV (zkey n)) false).run Tryz.prog W = .ok (ptrV o) W := fun W hW =>
    look_ptr (hbn.kept (row := none) ⟨hW.os, hW.tape, hW.output, hW.size, fun k hk _ => hW.block k hk⟩ (by simp)) keyS Tryz.underlying97 rfl (keyOf_str _ (zkey_len hn)) ho
  have HL := Lib.hid hlk
  clear hlk hbn hA ho
  go_enter Tryz.func69, Tryz.ntmps69
  go_wp2_with fail
  refine wp_region_mono mixed0 (by kernel_rfl) [.is (.pointer (some ⟨z, 0, none⟩)), .is (.pointer (some ⟨z, 0, none⟩)), .is (.pointer (some ⟨z, 1, none⟩)), .is (.map (some bn)), .is (.slice A n.length cap), .is (strV (zkey n)), .is (ptrV o), .is (ptrV o)] rfl ?_ ?_
  · intro i q hio vals W hE haf
    have e1 := (bcl (o := 1) hE hzl).trans hz
    have hl := HL.out W hE
    rcases i with _ | _ | _ | _ | _ | _ | _ | _ | i
    all_goals first
      | (exfalso; simp at hio; done)
      | (simp at hio; subst hio; simp [bindD, rdB, Region.binds, factAt] at haf; simp [opYield_def, yieldUpon, relAct, dstAt, Act.put, Region.wanted, go_sem, haf, e1, hl, Ext.refl, factAt]; done)
      | skip
    all_goals
      simp at hio
      subst hio
      simp [bindD, rdB, Region.binds, factAt] at haf
    · simp [opYield_def, yieldUpon, relAct, dstAt, Act.put, Region.wanted, go_sem, haf, factAt]
      refine (HK.out W hE).mono fun e W' h => ?_
      exact ⟨h.1, h.2⟩
  · intro vals W hE hF
    simp only [facts] at hF
    obtain ⟨_, _, _, _, _, _, _, h7, _⟩ := hF
    have e7 : vals 7 = ptrV o := h7
    simp [relAct, dstAt, Act.put]
    rw [e7]
    clear e7 h7
    cases o with
    | none =>
      clear ho2
      rw [show ptrV none = .pointer none from rfl]
      go_wp2_with fail
      go_ret
      exact ⟨rfl, hE⟩
    | some x =>
      obtain ⟨hxl, bs, hx1, hbs, hat⟩ := ho2 x rfl
      have q1 := (bcl (o := 1) hE hxl).trans hx1
      have hl2 : (Instr.lookup 113 (.map (some bs)) (.int .u16 t) false).run Tryz.prog W = .ok (ptrV o2) W :=
        look_ptr (hbs.kept (row := none) ⟨hE.os, hE.tape, hE.output, hE.size, fun k hk _ => hE.block k hk⟩ (by simp)) keyT Tryz.underlying113 rfl (keyOf_u16 t hwt) hat
      clear ho2 hbs hat hx1
      have HP : ptrV (some x) = .pointer (some ⟨x, 0, none⟩) := rfl
      rw [HP]
      go_wp2_with fail
      go_ret
      exact ⟨rfl, hE⟩
end Nm
end Go.Proofs.YtkeimgamjnpcbaaGreat

/- How many names stand at a name, or below it: plain Lean. -/
namespace Go.Proofs.YtkeimgamjnpcbaaGreat
open Go.RowKit
set_option linter.unusedVariables false
namespace Nm
/-- a map of whole numbers, as a function -/
def Seen (E : DataW Unit) (f : Lab → Int) : Prop := ∀ m, E.atKey (.string m) (.lit (.int .i64 0)) = .lit (.int .i64 (f m))
theorem seen_empty : Seen (.map []) (fun _ => 0) := fun _ => rfl
theorem key_lit (k : Lab) : WideAt.IsKeyLit (.string k) := by first | exact trivial | (simp [WideAt.IsKeyLit])
theorem Seen.put {E : DataW Unit} {f : Lab → Int} (h : Seen E f) (hE : Maps.IsMap E) (k : Lab) (b : Int) : Seen (E.put (.string k) (.lit (.int .i64 b))) (fun m => if m = k then b else f m) := by
  intro m
  by_cases hm : m = k
  · subst hm
    rw [Maps.atKey_put_same hE (key_lit m)]
    simp
  · rw [Maps.atKey_put_other (fun e => hm (by injection e)), h m]
    simp [hm]
theorem Seen.del {E : DataW Unit} {f : Lab → Int} (h : Seen E f) (k : Lab) (h0 : f k = 0) : Seen (E.del (.string k)) f := by
  intro m
  by_cases hm : m = k
  · subst hm
    rw [Maps.atKey_del_same, h0]
  · rw [Maps.atKey_del_other (fun e => hm (by injection e)), h m]
/-- how often a key is met from a name up -/
def occ (n : List Lab) : Nat → Lab → Int
  | 0, _ => 0
  | j + 1, m => occ n j m + if m = zkey (n.drop j) then 1 else 0
theorem occ_le (n : List Lab) : ∀ j m, 0 ≤ occ n j m ∧ occ n j m ≤ j
  | 0, m => ⟨Int.le_refl _, Int.le_refl _⟩
  | j + 1, m => by
    have := occ_le n j m
    unfold occ
    split <;> omega
theorem occ_pos (n : List Lab) : ∀ j i m, i < j → m = zkey (n.drop i) → 0 < occ n j m
  | 0, i, m, h, _ => absurd h (by omega)
  | j + 1, i, m, h, hm => by
    have h0 := (occ_le n j m).1
    unfold occ
    by_cases he : i = j
    · subst he; rw [if_pos hm]; omega
    · have := occ_pos n j i m (by omega) hm
      split <;> omega
def cnt (f : Lab → Int) (n : List Lab) (d : Int) (j : Nat) : Lab → Int := fun m => f m + d * occ n j m
theorem cnt_step (f : Lab → Int) (n : List Lab) (d : Int) (j : Nat) : (fun m => if m = zkey (n.drop j) then cnt f n d j (zkey (n.drop j)) + d else cnt f n d j m) = cnt f n d (j + 1) := by
  funext m
  unfold cnt
  rw [show occ n (j + 1) m = occ n j m + if m = zkey (n.drop j) then 1 else 0 from rfl]
  by_cases hm : m = zkey (n.drop j)
  · rw [if_pos hm, if_pos hm, ← hm, Int.mul_add]; omega
  · rw [if_neg hm, if_neg hm, Int.add_zero]
theorem cnt_zero (f : Lab → Int) (n : List Lab) (d : Int) : cnt f n d 0 = f := by
  funext m
  show f m + d * 0 = f m
  omega
theorem cnt_back (f : Lab → Int) (n : List Lab) (j : Nat) : cnt (cnt f n 1 j) n (-1) j = f := by
  funext m
  unfold cnt
  omega
theorem cnt_le {f : Lab → Int} {n : List Lab} {d : Int} (hd : d = 1 ∨ d = -1) {C : Int} {m : Lab} (hf : -C ≤ f m ∧ f m ≤ C) (j : Nat) : -(C + j) ≤ cnt f n d j m ∧ cnt f n d j m ≤ C + j := by
  have := occ_le n j m
  unfold cnt
  rcases hd with rfl | rfl <;> omega
end Nm
end Go.Proofs.YtkeimgamjnpcbaaGreat
