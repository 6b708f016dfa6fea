/-
  Texts merged by a program (Data, CanE, RCan, RSigB, InsM, KeyB, Msg, Msg2).
-/
import Derived.Test.YthogembgndkmpaaGreatDoorHk3
import Derived.Test.YthogembgndkmpaaGreatDoorHk4
import Derived.Test.YthogembgndkmpaaGreatDoorHk6
import Derived.Test.YthogembgndkmpaaGreatDoorHk9
set_option linter.unusedSimpArgs false
set_option linter.unusedVariables false
/- Contracts of package canon: data, of any set: sorted, each told once. -/
namespace Go.Proofs.YthogembgndkmpaaGreatDoor
open Go.RowKit
namespace Nm
/-- data as it is signed: at 48 and 50 as it is -/
def canX (t : Int) (b : Lab) : Lab := if t = 48 ∨ t = 50 then b else canonD t b
/-- what data asks of Canon at a type -/
def CanonC (t : Int) : Prop := ∀ (A : Option Addr) (l : Lab) (cap : Nat) (w : World), Cs w A (l.map byteV) → l.length ≤ 100000 → l.length ≤ cap → cap ≤ maxLen →
  Calls Tryz.prog 63 #[.int .u16 t, .slice A l.length cap] w fun e w' => Below w.heap.size w w' ∧ ∃ v k, e = .returned (.tuple #[v, .int .i64 k]) ∧ (k = 0 ∧ w'.ownsRow w.heap.size 5 1 v (canX t l).length ((canX t l).map byteV) ∨ k ≠ 0 ∧ canX t l = l)
def DatR (t : Int) (ds : List Blob) (w : World) (vi vo : Value) (W : World) : Prop := ∃ (k : Nat) (ys : List Blob), k ≤ ds.length ∧ vi = .int .i64 k ∧ ys.length = k ∧ ys.map (·.l) = (ds.take k).map (fun d => canX t d.l) ∧ W.ownsRow w.heap.size 28 1 vo k (ys.map Blob.v) ∧ (∀ y ∈ ys, y.ok W ∧ ∀ a, y.A = some a → y.l.map byteV ≠ [] → ¬ some a.block = vo.ownBlock) ∧ Below w.heap.size w W
theorem info_bytesD : (Tryz.prog.info? 28).map (fun i => (i.zero, i.size, i.bytes)) = some (some (.slice none 0 0), 1, 24) := by kernel_rfl
theorem own_formD {w : World} {B : Nat} {e : TypeId} {size : Nat} {v : Value} {n : Nat} {xs : List Value} (h : w.ownsRow B e size v n xs) : ∃ A c, v = .slice A n c := by
  rcases h.2 with ⟨rfl, rfl⟩ | ⟨g, cap, cur, rfl, hg, hh, hc1, hc2, _⟩
  · exact ⟨none, 0, rfl⟩
  · exact ⟨_, cap, rfl⟩
/-- a row of slices of bytes, as the sort wants it -/
theorem rowM_of {w : World} {B n : Nat} {v : Value} {ys : List Blob} (h : w.ownsRow B 28 1 v n (ys.map Blob.v)) (hn : ys.length = n) (h0 : ys ≠ []) : ∃ g cap, v = .slice (some ⟨g, 0, none⟩) n cap ∧ n ≤ cap ∧ B ≤ g ∧ g < w.heap.size ∧ RowM w g n [] ys 0 := by
  rcases h.2 with ⟨_, hx⟩ | ⟨g, cap, cur, rfl, hg, hh, hc1, hc2, hsz, htake⟩
  · subst hx
    exact absurd (List.length_eq_zero_iff.1 hn) h0
  · refine ⟨g, cap, rfl, hc1, hg, lt_block hh, (fun i b hb => by simp at hb), (fun i b _ hb => ?_), cur, hh, by omega⟩
    rw [cell_of_row w g i _ _ _ hh]
    have hi := (List.getElem?_eq_some_iff.1 hb).1
    have h1 : (ys.map Blob.v)[i]? = some b.v := by rw [List.getElem?_map, hb]; rfl
    rw [← htake, List.getElem?_take] at h1
    split at h1
    · simpa using h1
    · cases h1
theorem RowM.rowB {w : World} {g n : Nat} {ys : List Blob} (h : RowM w g n [] ys 0) : RowB w g ys := fun i b hb => ⟨h.hi i b (Nat.zero_le _) hb, h.frozen i⟩
theorem RowB.rowM {w : World} {g n : Nat} {ys : List Blob} (h : RowB w g ys) (hc : ∃ cs, w.heap[g]? = some (.cells cs 28 (0, 0)) ∧ n ≤ cs.size) : RowM w g n [] ys 0 := ⟨(fun i b hb => by simp at hb), fun i b _ hb => (h i b hb).1, hc⟩
theorem Comp0 (A : Option Addr) (cap : Nat) (f : Value) (w : World) : Calls Tryz.prog 66 #[.slice A 0 cap, f] w fun e w' => e = .returned (.slice A 0 cap) ∧ w = w' := by
  go_enter Tryz.func66, Tryz.ntmps66
  go_wp2_with fail
  go_ret
  exact ⟨rfl, rfl⟩
set_option maxRecDepth 100000 in
set_option maxHeartbeats 20000000 in
theorem DataG (t ttl : Int) (hC : CanonC t) (A D : Option Addr) (n cap dcap : Nat) (ds : List Blob) (w : World) (hD : Cs w D (ds.map Blob.v)) (hds : Blobs w ds) (hlen : ds.length ≤ 1000) (hcap : ∀ d ∈ ds, d.l.length ≤ 100000 ∧ d.l.length ≤ d.cap ∧ d.cap ≤ maxLen) :
    Calls Tryz.prog 45 #[.agg #[.slice A n cap, .int .u16 t, .int .u32 ttl, .slice D ds.length dcap]] w fun e w' =>
      ∃ (A' : Option Addr) (xs : List Blob) (c : Nat), e = .returned (.slice A' xs.length c) ∧ Cs w' A' (xs.map Blob.v) ∧ Blobs w' xs ∧ Told (ds.map fun d => canX t d.l) (xs.map (·.l)) ∧ Below w.heap.size w w' := by
  obtain ⟨i0, hi, hi0, hi1, hi2⟩ := info_parts info_bytesD
  have HC := Lib.hid hC
  have HD := Lib.hid hD
  have HDs := Lib.hid hds
  have HCap := Lib.hid hcap
  generalize hw1 : w.alloc (.cells #[.slice A n cap, .int .u16 t, .int .u32 ttl, .slice D ds.length dcap] 34) = w1
  have hb1 : Below w.heap.size w w1 := by rw [← hw1]; exact (Below.refl _ _).alloc (Nat.le_refl _) _
  have hz1 : w1.heap.size = w.heap.size + 1 := by rw [← hw1]; simp
  have q1 : w1.heap[w.heap.size]? = some (.cells #[.slice A n cap, .int .u16 t, .int .u32 ttl, .slice D ds.length dcap] 34 (0, 0)) := by rw [← hw1]; exact heap_alloc_new w _
  have s1 : w1.cell? ⟨w.heap.size, 1, none⟩ = some (.int .u16 t) := by rw [cell_of_row _ _ 1 _ _ _ q1]; rfl
  have s3 : w1.cell? ⟨w.heap.size, 3, none⟩ = some (.slice D ds.length dcap) := by rw [cell_of_row _ _ 3 _ _ _ q1]; rfl
  clear hC hD hds hcap
  go_enter Tryz.func45, Tryz.ntmps45
  go_wp2_with fail
  clear hw1
  go_loopw [11, 3] (DatR t ds w1) (fun i _ _ => ds.length - (intOf i).toNat)
  case atStart => exact ⟨0, [], by omega, rfl, rfl, rfl, World.ownsRow_nil _ _ _ _, (fun y hy => by simp at hy), Below.refl _ _⟩
  case round =>
    obtain ⟨k, ys, hk, rfl, hys, hyl, hown, hyo, hb⟩ := hrel
    obtain ⟨V, hVV⟩ : ∃ V, V = wr := ⟨_, rfl⟩
    rw [← hVV] at hown hyo hb ⊢
    clear hVV
    have hzV := hb.size
    by_cases hkn : k < ds.length
    · obtain ⟨d, hd0⟩ : ∃ b, ds[k]? = some b := ⟨_, List.getElem?_eq_getElem hkn⟩
      have hdm : d ∈ ds := List.mem_of_getElem? hd0
      obtain ⟨bd, od, rfl, hbd, hdc⟩ := HD.out k d.v (by rw [List.getElem?_map, hd0]; rfl)
      have hbV := hb1.trans (hb.mono (by omega))
      have q3 : V.cell? ⟨bd, od + k, none⟩ = some (.slice d.A d.l.length d.cap) := (bcl hbV hbd).trans hdc
      have q1' : V.cell? ⟨w.heap.size, 1, none⟩ = some (.int .u16 t) := (bcl hb (by omega)).trans s1
      have hdV : Cs V d.A (d.l.map byteV) := Cs.below (HDs.out d hdm) hbV
      obtain ⟨hd1, hd2, hd3⟩ := HCap.out d hdm
      have hki : (k : Int) < (ds.length : Int) := by omega
      have HOwn := Lib.hid hown
      have HYo := Lib.hid hyo
      have HTk : Hid ((ds.take (k + 1)).map (fun d => canX t d.l) = (ds.take k).map (fun d => canX t d.l) ++ [canX t d.l]) := Lib.hid (by
        rw [List.take_add_one, hd0, List.map_append]
        rfl)
      have HYl := Lib.hid hyl
      have HCn := Lib.hid (HC.out d.A d.l d.cap V hdV hd1 hd2 hd3)
      have HD0 := Lib.hid hd0
      clear hown hyo hyl hdV hd0 hdm hdc
      go_wp2_with fail
      refine HCn.out.mono ?_
      rintro e w2 ⟨hb2, v, kk, rfl, hcase⟩
      have hz2 := hb2.size
      have hown2 := own_below HOwn.out hb2
      have hB2 : w1.heap.size ≤ w2.heap.size := by omega
      have hkl : k + 1 ≤ 1000 := by omega
      obtain ⟨z, hzv, hzl, hzo, hza⟩ : ∃ z : Blob, (kk = 0 ∧ v = z.v ∨ kk ≠ 0 ∧ z = d) ∧ z.l = canX t d.l ∧ z.ok w2 ∧ (∀ a, z.A = some a → z.l.map byteV ≠ [] → ¬ some a.block = u3.ownBlock) := by
        rcases hcase with ⟨h1, h2⟩ | ⟨h1, h2⟩
        · obtain ⟨A5, c5, rfl, _, hcs5⟩ := Cs.of_own h2
          refine ⟨⟨A5, canX t d.l, c5⟩, .inl ⟨h1, rfl⟩, rfl, hcs5, fun a ha hne hab => ?_⟩
          have ha' : A5 = some a := ha
          have g1 := (h2.lt a.block (by rw [ha']; rfl)).1
          have g2 := (HOwn.out.lt a.block hab.symm).2
          omega
        · refine ⟨d, .inr ⟨h1, rfl⟩, h2.symm, Cs.below (w := V) (Cs.below (HDs.out d (List.mem_of_getElem? HD0.out)) hbV) hb2, fun a ha hne hab => ?_⟩
          have g1 := Cs.where (HDs.out d (List.mem_of_getElem? HD0.out)) ha hne
          have g2 := (HOwn.out.lt a.block hab.symm).1
          omega
      have hall : ∀ y ∈ ys ++ [z], y.ok w2 ∧ ∀ a, y.A = some a → y.l.map byteV ≠ [] → ¬ some a.block = u3.ownBlock := by
        intro y hy
        rcases List.mem_append.1 hy with hy | hy
        · exact ⟨Cs.below (HYo.out y hy).1 hb2, (HYo.out y hy).2⟩
        · simp at hy
          subst hy
          exact ⟨hzo, hza⟩
      have hyl2 : (ys ++ [z]).map (·.l) = (ds.take (k + 1)).map (fun d => canX t d.l) := by
        rw [List.map_append, HYl.out, HTk.out]
        simp [hzl]
      have hfin : ∀ v4 w4, w4.ownsRow w1.heap.size 28 1 v4 (k + 1) (ys.map Blob.v ++ [z.v]) → Moved u3 w2 v4 w4 → DatR t ds w1 (.int .i64 ((k : Int) + 1)) v4 w4 := by
        intro v4 w4 ho hm
        refine ⟨k + 1, ys ++ [z], by omega, by simp, by simp [hys], hyl2, by simpa using ho, fun y hy => ?_, (hb.trans (hb2.mono hzV)).trans (hm.below hown2 hB2)⟩
        obtain ⟨h1, h2⟩ := hall y hy
        refine ⟨Blob.kept h1 hm.kept (fun a ha hne => h2 a ha hne), fun a ha hne hab => ?_⟩
        rcases hm.at_ a.block hab.symm with h3 | h3
        · exact h2 a ha hne h3.symm
        · have := Cs.where h1 ha hne
          omega
      have HF := Lib.hid hfin
      have HO2 := Lib.hid hown2
      clear hfin hall hyl2 hza hzo hzl hcase hown2
      rcases hzv with ⟨hkk, hv⟩ | ⟨hkk, hv⟩
      · subst hkk
        have hv2 : v = .slice z.A z.l.length z.cap := hv
        subst hv2
        clear hv
        go_wp2_with (first | (at_builtin; refine wpList_push3 HO2.out hB2 [.slice z.A z.l.length z.cap] rfl (by simp [Value.oneCell']) hi hi0 hi1 hi2 rfl (by decide) rfl (.tmp 25) _ 32 Tryz.underlying32 rfl rfl rfl (by unfold maxLen; omega) (by omega) ?_; intro v4 w4 hown4 hmv4; have HF4 := Lib.hid (HF.out v4 w4 hown4 hmv4); clear hown4 hmv4))
        exact ⟨by have := HF4.out; first | exact this | simpa using this, by simp [intOf]; omega⟩
      · subst hv
        go_wp2_with (first | (at_builtin; refine wpList_push3 HO2.out hB2 [.slice z.A z.l.length z.cap] rfl (by simp [Value.oneCell']) hi hi0 hi1 hi2 rfl (by decide) rfl (.tmp 25) _ 32 Tryz.underlying32 rfl rfl rfl (by unfold maxLen; omega) (by omega) ?_; intro v4 w4 hown4 hmv4; have HF4 := Lib.hid (HF.out v4 w4 hown4 hmv4); clear hown4 hmv4))
        exact ⟨by have := HF4.out; first | exact this | simpa using this, by simp [intOf]; omega⟩
    · have hke : k = ds.length := by omega
      subst hke
      rw [List.take_length] at hyl
      have hbV := hb1.trans (hb.mono (by omega))
      by_cases h0 : ds = []
      · subst h0
        have hys0 : ys = [] := List.length_eq_zero_iff.1 hys
        subst hys0
        obtain ⟨A3, c3, rfl⟩ := own_formD hown
        clear hown hyo hyl
        go_wp2_with fail
        refine (SortB0 A3 c3 V).mono ?_
        rintro e w3 ⟨rfl, rfl⟩
        go_wp2_with fail
        refine (Comp0 A3 c3 _ w3).mono ?_
        rintro e w4 ⟨rfl, rfl⟩
        go_wp2_with fail
        go_ret
        exact ⟨A3, [], c3, rfl, Cs.nil _ _, (fun b hb => by cases hb), ⟨[], .refl _, .nil, rfl⟩, hbV⟩
      · have hys0 : ys ≠ [] := fun h => h0 (List.length_eq_zero_iff.1 (by rw [← hys, h]; rfl))
        obtain ⟨g, capr, rfl, hcr, hg1, hg2, hrm⟩ := rowM_of hown hys hys0
        have hap : ∀ y ∈ ys, Apart g y := fun y hy a h1 h2 h3 => (hyo y hy).2 a h1 h2 (by rw [h3]; rfl)
        have HSt := SortB g capr ys V hrm.rowB hg2 (fun y hy => (hyo y hy).1) hap (by omega) hys0
        rw [hys] at HSt
        have HS := Lib.hid HSt
        have HYl := Lib.hid hyl
        have HYo := Lib.hid hyo
        have HAp := Lib.hid hap
        clear HSt hyl hyo hap hown
        go_wp2_with fail
        refine HS.out.mono ?_
        rintro e w3 ⟨rfl, hk3, cs, hperm, hsort, hrow, hshape⟩
        have hcl : cs.length = ds.length := hperm.length_eq.trans hys
        have hcs0 : cs ≠ [] := fun h => h0 (List.length_eq_zero_iff.1 (by rw [← hcl, h]; rfl))
        have hok3 : ∀ y ∈ cs, y.ok w3 := fun y hy => Blob.kept (HYo.out y (hperm.mem_iff.1 hy)).1 hk3 (fun a h1 h2 => HAp.out y (hperm.mem_iff.1 hy) a h1 h2)
        have hap3 : ∀ y ∈ cs, Apart g y := fun y hy => HAp.out y (hperm.mem_iff.1 hy)
        have hrm3 : RowM w3 g cs.length [] cs 0 := hrow.rowM (by
          obtain ⟨c0, h1, h2⟩ := hrm.cs
          obtain ⟨c1, h3, h4⟩ := hshape c0 _ _ h1
          exact ⟨c1, h3, by omega⟩)
        have HCt := CompB g capr cs w3 hrm3 hok3 hap3 (by omega) (by omega) hcs0
        rw [hcl] at HCt
        have HC2 := Lib.hid HCt
        have HTo : Hid (Told (ds.map fun d => canX t d.l) (once (cs.map (·.l)))) := Lib.hid ⟨cs.map (·.l), by rw [← HYl.out]; exact hperm.map _, by rw [List.pairwise_map]; exact hsort, rfl⟩
        have HOk := Lib.hid hok3
        have HA3 := Lib.hid hap3
        have hz3 := hk3.size
        clear HCt hok3 hap3 hrm3 hrow hshape hsort hperm hrm
        go_wp2_with fail
        refine HC2.out.mono ?_
        rintro e w4 ⟨xs, rfl, hk4, hrow4, hmap, hmem⟩
        have HM := Lib.hid hmap
        have HMe := Lib.hid hmem
        have hz4 := hk4.size
        clear hmap hmem
        go_wp2_with fail
        go_ret
        refine ⟨_, xs, capr, rfl, ?_, ?_, ?_, ?_⟩
        · intro i u hu
          rw [List.getElem?_map] at hu
          cases hx : xs[i]? with
          | none => rw [hx] at hu; cases hu
          | some x =>
            rw [hx] at hu
            cases hu
            exact ⟨g, 0, rfl, by omega, by rw [Nat.zero_add]; exact hrow4.lo i x hx⟩
        · intro x hx
          exact Blob.kept (HOk.out x (HMe.out x hx)) hk4 (fun a h1 h2 => HA3.out x (HMe.out x hx) a h1 h2)
        · rw [HM.out]
          exact HTo.out
        · exact hbV.trans ((hk3.trans hk4).below (by omega) (fun k hk he => by omega))
end Nm
end Go.Proofs.YthogembgndkmpaaGreatDoor

/- Canon at a type that is not 46, 48, 50: the data by which it is signed. -/
namespace Go.Proofs.YthogembgndkmpaaGreatDoor
open Go.RowKit
namespace Nm
theorem CanonEasy (t : Nat) (ht : goodT t) : CanonC t := by
  intro A l cap w hc hl hcap hcap2
  have he : easyT t := by unfold goodT at ht; unfold easyT; omega
  have hx : canX t l = canonD t l := by
    unfold canX
    rw [if_neg (fun h => h.elim he.2.1 he.2.2)]
  rw [hx]
  refine (CanonE t he A l cap w hc hl hcap hcap2).mono fun e w' ⟨h1, v, h2, h3⟩ => ⟨h1, v, _, h2, ?_⟩
  cases hk : chk t l with
  | true =>
    rw [canonR_yes hk] at h3
    refine .inl ⟨rfl, ?_⟩
    unfold canonD
    rw [hk]
    exact h3
  | false =>
    refine .inr ⟨by decide, ?_⟩
    unfold canonD
    rw [hk]
    rfl
end Nm
end Go.Proofs.YthogembgndkmpaaGreatDoor

/- signetref3.Canon and signetref18.canon, at the types of a seat's records. -/
namespace Go.Proofs.YthogembgndkmpaaGreatDoor
open Go.RowKit
namespace Nm
theorem ro_id (t : Nat) (ht : t = 1 ∨ t = 28 ∨ t = 16 ∨ t = 43 ∨ t = 99) (b : Lab) : canonO t b = b := by
  rcases ht with rfl | rfl | rfl | rfl | rfl <;> rfl
theorem ro_nm (t : Nat) (ht : t = 2 ∨ t = 5) (b : Lab) : canonO t b = wire (lower (openN b)) := by
  rcases ht with rfl | rfl <;> rfl
theorem ro_mx (b : Lab) : canonO ((15 : Nat) : Int) b = b.take 2 ++ wire (lower (openN (b.drop 2))) := rfl
theorem whole_yes {b : Lab} (h : wholeB b = true) : openE b = 0 := by
  rw [whole_eq] at h
  simp at h
  exact h.1
set_option maxRecDepth 100000 in
set_option maxHeartbeats 4000000 in
theorem RCanon (t : Nat) (ht : goodT t) (A : Option Addr) (b : Lab) (cap : Nat) (w : World) (hc : Cs w A (b.map byteV)) (hb : b.length ≤ 100000) (hcap : b.length ≤ cap) (hcap2 : cap ≤ maxLen) :
    Calls Tryz.prog 54 #[.int .u16 (t : Int), .slice A b.length cap] w fun e w' =>
      Below w.heap.size w w' ∧ ∃ v, e = .returned (.tuple #[v, .int .i64 (code50 (chk t b))]) ∧ w'.ownsRow w.heap.size 5 1 v (canonR t b).length ((canonR t b).map byteV) := by
  by_cases h6 : t = 6
  · subst h6
    exact RCanon6 A b cap w hc hb hcap hcap2
  have HC := Lib.hid (RCheck t ht A b cap w hc hb hcap hcap2)
  cases hk : chk t b with
  | false =>
    have HE := Lib.hid (canonR_no hk)
    rw [hk] at HC
    clear hk
    go_enter Tryz.func54, Tryz.ntmps54
    go_wp2_with fail
    refine HC.out.mono ?_
    rintro e w1 ⟨hb1, rfl⟩
    unfold code50
    go_wp2_with fail
    go_ret2
    exact ⟨hb1, _, rfl, by rw [HE.out]; exact World.ownsRow_nil _ _ _ _⟩
  | true =>
    have HE := Lib.hid (canonR_yes hk)
    have HK := Lib.hid hk
    rw [hk] at HC
    clear hk
    have H0 : ∀ W : World, W.ownsRow w.heap.size 5 1 (.slice none 0 0) 0 (([] : Lab).map byteV) := fun W => World.ownsRow_nil _ _ _ _
    have HH0 := Lib.hid H0
    clear H0
    go_enter Tryz.func54, Tryz.ntmps54
    have ht2 : t = 15 ∨ (t = 2 ∨ t = 5) ∨ (t = 1 ∨ t = 28 ∨ t = 16 ∨ t = 43 ∨ t = 99) := by unfold goodT at ht; omega
    rcases ht2 with rfl | ht2 | ht2
    · have hw2 : 2 ≤ b.length ∧ wholeB (b.drop 2) = true := by
        have := HK.out
        rw [rk15] at this
        simp at this
        exact ⟨this.2.1, this.2.2⟩
      have h2l : 2 < b.length := by
        rcases Nat.lt_or_ge 2 b.length with h | h
        · exact h
        · have := hw2.2
          rw [List.drop_eq_nil_of_le h, whole_nil] at this
          cases this
      obtain ⟨bk, off, rfl, hbl, _⟩ := Cs.byte hc h2l
      have hO : Hid (∀ W, Below w.heap.size w W → Calls Tryz.prog 76 #[.slice (some ⟨bk, off + 2, none⟩) (b.length - 2) (cap - 2)] W fun e w' => ∃ v, e = .returned (.tuple #[v, .int .i64 (openK (b.drop 2) : Int), .int .i64 0]) ∧ w'.ownsRow W.heap.size 9 1 v (openN (b.drop 2)).length ((openN (b.drop 2)).map strV) ∧ Below W.heap.size W w') := Lib.hid fun W hW => by
        have h := (hc.below hW).drop' 2 cap (by simpa using hcap)
        rw [← List.map_drop, if_neg (by omega), Option.map_some, add_plain] at h
        have h2 := RNOpen (some ⟨bk, off + 2, none⟩) (b.drop 2) (cap - 2) W h (by rw [List.length_drop]; omega) (by rw [List.length_drop]; omega) (by omega)
        rw [List.length_drop, whole_yes hw2.2] at h2
        exact h2
      have hs := openN_small (b.drop 2)
      have h2i : (2 : Int) ≤ (b.length : Int) := by omega
      have h2c : ¬ cap = 2 := by omega
      have h2d : (2 : Int) ≤ (cap : Int) := by omega
      have HS := Lib.hid hs
      have HM : Hid (canonR ((15 : Nat) : Int) b = b.take 2 ++ wire (lower (openN (b.drop 2)))) := Lib.hid (HE.out.trans (ro_mx b))
      have hl2 : (b.take 2).length = 2 := by rw [List.length_take]; omega
      have ht2 : Cs w (some ⟨bk, off, none⟩) ((b.take 2).map byteV) := by rw [List.map_take]; exact hc.take' 2
      have HT := Lib.hid (And.intro ht2 hl2)
      clear hw2 hs ht2 hl2 hc HE HK
      generalize openN (b.drop 2) = nm at *
      generalize openK (b.drop 2) = kk at *
      generalize b.take 2 = p2 at *
      go_wp2_with fail
      refine HC.out.mono ?_
      rintro e w1 ⟨hb1, rfl⟩
      unfold code50
      go_wp2_with fail
      refine (hO.out w1 hb1).mono ?_
      rintro e w2 ⟨v, rfl, hown, hb2⟩
      obtain ⟨A3, c3, rfl, _, h3c⟩ := Cs.of_own hown
      have hb02 := hb1.trans (hb2.mono hb1.size)
      have ht3 := HT.out.1.below hb02
      have H3 := Lib.hid (And.intro h3c hb02)
      clear hown h3c
      have h0 : w2.ownsRow w2.heap.size 5 1 (.slice none 0 0) 0 (([] : Lab).map byteV) := World.ownsRow_nil _ _ _ _
      have hbs := Nat.le_refl w2.heap.size
      have hl2 := HT.out.2
      go_wp2_with (first
        | (at_builtin; refine wpList_bytes h0 hbs ht3 rfl _ (.tmp 43) Tryz.underlying28 rfl rfl (by rw [hl2]; rfl) (by omega) ?_; intro v4 w4 hown4 hbw4; have HX4 := Lib.hid (And.intro hown4 hbw4); clear hown4 hbw4))
      refine (RLower A3 nm c3 w4 (H3.out.1.below HX4.out.2) HS.out.few).mono ?_
      rintro e w5 ⟨v5, rfl, hown5, hb5⟩
      obtain ⟨A5, c5, rfl, _, h5c⟩ := Cs.of_own hown5
      have HL5 := Lib.hid (And.intro h5c hb5)
      clear hown5 h5c hb5
      go_wp2_with fail
      have h6 := RWire A5 (lower nm) c5 w5 HL5.out.1 HS.out.lower
      rw [lower_len] at h6
      refine h6.mono ?_
      rintro e w6 ⟨v6, rfl, hown6, hb6⟩
      obtain ⟨A6, c6, rfl, _, h6c⟩ := Cs.of_own hown6
      have hb46 := HL5.out.2.trans (hb6.mono HL5.out.2.size)
      have h4 := own_below HX4.out.1 hb46
      have hB6 : w2.heap.size ≤ w6.heap.size := Nat.le_trans HX4.out.2.size hb46.size
      have hb26 := HX4.out.2.trans (hb46.mono HX4.out.2.size)
      have hwl := wire_len_few HS.out.lower
      have HZ := Lib.hid hb26
      clear hown6 h6 hb6 hb46 hb26 h0
      go_wp2_with (first
        | (at_builtin; refine wpList_bytes h4 hB6 h6c rfl (.tmp 44) (.tmp 47) Tryz.underlying28 rfl rfl rfl (by simp [hl2]; omega) ?_; intro v7 w7 hown7 hbw7))
      go_ret2
      refine ⟨H3.out.2.trans ((HZ.out.trans hbw7).mono H3.out.2.size), _, rfl, ?_⟩
      rw [HM.out, List.length_append]
      have h8 := own_base hown7 H3.out.2.size
      simpa [hl2] using h8
    · have hwh : wholeB b = true := by
        have := HK.out
        rcases ht2 with rfl | rfl
        · rw [rk2] at this; simp at this; exact this.2
        · rw [rk5] at this; simp at this; exact this.2
      have HO : Hid (∀ W, Below w.heap.size w W → Calls Tryz.prog 76 #[.slice A b.length cap] W fun e w' => ∃ v, e = .returned (.tuple #[v, .int .i64 (openK b : Int), .int .i64 0]) ∧ w'.ownsRow W.heap.size 9 1 v (openN b).length ((openN b).map strV) ∧ Below W.heap.size W w') := Lib.hid fun W hW => by
        have h2 := RNOpen A b cap W (hc.below hW) hb hcap hcap2
        rw [whole_yes hwh] at h2
        exact h2
      have HS := Lib.hid (openN_small b)
      have HM : Hid (canonR (t : Int) b = wire (lower (openN b))) := Lib.hid (HE.out.trans (ro_nm t ht2 b))
      clear hwh hc HE HK
      generalize openN b = nm at *
      generalize openK b = kk at *
      have ht3 : ((t : Int) == 2) = true ∨ (((t : Int) == 2) = false ∧ ((t : Int) == 5) = true) := by rcases ht2 with rfl | rfl <;> decide
      clear ht2 ht h6
      rcases ht3 with h1 | ⟨h1, h2⟩
      · go_wp2_with fail
        refine HC.out.mono ?_
        rintro e w1 ⟨hb1, rfl⟩
        unfold code50
        go_wp2_with fail
        refine (HO.out w1 hb1).mono ?_
        rintro e w2 ⟨v, rfl, hown, hb2⟩
        obtain ⟨A3, c3, rfl, _, h3c⟩ := Cs.of_own hown
        have hb02 := hb1.trans (hb2.mono hb1.size)
        clear hown
        go_wp2_with fail
        refine (RLower A3 nm c3 w2 h3c HS.out.few).mono ?_
        rintro e w3 ⟨v3, rfl, hown3, hb3⟩
        obtain ⟨A4, c4, rfl, _, h4c⟩ := Cs.of_own hown3
        have hb03 := hb02.trans (hb3.mono hb02.size)
        clear hown3 h3c
        go_wp2_with fail
        have h5 := RWire A4 (lower nm) c4 w3 h4c HS.out.lower
        rw [lower_len] at h5
        refine h5.mono ?_
        rintro e w4 ⟨v4, rfl, hown4, hb4⟩
        have hb04 := hb03.trans (hb4.mono hb03.size)
        have HF := Lib.hid (And.intro (own_base hown4 hb03.size) hb04)
        clear hown4 hb04 h5 h4c
        go_wp2_with fail
        go_ret2
        exact ⟨HF.out.2, _, rfl, by rw [HM.out]; exact HF.out.1⟩
      · go_wp2_with fail
        refine HC.out.mono ?_
        rintro e w1 ⟨hb1, rfl⟩
        unfold code50
        go_wp2_with fail
        refine (HO.out w1 hb1).mono ?_
        rintro e w2 ⟨v, rfl, hown, hb2⟩
        obtain ⟨A3, c3, rfl, _, h3c⟩ := Cs.of_own hown
        have hb02 := hb1.trans (hb2.mono hb1.size)
        clear hown
        go_wp2_with fail
        refine (RLower A3 nm c3 w2 h3c HS.out.few).mono ?_
        rintro e w3 ⟨v3, rfl, hown3, hb3⟩
        obtain ⟨A4, c4, rfl, _, h4c⟩ := Cs.of_own hown3
        have hb03 := hb02.trans (hb3.mono hb02.size)
        clear hown3 h3c
        go_wp2_with fail
        have h5 := RWire A4 (lower nm) c4 w3 h4c HS.out.lower
        rw [lower_len] at h5
        refine h5.mono ?_
        rintro e w4 ⟨v4, rfl, hown4, hb4⟩
        have hb04 := hb03.trans (hb4.mono hb03.size)
        have HF := Lib.hid (And.intro (own_base hown4 hb03.size) hb04)
        clear hown4 hb04 h5 h4c
        go_wp2_with fail
        go_ret2
        exact ⟨HF.out.2, _, rfl, by rw [HM.out]; exact HF.out.1⟩
    · have hid := ro_id t ht2 b
      have HM : Hid (canonR (t : Int) b = b) := Lib.hid (HE.out.trans hid)
      have h2 : ((t : Int) == 2) = false := by rcases ht2 with rfl | rfl | rfl | rfl | rfl <;> decide
      have h5 : ((t : Int) == 5) = false := by rcases ht2 with rfl | rfl | rfl | rfl | rfl <;> decide
      have h15 : ((t : Int) == 15) = false := by rcases ht2 with rfl | rfl | rfl | rfl | rfl <;> decide
      have h6' : ((t : Int) == 6) = false := by rcases ht2 with rfl | rfl | rfl | rfl | rfl <;> decide
      have h46 : ((t : Int) == 46) = false := by rcases ht2 with rfl | rfl | rfl | rfl | rfl <;> decide
      have HCs := Lib.hid hc
      clear hid HE HK hc ht2 ht h6
      go_wp2_with fail
      refine HC.out.mono ?_
      rintro e w1 ⟨hb1, rfl⟩
      unfold code50
      have h0 := HH0.out w1
      have hc1 := HCs.out.below hb1
      have hbs := hb1.size
      go_wp2_with (first
        | (at_builtin; refine wpList_bytes h0 hbs hc1 rfl _ (.tmp 79) Tryz.underlying28 rfl rfl rfl (by omega) ?_; intro v4 w4 hown4 hbw4))
      go_ret2
      refine ⟨hb1.trans hbw4, _, rfl, ?_⟩
      rw [HM.out]
      simpa using hown4
set_option maxRecDepth 100000 in
set_option maxHeartbeats 4000000 in
theorem RCan (t : Nat) (ht : goodT t) (A : Option Addr) (b : Lab) (cap : Nat) (w : World) (hc : Cs w A (b.map byteV)) (hb : b.length ≤ 100000) (hcap : b.length ≤ cap) (hcap2 : cap ≤ maxLen) :
    Calls Tryz.prog 30 #[.int .u16 (t : Int), .slice A b.length cap] w fun e w' => Below w.heap.size w w' ∧ ∃ A' c', e = .returned (.slice A' (canX t b).length c') ∧ Cs w' A' ((canX t b).map byteV) ∧ (A' = A ∧ canX t b = b ∨ ∀ a, A' = some a → w.heap.size ≤ a.block) := by
  have HC := Lib.hid (RCanon t ht A b cap w hc hb hcap hcap2)
  have h48 : canX t b = canonD t b := by
    unfold canX
    rw [if_neg]
    rcases ht with rfl | rfl | rfl | rfl | rfl | rfl | rfl | rfl | rfl <;> decide
  have HX := Lib.hid h48
  have HCs := Lib.hid hc
  clear hc h48
  go_enter Tryz.func30, Tryz.ntmps30
  go_wp2_with fail
  refine HC.out.mono ?_
  rintro e w1 ⟨hb1, v, rfl, hown⟩
  obtain ⟨A1, c1, rfl, _, h1c⟩ := Cs.of_own hown
  have hblk : ∀ a, A1 = some a → w.heap.size ≤ a.block := fun a ha => (hown.lt a.block (by rw [ha]; rfl)).1
  have H1 := Lib.hid (And.intro h1c (And.intro hb1 (And.intro (HCs.out.below hb1) hblk)))
  clear hblk
  clear hown h1c hb1 HC HCs
  cases hk : chk t b with
  | false =>
    have HD : Hid (canX t b = b) := Lib.hid (by rw [HX.out]; unfold canonD; rw [hk]; rfl)
    clear hk HX
    generalize (canonR (t : Int) b).length = n1 at *
    unfold code50
    go_wp2_with fail
    go_ret
    exact ⟨H1.out.2.1, A, cap, by rw [HD.out]; rfl, by rw [HD.out]; exact H1.out.2.2.1, .inl ⟨rfl, HD.out⟩⟩
  | true =>
    have HD : Hid (canonR t b = canX t b) := Lib.hid (by rw [HX.out]; unfold canonD; rw [hk, canonR_yes hk]; rfl)
    rw [HD.out] at H1
    have hD := HD.out
    rw [hD]
    clear hk HX hD HD
    generalize hy : canX (t : Int) b = y at *
    have HY := Lib.hid hy
    clear hy
    unfold code50
    go_wp2_with fail
    go_ret
    exact ⟨H1.out.2.1, A1, c1, by rw [HY.out]; rfl, by rw [HY.out]; exact H1.out.1, .inr H1.out.2.2.2⟩
end Nm
end Go.Proofs.YthogembgndkmpaaGreatDoor

/- signetref3.SigBytes. -/
namespace Go.Proofs.YthogembgndkmpaaGreatDoor
open Go.RowKit
namespace Nm
set_option maxRecDepth 100000 in
set_option maxHeartbeats 20000000 in
theorem RSigBytes (g : SigM) (hg : g.fits) (A S : Option Addr) (cap sc : Nat) (w : World) (hA : Cs w A (g.n.map strV)) (hS : Cs w S (g.s.map byteV)) :
    Calls Tryz.prog 29 #[g.v A cap S sc] w fun e w' => ∃ v, e = .returned v ∧ w'.ownsRow w.heap.size 5 1 v g.bytes.length (g.bytes.map byteV) ∧ Below w.heap.size w w' := by
  unfold SigM.v
  have hb1 : Below w.heap.size w (w.alloc (.cells #[.int .u16 g.t, .int .u8 g.al, .int .u8 g.lb, .int .u32 g.ttl, .int .u32 g.ex, .int .u32 g.bg, .int .u16 g.tg, .slice A g.n.length cap, .slice S g.s.length sc] 41)) := (Below.refl _ _).alloc (Nat.le_refl _) _
  have hblk := heap_alloc_new w (.cells #[.int .u16 g.t, .int .u8 g.al, .int .u8 g.lb, .int .u32 g.ttl, .int .u32 g.ex, .int .u32 g.bg, .int .u16 g.tg, .slice A g.n.length cap, .slice S g.s.length sc] 41)
  obtain ⟨k0, k1, k2, k3, k4, k5, k6, k7, k8, _⟩ := cells9 hblk
  have hwr : IntKind.u32.wrap (g.t : Int) = g.t := by have := hg.t; simp [IntKind.wrap, IntKind.bits, IntKind.signed]; omega
  have hwt : IntKind.u32.wrap (g.tg : Int) = g.tg := by have := hg.tg; simp [IntKind.wrap, IntKind.bits, IntKind.signed]; omega
  have hsz : (w.alloc (.cells #[.int .u16 g.t, .int .u8 g.al, .int .u8 g.lb, .int .u32 g.ttl, .int .u32 g.ex, .int .u32 g.bg, .int .u16 g.tg, .slice A g.n.length cap, .slice S g.s.length sc] 41)).heap.size = w.heap.size + 1 := by simp
  have HF := Lib.hid hg
  have hgt := hg.t
  have hgg := hg.tg
  have hwl := wire_len_few hg.n
  have hsl := hg.s
  go_enter Tryz.func29, Tryz.ntmps29
  go_wp2_with fail
  generalize w.alloc (.cells #[.int .u16 g.t, .int .u8 g.al, .int .u8 g.lb, .int .u32 g.ttl, .int .u32 g.ex, .int .u32 g.bg, .int .u16 g.tg, .slice A g.n.length cap, .slice S g.s.length sc] 41) = w1 at *
  have HS := Lib.hid (hS.below hb1)
  have HWA : Hid (∀ W, Below w1.heap.size w1 W → Calls Tryz.prog 31 #[.slice A g.n.length cap] W fun e w' => ∃ v, e = .returned v ∧ w'.ownsRow W.heap.size 5 1 v (wire g.n).length ((wire g.n).map byteV) ∧ Below W.heap.size W w') := Lib.hid fun W hW => RWire A g.n cap W ((hA.below hb1).below hW) hg.n
  have HBY : Hid (∀ a, wire g.n = a → g.bytes = be2 g.t ++ [UInt8.ofNat g.al, UInt8.ofNat g.lb] ++ be4 g.ttl ++ be4 g.ex ++ be4 g.bg ++ be2 g.tg ++ a ++ g.s) := Lib.hid fun a h1 => by rw [← h1]; rfl
  clear hA hS hblk hg
  generalize hwa : wire g.n = a at *
  have HB2 := Lib.hid (HBY.out a rfl)
  clear HBY hwa
  refine wp_region_x (by kernel_rfl) (by kernel_rfl) w1.heap.size (Nat.le_refl _) [.c (.is (.pointer (some ⟨w.heap.size, 0, none⟩))), .c (.is (.int .u16 g.t)), .c (.is (.int .u32 g.t)), .c (.own w1.heap.size 5 1 2 ((be2 g.t).map byteV)),
    .c (.is (.pointer (some ⟨w.heap.size, 1, none⟩))), .c (.is (.int .u8 g.al)), .c (.is (.pointer (some ⟨w.heap.size, 2, none⟩))), .c (.is (.int .u8 g.lb)), .c (.own w1.heap.size 5 1 2 [.int .u8 g.al, .int .u8 g.lb]),
    .c (.own w1.heap.size 5 1 (2 + 2) ((be2 g.t ++ [UInt8.ofNat g.al, UInt8.ofNat g.lb]).map byteV)), .d [9] (fun vs => .is (vs 9))] (by kernel_rfl) (fun i => if i = 9 then 2 else 0) (fun j => if j = 3 ∨ j = 8 ∨ j = 9 then 1 else 0) (by kernel_rfl) ?_ (fun _ => True) trivial (fun _ _ _ _ => trivial) (fun _ _ _ _ => trivial) ?_ ?_
  · intro j vals
    rcases j with _ | _ | _ | _ | _ | _ | _ | _ | _ | _ | _ | j
    all_goals first
      | exact plain_is _
      | exact kind_own _ _ _ _ _ _ (Nat.le_refl _)
      | (rw [if_neg (by omega)]; exact plain_any)
  · intro i o hio vals W hE haf _
    have e0 := (bcl (o := 0) hE (by omega)).trans k0
    have e1 := (bcl (o := 1) hE (by omega)).trans k1
    have e2 := (bcl (o := 2) hE (by omega)).trans k2
    rcases i with _ | _ | _ | _ | _ | _ | _ | _ | _ | _ | _ | i
    all_goals first
      | (exfalso; simp at hio; done)
      | skip
    all_goals
      simp at hio
      subst hio
      simp [bindD, rdB, Region.binds, dfAt, DF.d_at] at haf
    all_goals first
      | (simp [opYield_def, yieldUpon, relAct, dstAt, Act.put, Region.wanted, go_sem, haf, e0, e1, e2, Ext.refl, dfAt, DF.d_at, kindX, hwr]; done)
      | skip
    · simp [opYield_def, yieldUpon, relAct, dstAt, Act.put, Region.wanted, go_sem, haf, dfAt, DF.d_at, kindX]
      refine (RPut2 W.heap.size (.slice none 0 0) 0 [] g.t W (World.ownsRow_nil _ _ _ _) (Nat.le_refl _) (by omega) (by omega)).mono fun e W' h5 => ?_
      obtain ⟨v, he, ho, hm⟩ := h5
      exact ⟨v, he, hm.below (World.ownsRow_nil _ _ 5 1) (Nat.le_refl _), own_base (by simpa using ho) hE.size⟩
    · simp [opYield_def, yieldUpon, relAct, dstAt, Act.put, Region.wanted, go_sem, haf, dfAt, DF.d_at, kindX]
      exact ⟨(Below.refl _ _).alloc (Nat.le_refl _) _, own_rowC W w1.heap.size 5 [.int .u8 g.al, .int .u8 g.lb] hE.size (by simp)⟩
    · obtain ⟨h2, h5⟩ := haf
      obtain ⟨A5, c5, e5, _, hc5⟩ := Cs.of_own h5
      refine yield_bytes rfl (.tmp 7) (.tmp 12) Tryz.underlying28 rfl (v := vals 3) (by simp [relAct, dstAt, Act.put, Act.eval]) h2 hE.size (us := [.int .u8 g.al, .int .u8 g.lb]) (A := A5) (c := c5) (by simp [relAct, dstAt, Act.put, Act.eval, e5]) hc5 (by simp [Value.oneCell']) (by simp) ?_
      intro v' W' g1 g2
      refine ⟨g2, ?_⟩
      show W'.ownsRow w1.heap.size 5 1 v' (2 + 2) ((be2 g.t ++ [UInt8.ofNat g.al, UInt8.ofNat g.lb]).map byteV)
      rw [List.map_append]
      show W'.ownsRow w1.heap.size 5 1 v' (2 + 2) ((be2 g.t).map byteV ++ [byteV (UInt8.ofNat g.al), byteV (UInt8.ofNat g.lb)])
      rw [byteV_lt HF.out.al, byteV_lt HF.out.lb]
      exact g1
  · intro vals W hE hF
    have h6 := hF 9 (by show 9 < 11; omega) (by kernel_rfl)
    have h7 := hF 10 (by show 10 < 11; omega) (by kernel_rfl)
    simp only [dfAt, DF.d_at] at h6 h7
    have h6 : W.ownsRow w1.heap.size 5 1 (vals 9) (2 + 2) ((be2 g.t ++ [UInt8.ofNat g.al, UInt8.ofNat g.lb]).map byteV) := h6
    have h7 : vals 10 = vals 9 := by simpa [DF.d_at] using h7
    simp [relAct, dstAt, Act.put]
    rw [h7]
    have r3 := (bcl (o := 3) hE (by omega)).trans k3
    have r4 := (bcl (o := 4) hE (by omega)).trans k4
    have r5 := (bcl (o := 5) hE (by omega)).trans k5
    have r6 := (bcl (o := 6) hE (by omega)).trans k6
    have r7 := (bcl (o := 7) hE (by omega)).trans k7
    have r8 := (bcl (o := 8) hE (by omega)).trans k8
    have hBW := hE.size
    have HXS : Hid (∀ x, be2 g.t ++ [UInt8.ofNat g.al, UInt8.ofNat g.lb] = x → g.bytes = x ++ be4 g.ttl ++ be4 g.ex ++ be4 g.bg ++ be2 g.tg ++ a ++ g.s) := Lib.hid fun x h1 => by rw [← h1]; exact HB2.out
    clear hF h7 k0 k1 k2 k3 k4 k5 k6 k7 k8
    generalize vals 9 = v9 at *
    generalize hx : be2 g.t ++ [UInt8.ofNat g.al, UInt8.ofNat g.lb] = xs at *
    have HX2 := Lib.hid (HXS.out xs rfl)
    have H6 : Hid (xs.length = 2 + 2) := Lib.hid (by rw [← hx]; rfl)
    clear HXS hx HB2
    go_wp2_with fail
    refine wp_region_x (by kernel_rfl) (by kernel_rfl) w1.heap.size hBW [.c (.is v9), .c (.is (.pointer (some ⟨w.heap.size, 3, none⟩))), .c (.is (.int .u32 g.ttl)), .c (.own w1.heap.size 5 1 (2 + 2 + 4) ((xs ++ be4 g.ttl).map byteV)),
      .c (.is (.pointer (some ⟨w.heap.size, 4, none⟩))), .c (.is (.int .u32 g.ex)), .c (.own w1.heap.size 5 1 (2 + 2 + 4 + 4) ((xs ++ be4 g.ttl ++ be4 g.ex).map byteV)),
      .c (.is (.pointer (some ⟨w.heap.size, 5, none⟩))), .c (.is (.int .u32 g.bg)), .c (.own w1.heap.size 5 1 (2 + 2 + 4 + 4 + 4) ((xs ++ be4 g.ttl ++ be4 g.ex ++ be4 g.bg).map byteV)),
      .d [9] (fun vs => .is (vs 9))] (by kernel_rfl) (fun i => if i = 3 ∨ i = 6 ∨ i = 9 then 3 else 0) (fun j => if j = 3 ∨ j = 6 ∨ j = 9 then 3 else 0) (by kernel_rfl) ?_
      (fun W' => W'.ownsRow w1.heap.size 5 1 v9 (2 + 2) (xs.map byteV)) h6 (fun W W' hE h => own_below h hE) (fun W' W'' hE h => Kept.row h (Kept.of_below hE) (fun b hb e => by have := (h6.lt b hb).2; omega)) ?_ ?_
    · intro j vals
      rcases j with _ | _ | _ | _ | _ | _ | _ | _ | _ | _ | _ | j
      all_goals first
        | exact plain_is _
        | exact trivial
        | (rw [if_neg (by omega)]; exact plain_any)
    · intro i o hio vals W' hC haf hI0
      have e3 := (bcl (o := 3) hC (by omega)).trans r3
      have e4 := (bcl (o := 4) hC (by omega)).trans r4
      have e5 := (bcl (o := 5) hC (by omega)).trans r5
      have hBW' := Nat.le_trans hBW hC.size
      rcases i with _ | _ | _ | _ | _ | _ | _ | _ | _ | _ | _ | i
      all_goals first
        | (exfalso; simp at hio; done)
        | skip
      all_goals
        simp at hio
        subst hio
        simp [bindD, rdB, Region.binds, dfAt, DF.d_at] at haf
      all_goals first
        | (simp [opYield_def, yieldUpon, relAct, dstAt, Act.put, Region.wanted, go_sem, haf, e3, e4, e5, Ext.refl, dfAt, DF.d_at, kindX]; done)
        | skip
      · have hI := hI0 (fun k hk hk2 => by
          by_cases h3 : k = 3
          · exact .inl h3
          · by_cases h6 : k = 6
            · subst h6; exact .inr (by kernel_rfl)
            · by_cases h9 : k = 9
              · subst h9; exact .inr (by kernel_rfl)
              · exfalso; simp [h3, h6, h9] at hk2)
        simp [opYield_def, yieldUpon, relAct, dstAt, Act.put, Region.wanted, go_sem, haf, dfAt, DF.d_at, kindX]
        refine (RPut4 w1.heap.size v9 (2 + 2) xs g.ttl W' hI hBW' (by omega) HF.out.ttl).mono fun e W'' h5 => ?_
        obtain ⟨v, he, ho, hm⟩ := h5
        exact ⟨v, he, hm.below hI hBW', by simpa [List.map_append] using ho⟩
      · obtain ⟨h3, h5⟩ := haf
        have h3 : W'.ownsRow w1.heap.size 5 1 (vals 3) (2 + 2 + 4) ((xs ++ be4 g.ttl).map byteV) := by simpa [List.map_append] using h3
        simp [opYield_def, yieldUpon, relAct, dstAt, Act.put, Region.wanted, go_sem, h5, dfAt, DF.d_at, kindX]
        refine (RPut4 w1.heap.size (vals 3) _ _ g.ex W' h3 hBW' (by omega) HF.out.ex).mono fun e W'' h5 => ?_
        obtain ⟨v, he, ho, hm⟩ := h5
        exact ⟨v, he, hm.below h3 hBW', by simpa [List.map_append] using ho⟩
      · obtain ⟨h3, h5⟩ := haf
        have h3 : W'.ownsRow w1.heap.size 5 1 (vals 6) (2 + 2 + 4 + 4) ((xs ++ be4 g.ttl ++ be4 g.ex).map byteV) := by simpa [List.map_append] using h3
        simp [opYield_def, yieldUpon, relAct, dstAt, Act.put, Region.wanted, go_sem, h5, dfAt, DF.d_at, kindX]
        refine (RPut4 w1.heap.size (vals 6) _ _ g.bg W' h3 hBW' (by omega) HF.out.bg).mono fun e W'' h5 => ?_
        obtain ⟨v, he, ho, hm⟩ := h5
        exact ⟨v, he, hm.below h3 hBW', by simpa [List.map_append] using ho⟩
    · intro vals W' hC hF
      have h9 := hF 9 (by show 9 < 11; omega) (by kernel_rfl)
      have h10 := hF 10 (by show 10 < 11; omega) (by kernel_rfl)
      simp only [dfAt, DF.d_at] at h9 h10
      have h9 : W'.ownsRow w1.heap.size 5 1 (vals 9) (2 + 2 + 4 + 4 + 4) ((xs ++ be4 g.ttl ++ be4 g.ex ++ be4 g.bg).map byteV) := h9
      have h10 : vals 10 = vals 9 := by simpa [DF.d_at] using h10
      simp [relAct, dstAt, Act.put]
      rw [h10]
      have s6 := (bcl (o := 6) hC (by omega)).trans r6
      have s7 := (bcl (o := 7) hC (by omega)).trans r7
      have s8 := (bcl (o := 8) hC (by omega)).trans r8
      have hBW2 := Nat.le_trans hBW hC.size
      have hE2 := hE.trans hC
      clear hF h10 r3 r4 r5 r6 r7 r8
      generalize vals 9 = u9 at *
      generalize hy : xs ++ be4 g.ttl ++ be4 g.ex ++ be4 g.bg = ys at *
      have HY := Lib.hid hy
      clear hy
      have hu9 : ∀ b, u9.ownBlock = some b → w1.heap.size ≤ b ∧ b < W'.heap.size := fun b hb => h9.lt b hb
      have HU9 := Lib.hid hu9
      clear hu9
      go_wp2_with fail
      refine wp_region_x (by kernel_rfl) (by kernel_rfl) w1.heap.size hBW2 [.c (.is u9), .c (.is (.pointer (some ⟨w.heap.size, 6, none⟩))), .c (.is (.int .u16 g.tg)), .c (.is (.int .u32 g.tg)), .c (.own w1.heap.size 5 1 (2 + 2 + 4 + 4 + 4 + 2) ((ys ++ be2 g.tg).map byteV)),
        .c (.is (.pointer (some ⟨w.heap.size, 7, none⟩))), .c (.is (.slice A g.n.length cap)), .c (.own W'.heap.size 5 1 a.length (a.map byteV)), .c (.own w1.heap.size 5 1 (2 + 2 + 4 + 4 + 4 + 2 + a.length) ((ys ++ be2 g.tg ++ a).map byteV)),
        .c (.is (.pointer (some ⟨w.heap.size, 8, none⟩))), .c (.is (.slice S g.s.length sc)), .c (.own w1.heap.size 5 1 (2 + 2 + 4 + 4 + 4 + 2 + a.length + g.s.length) ((ys ++ be2 g.tg ++ a ++ g.s).map byteV)),
        .d [11] (fun vs => .is (vs 11))] (by kernel_rfl) (fun i => if i = 4 then 1 else if i = 8 ∨ i = 11 then 3 else 0) (fun j => if j = 4 ∨ j = 8 ∨ j = 11 then 3 else if j = 7 then 1 else 0) (by kernel_rfl) ?_
        (fun W => W.ownsRow w1.heap.size 5 1 u9 (2 + 2 + 4 + 4 + 4) (ys.map byteV)) h9 (fun W W' hE h => own_below h hE) (fun W' W'' hE h => Kept.row h (Kept.of_below hE) (fun b hb e => by have := (h9.lt b hb).2; omega)) ?_ ?_
      · intro j vals
        rcases j with _ | _ | _ | _ | _ | _ | _ | _ | _ | _ | _ | _ | _ | j
        all_goals first
          | exact plain_is _
          | exact kind_own _ _ _ _ _ _ (Nat.le_refl _)
          | exact trivial
          | (rw [if_neg (by omega), if_neg (by omega)]; exact plain_any)
      · intro i o hio vals W2 hC2 haf hI0
        have e6 := (bcl (o := 6) hC2 (by omega)).trans s6
        have e7 := (bcl (o := 7) hC2 (by omega)).trans s7
        have e8 := (bcl (o := 8) hC2 (by omega)).trans s8
        have hBW' := Nat.le_trans hBW2 hC2.size
        rcases i with _ | _ | _ | _ | _ | _ | _ | _ | _ | _ | _ | _ | _ | i
        all_goals first
          | (exfalso; simp at hio; done)
          | skip
        all_goals
          simp at hio
          subst hio
          simp [bindD, rdB, Region.binds, dfAt, DF.d_at] at haf
        all_goals first
          | (simp [opYield_def, yieldUpon, relAct, dstAt, Act.put, Region.wanted, go_sem, haf, e6, e7, e8, Ext.refl, dfAt, DF.d_at, kindX, hwt]; done)
          | skip
        · have hI := hI0 (fun k hk hk2 => by
            by_cases h3 : k = 4
            · exact .inl h3
            · by_cases h6 : k = 8
              · subst h6; exact .inr (by kernel_rfl)
              · by_cases h9 : k = 11
                · subst h9; exact .inr (by kernel_rfl)
                · exfalso; simp [h3, h6, h9] at hk2)
          simp [opYield_def, yieldUpon, relAct, dstAt, Act.put, Region.wanted, go_sem, haf, dfAt, DF.d_at, kindX]
          refine (RPut2 w1.heap.size u9 (2 + 2 + 4 + 4 + 4) ys g.tg W2 hI hBW' (by omega) (by omega)).mono fun e W'' h5 => ?_
          obtain ⟨v, he, ho, hm⟩ := h5
          exact ⟨v, he, hm.kept.mono (fun b hb e => HU9.out b e.symm), by simpa [List.map_append] using ho⟩
        · simp [opYield_def, yieldUpon, relAct, dstAt, Act.put, Region.wanted, go_sem, haf, dfAt, DF.d_at, kindX]
          refine (HWA.out W2 (hE2.trans hC2)).mono fun e W'' h5 => ?_
          obtain ⟨v, he, ho, hb⟩ := h5
          exact ⟨v, he, hb, own_base ho hC2.size⟩
        · obtain ⟨h2, h5⟩ := haf
          obtain ⟨A5, c5, e5, _, hc5⟩ := Cs.of_own h5
          refine yield_bytes rfl (.tmp 28) (.tmp 31) Tryz.underlying28 rfl (v := vals 4) (by simp [relAct, dstAt, Act.put, Act.eval]) h2 hBW' (us := a.map byteV) (A := A5) (c := c5) (by simp [relAct, dstAt, Act.put, Act.eval, e5]) hc5 (byteV_one a) (by simp; omega) ?_
          intro v' W' g1 g2
          refine ⟨g2, ?_⟩
          show W'.ownsRow w1.heap.size 5 1 v' (2 + 2 + 4 + 4 + 4 + 2 + a.length) ((ys ++ be2 g.tg ++ a).map byteV)
          simpa [List.map_append] using g1
        · obtain ⟨h2, h5⟩ := haf
          refine yield_bytes rfl (.tmp 32) (.tmp 34) Tryz.underlying28 rfl (v := vals 8) (by simp [relAct, dstAt, Act.put, Act.eval]) h2 hBW' (us := g.s.map byteV) (A := S) (c := sc) (by simp [relAct, dstAt, Act.put, Act.eval, h5]) (HS.out.below (hE2.trans hC2)) (byteV_one g.s) (by simp; omega) ?_
          intro v' W' g1 g2
          refine ⟨g2, ?_⟩
          show W'.ownsRow w1.heap.size 5 1 v' (2 + 2 + 4 + 4 + 4 + 2 + a.length + g.s.length) ((ys ++ be2 g.tg ++ a ++ g.s).map byteV)
          simpa [List.map_append] using g1
      · intro vals W2 hC2 hF
        have h11 := hF 11 (by show 11 < 13; omega) (by kernel_rfl)
        have h12 := hF 12 (by show 12 < 13; omega) (by kernel_rfl)
        simp only [dfAt, DF.d_at] at h11 h12
        have h11 : W2.ownsRow w1.heap.size 5 1 (vals 11) (2 + 2 + 4 + 4 + 4 + 2 + a.length + g.s.length) ((ys ++ be2 g.tg ++ a ++ g.s).map byteV) := h11
        have h12 : vals 12 = vals 11 := by simpa [DF.d_at] using h12
        have hbF := hb1.trans ((hE2.trans hC2).mono (by omega))
        simp [relAct, dstAt, Act.put]
        rw [h12]
        have HR := Lib.hid (And.intro h11 hbF)
        clear hF h12 h11
        generalize vals 11 = v11 at *
        go_wp2_with fail
        go_ret
        refine ⟨_, rfl, ?_, HR.out.2⟩
        have hlx := H6.out
        rw [HX2.out]
        have hl : (ys ++ be2 g.tg ++ a ++ g.s).length = 2 + 2 + 4 + 4 + 4 + 2 + a.length + g.s.length := by
          rw [← HY.out]
          simp only [List.length_append, hlx]
          rfl
        rw [hl]
        exact own_base HR.out.1 (by omega)
end Nm
end Go.Proofs.YthogembgndkmpaaGreatDoor

/- Plain law: data laid in one by one, each at its place, each once. -/
namespace Go.Proofs.YthogembgndkmpaaGreatDoor
open Go.RowKit
namespace Nm
/-- these data, in order, each once -/
def StrictOf (l d : List Lab) : Prop := d.Pairwise ltB ∧ ∀ x, x ∈ d ↔ x ∈ l
theorem told_strict {l d : List Lab} (h : Told l d) : StrictOf l d := by
  obtain ⟨s, h1, h2, rfl⟩ := h
  exact ⟨once_strict s h2, fun x => by rw [once_mem, h1.mem_iff]⟩
theorem strict_uniq {l d e : List Lab} (h : StrictOf l d) (k : StrictOf l e) : d = e :=
  strict_ext _ _ h.1 k.1 fun x => (h.2 x).trans (k.2 x).symm
theorem strict_nil : StrictOf [] [] := ⟨List.Pairwise.nil, fun _ => Iff.rfl⟩
theorem strict_there {l d : List Lab} {x : Lab} (h : StrictOf l d) (hx : x ∈ d) : StrictOf (l ++ [x]) d :=
  ⟨h.1, fun y => by
    rw [List.mem_append, h.2 y]
    refine ⟨.inl, fun hy => hy.elim id fun hy => ?_⟩
    rw [List.mem_singleton.1 hy]
    exact (h.2 x).1 hx⟩
theorem strict_ins {l d : List Lab} {x : Lab} {j : Nat} (h : StrictOf l d) (hj : j ≤ d.length) (h1 : ∀ y ∈ d.take j, ltB y x) (h2 : ∀ y, d[j]? = some y → ltB x y) : StrictOf (l ++ [x]) (d.take j ++ x :: d.drop j) := by
  obtain ⟨hd, hm⟩ := h
  have hsplit : d = d.take j ++ d.drop j := (List.take_append_drop j d).symm
  have hp := hd
  rw [hsplit, List.pairwise_append] at hp
  have h3 : ∀ y ∈ d.drop j, ltB x y := by
    intro y hy
    cases hdr : d.drop j with
    | nil => rw [hdr] at hy; cases hy
    | cons z r =>
      have hz : d[j]? = some z := by
        have : (d.drop j)[0]? = some z := by rw [hdr]; rfl
        rw [List.getElem?_drop] at this
        simpa using this
      have hxz := h2 z hz
      rw [hdr] at hy
      rcases List.mem_cons.1 hy with rfl | hy
      · exact hxz
      · have := hp.2.1
        rw [hdr] at this
        exact ltB_trans hxz ((List.pairwise_cons.1 this).1 y hy)
  refine ⟨?_, fun y => ?_⟩
  · rw [List.pairwise_append]
    refine ⟨hp.1, List.pairwise_cons.2 ⟨h3, hp.2.1⟩, fun a ha b hb => ?_⟩
    rcases List.mem_cons.1 hb with rfl | hb
    · exact h1 a ha
    · exact hp.2.2 a ha b hb
  · rw [List.mem_append, List.mem_cons, List.mem_append, List.mem_singleton, ← hm y]
    constructor
    · rintro (hy | rfl | hy)
      · exact .inl (List.mem_of_mem_take hy)
      · exact .inr rfl
      · exact .inl (List.mem_of_mem_drop hy)
    · rintro (hy | rfl)
      · rw [hsplit, List.mem_append] at hy
        rcases hy with hy | hy
        · exact .inl hy
        · exact .inr (.inr hy)
      · exact .inr (.inl rfl)
instance ltB_dec (a b : Lab) : Decidable (ltB a b) := by unfold ltB; exact inferInstance
theorem less_cb : ∀ a b : Lab, Op.bytesLess a b = decide (Lib.compareBytes a b < 0)
  | [], [] => by simp [Op.bytesLess, Lib.compareBytes]
  | [], _ :: _ => by simp [Op.bytesLess, Lib.compareBytes]
  | _ :: _, [] => by simp [Op.bytesLess, Lib.compareBytes]
  | x :: a, y :: b => by
    have ih := less_cb a b
    unfold Op.bytesLess Lib.compareBytes
    by_cases h1 : x < y
    · simp [h1]
    · by_cases h2 : y < x
      · have h3 : ¬ x = y := fun e => by subst e; exact h1 h2
        simp [h1, h2, h3]
      · have e : x = y := UInt8.le_antisymm (UInt8.not_lt.1 h2) (UInt8.not_lt.1 h1)
        subst e
        simp [h1, ih]
theorem less_lt (a b : Lab) : Op.bytesLess a b = decide (ltB a b) := less_cb a b
end Nm
end Go.Proofs.YthogembgndkmpaaGreatDoor

/- rdata.KeyBytes and signetref3.KeyBytes: a key's data as bytes. (Printed by a program.) -/
namespace Go.Proofs.YthogembgndkmpaaGreatDoor
open Go.RowKit
namespace Nm
theorem cells4K {w : World} {g : Nat} {T : TypeId} {c0 c1 c2 c3 : Value} (h : w.heap[g]? = some (.cells #[c0, c1, c2, c3] T (0, 0))) :
    w.cell? ⟨g, 0, none⟩ = some c0 ∧ w.cell? ⟨g, 1, none⟩ = some c1 ∧ w.cell? ⟨g, 2, none⟩ = some c2 ∧ w.cell? ⟨g, 3, none⟩ = some c3 := by
  refine ⟨?_, ?_, ?_, ?_⟩ <;> (rw [cell_of_row _ _ _ _ _ _ h]; rfl)
def keyL (fl pr al : Nat) (key : Lab) : Lab := be2 fl ++ [UInt8.ofNat pr, UInt8.ofNat al] ++ key
def keyV (fl pr al : Nat) (key : Lab) (A : Option Addr) (cap : Nat) : Value := .agg #[.int .u16 (fl : Int), .int .u8 (pr : Int), .int .u8 (al : Int), .slice A key.length cap]
set_option maxRecDepth 100000 in
set_option maxHeartbeats 20000000 in
theorem KeyB (fl pr al : Nat) (key : Lab) (hf : fl < 65536) (hp : pr < 256) (ha : al < 256) (hk : key.length ≤ 100000) (A : Option Addr) (cap : Nat) (w : World) (hA : Cs w A (key.map byteV)) :
    Calls Tryz.prog 33 #[keyV fl pr al key A cap] w fun e w' => ∃ v, e = .returned v ∧ w'.ownsRow w.heap.size 5 1 v (2 + 2 + key.length) ((keyL fl pr al key).map byteV) ∧ Below w.heap.size w w' := by
  unfold keyV
  have hb1 : Below w.heap.size w (w.alloc (.cells #[.int .u16 (fl : Int), .int .u8 (pr : Int), .int .u8 (al : Int), .slice A key.length cap] 39)) := (Below.refl _ _).alloc (Nat.le_refl _) _
  have hblk := heap_alloc_new w (.cells #[.int .u16 (fl : Int), .int .u8 (pr : Int), .int .u8 (al : Int), .slice A key.length cap] 39)
  obtain ⟨k0, k1, k2, k3⟩ := cells4K hblk
  have hsz : (w.alloc (.cells #[.int .u16 (fl : Int), .int .u8 (pr : Int), .int .u8 (al : Int), .slice A key.length cap] 39)).heap.size = w.heap.size + 1 := by simp
  have hwr : IntKind.u32.wrap (fl : Int) = fl := by simp [IntKind.wrap, IntKind.bits, IntKind.signed]; omega
  have HA := Lib.hid (hA.below hb1)
  clear hA hblk
  go_enter Tryz.func33, Tryz.ntmps33
  go_wp2_with fail
  generalize w.alloc (.cells #[.int .u16 (fl : Int), .int .u8 (pr : Int), .int .u8 (al : Int), .slice A key.length cap] 39) = w1 at *
  refine wp_region_x (by kernel_rfl) (by kernel_rfl) w1.heap.size (Nat.le_refl _) [.c (.is (.pointer (some ⟨w.heap.size, 0, none⟩))), .c (.is (.int .u16 (fl : Int))), .c (.is (.int .u32 (fl : Int))), .c (.own w1.heap.size 5 1 2 ((be2 fl).map byteV)),
    .c (.is (.pointer (some ⟨w.heap.size, 1, none⟩))), .c (.is (.int .u8 (pr : Int))), .c (.is (.pointer (some ⟨w.heap.size, 2, none⟩))), .c (.is (.int .u8 (al : Int))), .c (.own w1.heap.size 5 1 2 [.int .u8 (pr : Int), .int .u8 (al : Int)]),
    .c (.own w1.heap.size 5 1 (2 + 2) ((be2 fl).map byteV ++ [.int .u8 (pr : Int), .int .u8 (al : Int)])), .c (.is (.pointer (some ⟨w.heap.size, 3, none⟩))), .c (.is (.slice A key.length cap)),
    .c (.own w1.heap.size 5 1 (2 + 2 + key.length) ((keyL fl pr al key).map byteV)), .d [12] (fun vs => .is (vs 12))] (by kernel_rfl) (fun i => if i = 9 ∨ i = 12 then 2 else 0) (fun j => if j = 3 ∨ j = 8 ∨ j = 9 ∨ j = 12 then 1 else 0) (by kernel_rfl) ?_ (fun _ => True) trivial (fun _ _ _ _ => trivial) (fun _ _ _ _ => trivial) ?_ ?_
  · intro j vals
    rcases j with _ | _ | _ | _ | _ | _ | _ | _ | _ | _ | _ | _ | _ | _ | j
    all_goals first
      | exact plain_is _
      | exact kind_own _ _ _ _ _ _ (Nat.le_refl _)
      | (rw [if_neg (by omega)]; exact plain_any)
  · intro i o hio vals W hE haf _
    have e0 := (bcl (o := 0) hE (by omega)).trans k0
    have e1 := (bcl (o := 1) hE (by omega)).trans k1
    have e2 := (bcl (o := 2) hE (by omega)).trans k2
    have e3 := (bcl (o := 3) hE (by omega)).trans k3
    rcases i with _ | _ | _ | _ | _ | _ | _ | _ | _ | _ | _ | _ | _ | _ | i
    all_goals first
      | (exfalso; simp at hio; done)
      | skip
    all_goals
      simp at hio
      subst hio
      simp [bindD, rdB, Region.binds, dfAt, DF.d_at] at haf
    all_goals first
      | (simp [opYield_def, yieldUpon, relAct, dstAt, Act.put, Region.wanted, go_sem, haf, e0, e1, e2, e3, Ext.refl, dfAt, DF.d_at, kindX, hwr]; done)
      | skip
    · simp [opYield_def, yieldUpon, relAct, dstAt, Act.put, Region.wanted, go_sem, haf, dfAt, DF.d_at, kindX]
      refine (put2 W.heap.size (.slice none 0 0) 0 [] fl W (World.ownsRow_nil _ _ _ _) (Nat.le_refl _) (by omega) (by omega)).mono fun e W' h5 => ?_
      obtain ⟨v, he, ho, hm⟩ := h5
      exact ⟨v, he, hm.below (World.ownsRow_nil _ _ 5 1) (Nat.le_refl _), own_base (by simpa using ho) hE.size⟩
    · simp [opYield_def, yieldUpon, relAct, dstAt, Act.put, Region.wanted, go_sem, haf, dfAt, DF.d_at, kindX]
      exact ⟨(Below.refl _ _).alloc (Nat.le_refl _) _, own_rowC W w1.heap.size 5 [.int .u8 (pr : Int), .int .u8 (al : Int)] hE.size (by simp)⟩
    · obtain ⟨h2, h5⟩ := haf
      obtain ⟨A5, c5, e5, _, hc5⟩ := Cs.of_own h5
      refine yield_bytes rfl (.tmp 6) (.tmp 11) Tryz.underlying28 rfl (v := vals 3) (by simp [relAct, dstAt, Act.put, Act.eval]) h2 hE.size (us := [.int .u8 (pr : Int), .int .u8 (al : Int)]) (A := A5) (c := c5) (by simp [relAct, dstAt, Act.put, Act.eval, e5]) hc5 (by simp [Value.oneCell']) (by simp) ?_
      intro v' W' g1 g2
      exact ⟨g2, g1⟩
    · obtain ⟨h2, h5⟩ := haf
      refine yield_bytes rfl (.tmp 12) (.tmp 14) Tryz.underlying28 rfl (v := vals 9) (by simp [relAct, dstAt, Act.put, Act.eval]) h2 hE.size (us := key.map byteV) (A := A) (c := cap) (by simp [relAct, dstAt, Act.put, Act.eval, h5]) (HA.out.below hE) (byteV_one key) (by simp; omega) ?_
      intro v' W' g1 g2
      refine ⟨g2, ?_⟩
      show W'.ownsRow w1.heap.size 5 1 v' (2 + 2 + key.length) ((be2 fl ++ [UInt8.ofNat pr, UInt8.ofNat al] ++ key).map byteV)
      rw [List.map_append, List.map_append]
      show W'.ownsRow w1.heap.size 5 1 v' (2 + 2 + key.length) ((be2 fl).map byteV ++ [byteV (UInt8.ofNat pr), byteV (UInt8.ofNat al)] ++ key.map byteV)
      rw [byteV_lt hp, byteV_lt ha]
      simpa using g1
  · intro vals W hE hF
    have h6 := hF 12 (by show 12 < 14; omega) (by kernel_rfl)
    have h7 := hF 13 (by show 13 < 14; omega) (by kernel_rfl)
    simp only [dfAt, DF.d_at] at h6 h7
    have h6 : W.ownsRow w1.heap.size 5 1 (vals 12) (2 + 2 + key.length) ((keyL fl pr al key).map byteV) := h6
    have h7 : vals 13 = vals 12 := by simpa [DF.d_at] using h7
    simp [relAct, dstAt, Act.put]
    rw [h7]
    have HR := Lib.hid (And.intro h6 (hb1.trans (hE.mono (by omega))))
    clear hF h7 h6
    generalize vals 12 = v12 at *
    go_wp2_with fail
    go_ret
    exact ⟨_, rfl, own_base HR.out.1 (by omega), HR.out.2⟩
set_option maxRecDepth 100000 in
set_option maxHeartbeats 20000000 in
theorem RKeyB (fl pr al : Nat) (key : Lab) (hf : fl < 65536) (hp : pr < 256) (ha : al < 256) (hk : key.length ≤ 100000) (A : Option Addr) (cap : Nat) (w : World) (hA : Cs w A (key.map byteV)) :
    Calls Tryz.prog 9 #[keyV fl pr al key A cap] w fun e w' => ∃ v, e = .returned v ∧ w'.ownsRow w.heap.size 5 1 v (2 + 2 + key.length) ((keyL fl pr al key).map byteV) ∧ Below w.heap.size w w' := by
  unfold keyV
  have hb1 : Below w.heap.size w (w.alloc (.cells #[.int .u16 (fl : Int), .int .u8 (pr : Int), .int .u8 (al : Int), .slice A key.length cap] 39)) := (Below.refl _ _).alloc (Nat.le_refl _) _
  have hblk := heap_alloc_new w (.cells #[.int .u16 (fl : Int), .int .u8 (pr : Int), .int .u8 (al : Int), .slice A key.length cap] 39)
  obtain ⟨k0, k1, k2, k3⟩ := cells4K hblk
  have hsz : (w.alloc (.cells #[.int .u16 (fl : Int), .int .u8 (pr : Int), .int .u8 (al : Int), .slice A key.length cap] 39)).heap.size = w.heap.size + 1 := by simp
  have hwr : IntKind.u32.wrap (fl : Int) = fl := by simp [IntKind.wrap, IntKind.bits, IntKind.signed]; omega
  have HA := Lib.hid (hA.below hb1)
  clear hA hblk
  go_enter Tryz.func9, Tryz.ntmps9
  go_wp2_with fail
  generalize w.alloc (.cells #[.int .u16 (fl : Int), .int .u8 (pr : Int), .int .u8 (al : Int), .slice A key.length cap] 39) = w1 at *
  refine wp_region_x (by kernel_rfl) (by kernel_rfl) w1.heap.size (Nat.le_refl _) [.c (.is (.pointer (some ⟨w.heap.size, 0, none⟩))), .c (.is (.int .u16 (fl : Int))), .c (.is (.int .u32 (fl : Int))), .c (.own w1.heap.size 5 1 2 ((be2 fl).map byteV)),
    .c (.is (.pointer (some ⟨w.heap.size, 1, none⟩))), .c (.is (.int .u8 (pr : Int))), .c (.is (.pointer (some ⟨w.heap.size, 2, none⟩))), .c (.is (.int .u8 (al : Int))), .c (.own w1.heap.size 5 1 2 [.int .u8 (pr : Int), .int .u8 (al : Int)]),
    .c (.own w1.heap.size 5 1 (2 + 2) ((be2 fl).map byteV ++ [.int .u8 (pr : Int), .int .u8 (al : Int)])), .c (.is (.pointer (some ⟨w.heap.size, 3, none⟩))), .c (.is (.slice A key.length cap)),
    .c (.own w1.heap.size 5 1 (2 + 2 + key.length) ((keyL fl pr al key).map byteV)), .d [12] (fun vs => .is (vs 12))] (by kernel_rfl) (fun i => if i = 9 ∨ i = 12 then 2 else 0) (fun j => if j = 3 ∨ j = 8 ∨ j = 9 ∨ j = 12 then 1 else 0) (by kernel_rfl) ?_ (fun _ => True) trivial (fun _ _ _ _ => trivial) (fun _ _ _ _ => trivial) ?_ ?_
  · intro j vals
    rcases j with _ | _ | _ | _ | _ | _ | _ | _ | _ | _ | _ | _ | _ | _ | j
    all_goals first
      | exact plain_is _
      | exact kind_own _ _ _ _ _ _ (Nat.le_refl _)
      | (rw [if_neg (by omega)]; exact plain_any)
  · intro i o hio vals W hE haf _
    have e0 := (bcl (o := 0) hE (by omega)).trans k0
    have e1 := (bcl (o := 1) hE (by omega)).trans k1
    have e2 := (bcl (o := 2) hE (by omega)).trans k2
    have e3 := (bcl (o := 3) hE (by omega)).trans k3
    rcases i with _ | _ | _ | _ | _ | _ | _ | _ | _ | _ | _ | _ | _ | _ | i
    all_goals first
      | (exfalso; simp at hio; done)
      | skip
    all_goals
      simp at hio
      subst hio
      simp [bindD, rdB, Region.binds, dfAt, DF.d_at] at haf
    all_goals first
      | (simp [opYield_def, yieldUpon, relAct, dstAt, Act.put, Region.wanted, go_sem, haf, e0, e1, e2, e3, Ext.refl, dfAt, DF.d_at, kindX, hwr]; done)
      | skip
    · simp [opYield_def, yieldUpon, relAct, dstAt, Act.put, Region.wanted, go_sem, haf, dfAt, DF.d_at, kindX]
      refine (RPut2 W.heap.size (.slice none 0 0) 0 [] fl W (World.ownsRow_nil _ _ _ _) (Nat.le_refl _) (by omega) (by omega)).mono fun e W' h5 => ?_
      obtain ⟨v, he, ho, hm⟩ := h5
      exact ⟨v, he, hm.below (World.ownsRow_nil _ _ 5 1) (Nat.le_refl _), own_base (by simpa using ho) hE.size⟩
    · simp [opYield_def, yieldUpon, relAct, dstAt, Act.put, Region.wanted, go_sem, haf, dfAt, DF.d_at, kindX]
      exact ⟨(Below.refl _ _).alloc (Nat.le_refl _) _, own_rowC W w1.heap.size 5 [.int .u8 (pr : Int), .int .u8 (al : Int)] hE.size (by simp)⟩
    · obtain ⟨h2, h5⟩ := haf
      obtain ⟨A5, c5, e5, _, hc5⟩ := Cs.of_own h5
      refine yield_bytes rfl (.tmp 6) (.tmp 11) Tryz.underlying28 rfl (v := vals 3) (by simp [relAct, dstAt, Act.put, Act.eval]) h2 hE.size (us := [.int .u8 (pr : Int), .int .u8 (al : Int)]) (A := A5) (c := c5) (by simp [relAct, dstAt, Act.put, Act.eval, e5]) hc5 (by simp [Value.oneCell']) (by simp) ?_
      intro v' W' g1 g2
      exact ⟨g2, g1⟩
    · obtain ⟨h2, h5⟩ := haf
      refine yield_bytes rfl (.tmp 12) (.tmp 14) Tryz.underlying28 rfl (v := vals 9) (by simp [relAct, dstAt, Act.put, Act.eval]) h2 hE.size (us := key.map byteV) (A := A) (c := cap) (by simp [relAct, dstAt, Act.put, Act.eval, h5]) (HA.out.below hE) (byteV_one key) (by simp; omega) ?_
      intro v' W' g1 g2
      refine ⟨g2, ?_⟩
      show W'.ownsRow w1.heap.size 5 1 v' (2 + 2 + key.length) ((be2 fl ++ [UInt8.ofNat pr, UInt8.ofNat al] ++ key).map byteV)
      rw [List.map_append, List.map_append]
      show W'.ownsRow w1.heap.size 5 1 v' (2 + 2 + key.length) ((be2 fl).map byteV ++ [byteV (UInt8.ofNat pr), byteV (UInt8.ofNat al)] ++ key.map byteV)
      rw [byteV_lt hp, byteV_lt ha]
      simpa using g1
  · intro vals W hE hF
    have h6 := hF 12 (by show 12 < 14; omega) (by kernel_rfl)
    have h7 := hF 13 (by show 13 < 14; omega) (by kernel_rfl)
    simp only [dfAt, DF.d_at] at h6 h7
    have h6 : W.ownsRow w1.heap.size 5 1 (vals 12) (2 + 2 + key.length) ((keyL fl pr al key).map byteV) := h6
    have h7 : vals 13 = vals 12 := by simpa [DF.d_at] using h7
    simp [relAct, dstAt, Act.put]
    rw [h7]
    have HR := Lib.hid (And.intro h6 (hb1.trans (hE.mono (by omega))))
    clear hF h7 h6
    generalize vals 12 = v12 at *
    go_wp2_with fail
    go_ret
    exact ⟨_, rfl, own_base HR.out.1 (by omega), HR.out.2⟩
end Nm
end Go.Proofs.YthogembgndkmpaaGreatDoor

/- Contracts of package canon: data and Message, of sets of one datum. -/
namespace Go.Proofs.YthogembgndkmpaaGreatDoor
open Go.RowKit
namespace Nm
theorem info_bytes : (Tryz.prog.info? 28).map (fun i => (i.zero, i.size, i.bytes)) = some (some (.slice none 0 0), 1, 24) := by kernel_rfl
theorem Compact1 (A : Option Addr) (cap : Nat) (f : Value) (w : World) : Calls Tryz.prog 66 #[.slice A 1 cap, f] w fun e w' => e = .returned (.slice A 1 cap) ∧ w = w' := by
  go_enter Tryz.func66, Tryz.ntmps66
  go_wp2_with fail
  go_ret
  exact ⟨rfl, rfl⟩
/-- a row of one -/
theorem row_one {w : World} {B : Nat} {e : TypeId} {v u : Value} (h : w.ownsRow B e 1 v 1 [u]) : ∃ g cap, v = .slice (some ⟨g, 0, none⟩) 1 cap ∧ B ≤ g ∧ g < w.heap.size ∧ w.cell? ⟨g, 0, none⟩ = some u ∧ w.frozen? ⟨g, 0, none⟩ = false := by
  rcases h.2 with ⟨_, hn⟩ | ⟨g, cap, cur, rfl, hg, hh, hn, hcap, hsz, htake⟩
  · omega
  · refine ⟨g, cap, rfl, hg, lt_block hh, ?_, by simp [World.frozen?, hh]⟩
    rw [cell_of_row w g 0 _ _ _ hh]
    have h0 : (cur.toList.take (1 * 1))[0]? = some u := by rw [htake]; rfl
    simpa using h0
/-- the types that are checked by their shape, and hold no name -/
def plainT (t : Int) : Prop := t ≠ 2 ∧ t ≠ 5 ∧ t ≠ 15 ∧ t ≠ 6 ∧ t ≠ 46 ∧ t ≠ 48 ∧ t ≠ 50
theorem canonD_plain {t : Int} (h : plainT t) (l : Lab) : canonD t l = l := by
  obtain ⟨p1, p2, p3, q1, q2, q3, q4⟩ := h
  unfold canonD
  split
  · unfold canonO
    rw [if_neg (fun h => h.elim p1 p2), if_neg p3, if_neg q1, if_neg q2]
  · rfl
set_option maxRecDepth 100000 in
set_option maxHeartbeats 4000000 in
/-- data of a set of one datum that is of its type -/
theorem data1 (A D : Option Addr) (n : List Lab) (cap dcap : Nat) (t ttl : Int) (b : Blob) (w : World) (ht : plainT t) (hok : chk t b.l = true) (hD : Cs w D [b.v]) (hb : b.ok w) (hcap : b.l.length ≤ b.cap) (hcap2 : b.cap ≤ maxLen) :
    Calls Tryz.prog 45 #[.agg #[.slice A n.length cap, .int .u16 t, .int .u32 ttl, .slice D 1 dcap]] w fun e w' =>
      ∃ A' x c, e = .returned (.slice A' 1 c) ∧ Cs w' A' [Blob.v x] ∧ x.l = b.l ∧ x.ok w' ∧ Below w.heap.size w w' := by
  obtain ⟨i0, hi, hz0, hz1, hz2⟩ := info_parts info_bytes
  have hl8 : b.l.length ≤ 8192 := (shp_of_chk ht.2.2.2.1 ht.2.2.2.2.1 ht.2.2.2.2.2.1 hok).2
  obtain ⟨p1, p2, p3, q1, q2, q3, q4⟩ := ht
  have HE : Hid (canonR t b.l = b.l) := Lib.hid ((canonR_yes hok).trans (by
    unfold canonO
    rw [if_neg (fun h => h.elim p1 p2), if_neg p3, if_neg q1, if_neg q2]))
  obtain ⟨db, doff, rfl, hdb, hdc⟩ := hD 0 _ rfl
  rw [Nat.add_zero] at hdc
  have hb1 : Below w.heap.size w (w.alloc (.cells #[.slice A n.length cap, .int .u16 t, .int .u32 ttl, .slice (some ⟨db, doff, none⟩) 1 dcap] 34)) := (Below.refl _ _).alloc (Nat.le_refl _) _
  have hd1 := (bcl hb1 (o := doff) hdb).trans hdc
  have hCn := CanonP t p1 p2 p3 q1 q2 q3 q4 b.A b.l b.cap (w.alloc (.cells #[.slice A n.length cap, .int .u16 t, .int .u32 ttl, .slice (some ⟨db, doff, none⟩) 1 dcap] 34)) (Cs.below hb hb1) (by omega) hcap hcap2
  rw [hok] at hCn
  have HC := Lib.hid hCn
  have hbv : b.v = .slice b.A b.l.length b.cap := rfl
  rw [hbv] at hdc hd1
  clear hCn hok p1 p2 p3 q1 q2 q3 q4 hbv hD
  unfold code50 at HC
  go_enter Tryz.func45, Tryz.ntmps45
  go_wp2_with fail
  refine wp_loop_rounds 2 ?_
  rw [rounds_succ]
  go_wp2_with fail
  refine HC.out.mono ?_
  rintro e w1 ⟨hbw1, v, rfl, hown⟩
  rw [HE.out] at hown
  obtain ⟨A5, c5, rfl, _, hcs5⟩ := Cs.of_own hown
  have hb2 := hb1.trans (hbw1.mono hb1.size)
  have HO := Lib.hid hown
  have hz1' := hb1.size
  have hz2' := hbw1.size
  clear hown hcs5
  go_wp2_with (first | (at_builtin; refine wpList_push2 (B := w1.heap.size) (v := .slice none 0 0) (n := 0) (xs := []) (World.ownsRow_nil _ _ 28 1) (Nat.le_refl _) [.slice A5 b.l.length c5] rfl (by simp [Value.oneCell']) hi hz0 hz1 hz2 rfl (by decide) rfl _ _ 32 Tryz.underlying32 rfl rfl rfl (by unfold maxLen; omega) (by omega) ?_; intro v4 w4 hown4 hbw4))
  rw [rounds_succ]
  go_wp2_with fail
  obtain ⟨g, cap4, hv4, hg1, hg2, hcell, hfr⟩ := row_one hown4
  subst hv4
  have hb4 : Below w.heap.size w w4 := hb2.trans (hbw4.mono (by omega))
  have hz4 := hbw4.size
  have hcs4 : Cs w4 A5 (b.l.map byteV) := by
    obtain ⟨A6, c6, e6, _, h6⟩ := Cs.of_own (own_below HO.out hbw4)
    cases e6
    exact h6
  have hne : ∀ a, A5 = some a → b.l.map byteV ≠ [] → a.block ≠ g := fun a ha hx => by
    obtain ⟨A6, c6, e6, _, h6⟩ := Cs.of_own HO.out
    cases e6
    have := h6.where ha hx
    omega
  have HN := Lib.hid hne
  have HC4 := Lib.hid hcs4
  clear hcs4 hne hown4
  refine (SortB1 g cap4 c5 A5 b.l w4 hcell hfr hg2 HC4.out HN.out).mono ?_
  rintro e w5 ⟨rfl, hk5, hc5⟩
  go_wp2_with fail
  refine (Compact1 _ _ _ _).mono ?_
  rintro e w6 ⟨rfl, rfl⟩
  go_wp2_with fail
  go_ret
  refine ⟨_, ⟨A5, b.l, c5⟩, _, rfl, ?_, rfl, ?_, hb4.trans (hk5.below (by omega) (fun k hk => by omega))⟩
  · intro i u hu
    cases i with
    | zero =>
      simp at hu
      exact ⟨g, 0, rfl, by have := hk5.size; omega, by rw [← hu]; exact hc5⟩
    | succ i => simp at hu
  · exact Kept.cs HC4.out hk5 HN.out
end Nm
end Go.Proofs.YthogembgndkmpaaGreatDoor

/- Contracts of package canon: Message, of sets of one datum under a name that is no longer than the signature says. -/
namespace Go.Proofs.YthogembgndkmpaaGreatDoor
open Go.RowKit
namespace Nm
def SigM.low (g : SigM) : SigM := { g with n := lower g.n, s := [] }
def headB (n : List Lab) (t ttl : Nat) : Lab := wire (Nm.lower n) ++ (be2 t ++ [0, 1] ++ be4 ttl)
def msg1 (n : List Lab) (t : Nat) (b : Lab) (g : SigM) : Lab := g.low.bytes ++ headB n t g.ttl ++ be2 b.length ++ b
def tailV (t ttl : Nat) : List Value := [.int .u8 ((t : Int) / 256), .int .u8 ((t : Int) % 256), .int .u8 0, .int .u8 1, .int .u8 ((ttl : Int) / 16777216), .int .u8 ((ttl : Int) / 65536 % 256), .int .u8 ((ttl : Int) / 256 % 256), .int .u8 ((ttl : Int) % 256)]
theorem map_tail {t ttl : Nat} (ht : t < 65536) (hl : ttl < 4294967296) : (be2 t ++ [0, 1] ++ be4 ttl).map byteV = tailV t ttl := by
  have a1 : byteV (UInt8.ofNat (t / 256)) = .int .u8 ((t : Int) / 256) := by rw [byteV_mod]; congr 1; omega
  have a2 : byteV (UInt8.ofNat t) = .int .u8 ((t : Int) % 256) := by rw [byteV_mod]
  have b1 : byteV (UInt8.ofNat (ttl / 16777216)) = .int .u8 ((ttl : Int) / 16777216) := by rw [byteV_mod]; congr 1; omega
  have b2 : byteV (UInt8.ofNat (ttl / 65536)) = .int .u8 ((ttl : Int) / 65536 % 256) := by rw [byteV_mod]; congr 1
  have b3 : byteV (UInt8.ofNat (ttl / 256)) = .int .u8 ((ttl : Int) / 256 % 256) := by rw [byteV_mod]; congr 1
  have b4 : byteV (UInt8.ofNat ttl) = .int .u8 ((ttl : Int) % 256) := by rw [byteV_mod]
  show [byteV (UInt8.ofNat (t / 256)), byteV (UInt8.ofNat t), byteV 0, byteV 1, byteV (UInt8.ofNat (ttl / 16777216)), byteV (UInt8.ofNat (ttl / 65536)), byteV (UInt8.ofNat (ttl / 256)), byteV (UInt8.ofNat ttl)] = _
  rw [a1, a2, b1, b2, b3, b4]
  rfl
theorem SigM.low_fits {g : SigM} (h : g.fits) : g.low.fits := ⟨h.t, h.al, h.lb, h.ttl, h.ex, h.bg, h.tg, h.n.lower, by simp [SigM.low]⟩
theorem setc_near {w : World} {b o k : Nat} {v : Value} (h : o ≠ k) : (w.setCell ⟨b, o, none⟩ v).cell? ⟨b, k, none⟩ = w.cell? ⟨b, k, none⟩ := World.cell?_setCell_other (w := w) (a := ⟨b, o, none⟩) (b := ⟨b, k, none⟩) (v := v) (by intro e; cases e; exact h rfl)
theorem kept_set2 (w : World) (b o k : Nat) (u v : Value) : Kept (fun i => i = b) w ((w.setCell ⟨b, o, none⟩ u).setCell ⟨b, k, none⟩ v) := ((Kept.refl (fun i => i = b) w).setCell (p := ⟨b, o, none⟩) (fun _ => rfl) u).setCell (p := ⟨b, k, none⟩) (fun _ => rfl) v
theorem concat4 (W : World) (A B C : Option Addr) (la bs cs : Lab) (ca cb cc : Nat) (hA : Cs W A (la.map byteV)) (hB : Cs W B (bs.map byteV)) (hC : Cs W C (cs.map byteV)) (h1 : la.length ≤ 10000000) (h2 : bs.length ≤ 10000000) (h3 : cs.length < 65536) :
    Calls Tryz.prog 46 #[.slice (some ⟨W.heap.size + 1, 0, none⟩) 4 4] ((W.alloc (.cells #[.int .u8 ((cs.length : Int) / 256), .int .u8 ((cs.length : Int) % 256)] 5)).alloc (.cells #[.slice A la.length ca, .slice B bs.length cb, .slice (some ⟨W.heap.size, 0, none⟩) 2 2, .slice C cs.length cc] 28)) fun e w' =>
      ∃ v, e = .returned v ∧ w'.ownsRow W.heap.size 5 1 v (la ++ bs ++ be2 cs.length ++ cs).length ((la ++ bs ++ be2 cs.length ++ cs).map byteV) ∧ Below W.heap.size W w' := by
  have e2 : (be2 cs.length).map byteV = [.int .u8 ((cs.length : Int) / 256), .int .u8 ((cs.length : Int) % 256)] := by
    have a1 : byteV (UInt8.ofNat (cs.length / 256)) = .int .u8 ((cs.length : Int) / 256) := by rw [byteV_mod]; congr 1; omega
    have a2 : byteV (UInt8.ofNat cs.length) = .int .u8 ((cs.length : Int) % 256) := by rw [byteV_mod]
    show [byteV (UInt8.ofNat (cs.length / 256)), byteV (UInt8.ofNat cs.length)] = _
    rw [a1, a2]
  have b1 : Below W.heap.size W (W.alloc (.cells #[.int .u8 ((cs.length : Int) / 256), .int .u8 ((cs.length : Int) % 256)] 5)) := (Below.refl _ _).alloc (Nat.le_refl _) _
  have hq : Cs (W.alloc (.cells #[.int .u8 ((cs.length : Int) / 256), .int .u8 ((cs.length : Int) % 256)] 5)) (some ⟨W.heap.size, 0, none⟩) ((be2 cs.length).map byteV) := by
    rw [e2]
    exact cs_new W 5 [.int .u8 ((cs.length : Int) / 256), .int .u8 ((cs.length : Int) % 256)] (0, 0)
  have hs1 : (W.alloc (.cells #[.int .u8 ((cs.length : Int) / 256), .int .u8 ((cs.length : Int) % 256)] 5)).heap.size = W.heap.size + 1 := by simp
  generalize W.alloc (.cells #[.int .u8 ((cs.length : Int) / 256), .int .u8 ((cs.length : Int) % 256)] 5) = W1 at *
  have b2 : Below W1.heap.size W1 (W1.alloc (.cells #[.slice A la.length ca, .slice B bs.length cb, .slice (some ⟨W.heap.size, 0, none⟩) 2 2, .slice C cs.length cc] 28)) := (Below.refl _ _).alloc (Nat.le_refl _) _
  have hr := cs_new W1 28 [.slice A la.length ca, .slice B bs.length cb, .slice (some ⟨W.heap.size, 0, none⟩) 2 2, .slice C cs.length cc] (0, 0)
  rw [hs1] at hr
  have b3 := b1.trans (b2.mono (by omega))
  have hcc := Concat (some ⟨W.heap.size + 1, 0, none⟩) [⟨A, la, ca⟩, ⟨B, bs, cb⟩, ⟨some ⟨W.heap.size, 0, none⟩, be2 cs.length, 2⟩, ⟨C, cs, cc⟩] 4 _ hr (by
    intro b hb
    rcases List.mem_cons.1 hb with rfl | hb
    · exact Cs.below (w := W) hA b3
    · rcases List.mem_cons.1 hb with rfl | hb
      · exact Cs.below (w := W) hB b3
      · rcases List.mem_cons.1 hb with rfl | hb
        · exact Cs.below (w := W1) hq b2
        · rcases List.mem_cons.1 hb with rfl | hb
          · exact Cs.below (w := W) hC b3
          · cases hb) (by simp) (by simp [join, be2]; omega)
  have hj : join [⟨A, la, ca⟩, ⟨B, bs, cb⟩, ⟨some ⟨W.heap.size, 0, none⟩, be2 cs.length, 2⟩, ⟨C, cs, cc⟩] = la ++ bs ++ be2 cs.length ++ cs := by simp [join]
  refine hcc.mono fun e w' h => ?_
  obtain ⟨v, he, ho, hb⟩ := h
  rw [hj] at ho
  exact ⟨v, he, own_base ho (by have := b3.size; simpa using this), b3.trans (hb.mono (by have := b3.size; simpa using this))⟩
set_option maxRecDepth 100000 in
set_option maxHeartbeats 20000000 in
theorem Message1 (A D : Option Addr) (n : List Lab) (cap dcap t sttl : Nat) (b : Blob) (g : SigM) (SA SS : Option Addr) (sc ssc : Nat) (w : World) (ht : plainT t) (ht2 : t < 65536) (hok : chk t b.l = true) (hA : Cs w A (n.map strV)) (hn : Small n) (hD : Cs w D [b.v]) (hb : b.ok w) (hcap : b.l.length ≤ b.cap) (hcap2 : b.cap ≤ maxLen)
    (hg : g.fits) (hSA : Cs w SA (g.n.map strV)) (hle : n.length ≤ g.lb) :
    Calls Tryz.prog 18 #[.agg #[.slice A n.length cap, .int .u16 t, .int .u32 sttl, .slice D 1 dcap], g.v SA sc SS ssc] w fun e w' =>
      ∃ v, e = .returned v ∧ w'.ownsRow w.heap.size 5 1 v (msg1 n t b.l g).length ((msg1 n t b.l g).map byteV) ∧ Below w.heap.size w w' := by
  obtain ⟨i0, hi, hz0, hz1, hz2⟩ := info_parts info_u8
  unfold SigM.v
  generalize hw2 : (w.alloc (.cells #[.slice A n.length cap, .int .u16 t, .int .u32 sttl, .slice D 1 dcap] 34)).alloc (.cells #[.int .u16 g.t, .int .u8 g.al, .int .u8 g.lb, .int .u32 g.ttl, .int .u32 g.ex, .int .u32 g.bg, .int .u16 g.tg, .slice SA g.n.length sc, .slice SS g.s.length ssc] 41) = w2
  have hb2 : Below w.heap.size w w2 := by rw [← hw2]; exact ((Below.refl _ _).alloc (Nat.le_refl _) _).alloc (by simp) _
  have hsz2 : w2.heap.size = w.heap.size + 2 := by rw [← hw2]; simp
  have hs : w2.heap[w.heap.size]? = some (.cells #[.slice A n.length cap, .int .u16 t, .int .u32 sttl, .slice D 1 dcap] 34 (0, 0)) := by
    rw [← hw2]
    have := heap_alloc_new w (.cells #[.slice A n.length cap, .int .u16 t, .int .u32 sttl, .slice D 1 dcap] 34)
    rw [Below.heap_alloc _ _ _ (by simp)]
    exact this
  have hgq : w2.heap[w.heap.size + 1]? = some (.cells #[.int .u16 g.t, .int .u8 g.al, .int .u8 g.lb, .int .u32 g.ttl, .int .u32 g.ex, .int .u32 g.bg, .int .u16 g.tg, .slice SA g.n.length sc, .slice SS g.s.length ssc] 41 (0, 0)) := by
    have := heap_alloc_new (w.alloc (.cells #[.slice A n.length cap, .int .u16 t, .int .u32 sttl, .slice D 1 dcap] 34)) (.cells #[.int .u16 g.t, .int .u8 g.al, .int .u8 g.lb, .int .u32 g.ttl, .int .u32 g.ex, .int .u32 g.bg, .int .u16 g.tg, .slice SA g.n.length sc, .slice SS g.s.length ssc] 41)
    rw [World.size_alloc] at this
    rw [← hw2]; exact this
  have s0 : w2.cell? ⟨w.heap.size, 0, none⟩ = some (.slice A n.length cap) := by rw [cell_of_row _ _ 0 _ _ _ hs]; rfl
  have s1 : w2.cell? ⟨w.heap.size, 1, none⟩ = some (.int .u16 t) := by rw [cell_of_row _ _ 1 _ _ _ hs]; rfl
  have s2 : w2.cell? ⟨w.heap.size, 2, none⟩ = some (.int .u32 sttl) := by rw [cell_of_row _ _ 2 _ _ _ hs]; rfl
  have s3 : w2.cell? ⟨w.heap.size, 3, none⟩ = some (.slice D 1 dcap) := by rw [cell_of_row _ _ 3 _ _ _ hs]; rfl
  obtain ⟨k0, k1, k2, k3, k4, k5, k6, k7, k8, kf⟩ := cells9 hgq
  have HA := Lib.hid (hA.below hb2)
  have HA0 := Lib.hid hA
  have HD0 := Lib.hid hD
  have HB0 := Lib.hid hb
  have HD := Lib.hid (hD.below hb2)
  have HB : Hid (b.ok w2) := Lib.hid (Cs.below hb hb2)
  have HSA := Lib.hid (hSA.below hb2)
  go_enter Tryz.func18, Tryz.ntmps18
  go_wp2_with fail
  clear hw2 hA hD hb hSA hs hgq HA HD HB
  refine (Lower SA g.n sc w2 HSA.out hg.n.few).mono ?_
  rintro e w3 ⟨v3, rfl, hown3, hb3⟩
  obtain ⟨A3, c3, rfl, _, hcs3⟩ := Cs.of_own hown3
  have hz3 := hb3.size
  have t0 := (bcl (o := 0) hb3 (show w.heap.size < _ by omega)).trans s0
  have t1 := (bcl (o := 1) hb3 (show w.heap.size < _ by omega)).trans s1
  have t2 := (bcl (o := 2) hb3 (show w.heap.size < _ by omega)).trans s2
  have t3 := (bcl (o := 3) hb3 (show w.heap.size < _ by omega)).trans s3
  have r0 := (bcl (o := 0) hb3 (show w.heap.size + 1 < _ by omega)).trans k0
  have r1 := (bcl (o := 1) hb3 (show w.heap.size + 1 < _ by omega)).trans k1
  have r2 := (bcl (o := 2) hb3 (show w.heap.size + 1 < _ by omega)).trans k2
  have r3 := (bcl (o := 3) hb3 (show w.heap.size + 1 < _ by omega)).trans k3
  have r4 := (bcl (o := 4) hb3 (show w.heap.size + 1 < _ by omega)).trans k4
  have r5 := (bcl (o := 5) hb3 (show w.heap.size + 1 < _ by omega)).trans k5
  have r6 := (bcl (o := 6) hb3 (show w.heap.size + 1 < _ by omega)).trans k6
  have r7 := (bcl (o := 7) hb3 (show w.heap.size + 1 < _ by omega)).trans k7
  have r8 := (bcl (o := 8) hb3 (show w.heap.size + 1 < _ by omega)).trans k8
  have f7 := (bfr (o := 7) hb3 (show w.heap.size + 1 < _ by omega)).trans (kf 7)
  have f8 := (bfr (o := 8) hb3 (show w.heap.size + 1 < _ by omega)).trans (kf 8)
  have hb23 := hb2.trans (hb3.mono (by omega))
  have HG := Lib.hid hg
  have HC3 := Lib.hid hcs3
  have hw3 : ∀ a, A3 = some a → (lower g.n).map strV ≠ [] → w2.heap.size ≤ a.block := fun a ha hx => (hown3.lt a.block (by rw [ha]; rfl)).1
  have HW3 := Lib.hid hw3
  clear k0 k1 k2 k3 k4 k5 k6 k7 k8 kf s0 s1 s2 s3 hb2 hown3 hcs3 hg hw3
  go_wp2_with fail
  generalize hw4 : (w3.setCell ⟨w.heap.size + 1, 8, none⟩ (.slice none 0 0)).setCell ⟨w.heap.size + 1, 7, none⟩ (.slice A3 g.n.length c3) = w4
  have hk4 : Kept (fun k => k = w.heap.size + 1) w3 w4 := by rw [← hw4]; exact kept_set2 _ _ _ _ _ _
  have hz4 := hk4.size
  have u0 := (hk4.cell (o := 0) (show w.heap.size < _ by omega) (by omega)).trans t0
  have u1 := (hk4.cell (o := 1) (show w.heap.size < _ by omega) (by omega)).trans t1
  have u2 := (hk4.cell (o := 2) (show w.heap.size < _ by omega) (by omega)).trans t2
  have u3 := (hk4.cell (o := 3) (show w.heap.size < _ by omega) (by omega)).trans t3
  have x2 : w4.cell? ⟨w.heap.size + 1, 2, none⟩ = some (.int .u8 g.lb) := by
    rw [← hw4, setc_near (by decide), setc_near (by decide)]
    exact r2
  have x3 : w4.cell? ⟨w.heap.size + 1, 3, none⟩ = some (.int .u32 g.ttl) := by
    rw [← hw4, setc_near (by decide), setc_near (by decide)]
    exact r3
  have hb4 : Below w.heap.size w w4 := hb23.trans (hk4.below (by omega) (fun k hk => by omega))
  have hcs4 : Cs w4 A3 ((lower g.n).map strV) := Kept.cs HC3.out hk4 (fun a ha hx => by have := HW3.out a ha hx; omega)
  have hsb := SigBytes g.low (SigM.low_fits HG.out) A3 none c3 0 w4 hcs4 (Cs.nil _ _)
  have hll := lower_len g.n
  unfold SigM.v SigM.low at hsb
  simp only [hll, List.length_nil] at hsb
  have HS := Lib.hid hsb
  clear hsb hcs4 r0 r1 r2 r3 r4 r5 r6 r7 r8 f7 f8 t0 t1 t2 t3 hw4
  refine HS.out.mono ?_
  rintro e w5 ⟨v5, rfl, hown5, hb5⟩
  have hz5 := hb5.size
  have y0 := (bcl (o := 0) hb5 (show w.heap.size < _ by omega)).trans u0
  have y1 := (bcl (o := 1) hb5 (show w.heap.size < _ by omega)).trans u1
  have y2 := (bcl (o := 2) hb5 (show w.heap.size < _ by omega)).trans u2
  have y3 := (bcl (o := 3) hb5 (show w.heap.size < _ by omega)).trans u3
  have z2 := (bcl (o := 2) hb5 (show w.heap.size + 1 < _ by omega)).trans x2
  have z3 := (bcl (o := 3) hb5 (show w.heap.size + 1 < _ by omega)).trans x3
  have H5 : Hid (w5.ownsRow w.heap.size 5 1 v5 g.low.bytes.length (g.low.bytes.map byteV)) := Lib.hid (own_base hown5 hb4.size)
  have hb5' := hb4.trans (hb5.mono hb4.size)
  clear hown5 u0 u1 u2 u3 x2 x3 HS HC3 HW3 hb3 hk4 hb23
  go_wp2_with fail
  have hA5 : Cs w5 A (n.map strV) := HA0.out.below hb5'
  refine (Lower A n cap w5 hA5 hn.few).mono ?_
  rintro e w7 ⟨v7, rfl, hown7, hb7⟩
  have hz7 := hb7.size
  have u0 := (bcl (o := 0) hb7 (show w.heap.size < _ by omega)).trans y0
  have u1 := (bcl (o := 1) hb7 (show w.heap.size < _ by omega)).trans y1
  have u2 := (bcl (o := 2) hb7 (show w.heap.size < _ by omega)).trans y2
  have u3 := (bcl (o := 3) hb7 (show w.heap.size < _ by omega)).trans y3
  have x2 := (bcl (o := 2) hb7 (show w.heap.size + 1 < _ by omega)).trans z2
  have x3 := (bcl (o := 3) hb7 (show w.heap.size + 1 < _ by omega)).trans z3
  have H7 := Lib.hid (own_below H5.out hb7)
  have hb8 := hb5'.trans (hb7.mono (by omega))
  obtain ⟨A7, c7, rfl, _, hcs7⟩ := Cs.of_own hown7
  have HC7 := Lib.hid hcs7
  have hglb := HG.out.lb
  have hgtl := HG.out.ttl
  have hsz7 : w.heap.size + 1 < w7.heap.size := by omega
  have hfew := hn.few
  have hnl : n.length ≤ 1000 := by have := hn.1; omega
  clear hown7 y0 y1 y2 y3 z2 z3 H5 hb5' hA5 hcs7 hz3 hz4 hz5 hsz2
  go_wp2_with fail
  have hlt := hz7
  have hn2 := hn.lower
  have hwl := wire_len_few hn2
  have hll2 := lower_len n
  have HWi : Hid (∀ W, Below w7.heap.size w7 W → Calls Tryz.prog 44 #[.slice A7 n.length c7] W fun e w' => ∃ v, e = .returned v ∧ w'.ownsRow W.heap.size 5 1 v (wire (lower n)).length ((wire (lower n)).map byteV) ∧ Below W.heap.size W w') := Lib.hid fun W hW => by
    have := Wire A7 (lower n) c7 W (HC7.out.below hW) hn2
    rw [hll2] at this
    exact this
  have hNB : w.heap.size + 1 < w7.heap.size := hsz7
  generalize hwn : wire (lower n) = wn at *
  refine wp_region_gen mixed0 (by kernel_rfl) w7.heap.size (Nat.le_refl _) [.is (.slice A7 n.length c7), .own w7.heap.size 5 1 wn.length (wn.map byteV),
    .is (.pointer (some ⟨w.heap.size, 1, none⟩)), .is (.int .u16 t), .is (.int .u16 ((t : Int) / 256)), .is (.int .u8 ((t : Int) / 256)),
    .is (.pointer (some ⟨w.heap.size, 1, none⟩)), .is (.int .u16 t), .is (.int .u8 ((t : Int) % 256)),
    .is (.pointer (some ⟨w.heap.size + 1, 3, none⟩)), .is (.int .u32 g.ttl), .is (.int .u32 ((g.ttl : Int) / 16777216)), .is (.int .u8 ((g.ttl : Int) / 16777216)),
    .is (.pointer (some ⟨w.heap.size + 1, 3, none⟩)), .is (.int .u32 g.ttl), .is (.int .u32 ((g.ttl : Int) / 65536)), .is (.int .u8 ((g.ttl : Int) / 65536 % 256)),
    .is (.pointer (some ⟨w.heap.size + 1, 3, none⟩)), .is (.int .u32 g.ttl), .is (.int .u32 ((g.ttl : Int) / 256)), .is (.int .u8 ((g.ttl : Int) / 256 % 256)),
    .is (.pointer (some ⟨w.heap.size + 1, 3, none⟩)), .is (.int .u32 g.ttl), .is (.int .u8 ((g.ttl : Int) % 256)),
    .own w7.heap.size 5 1 8 (tailV t g.ttl), .own w7.heap.size 5 1 (wn.length + 8) (wn.map byteV ++ tailV t g.ttl), .own w7.heap.size 5 1 (wn.length + 8) (wn.map byteV ++ tailV t g.ttl)]
    (fun i => if i = 25 then 2 else 0) (fun j => if j = 1 ∨ j = 24 ∨ j = 25 ∨ j = 26 then 1 else 0) (by kernel_rfl) ?_ ?_ ?_
  · intro j
    rcases j with _ | _ | _ | _ | _ | _ | _ | _ | _ | _ | _ | _ | _ | _ | _ | _ | _ | _ | _ | _ | _ | _ | _ | _ | _ | _ | _ | j
    all_goals first
      | exact kind_is _ _
      | exact kind_own _ _ _ _ _ _ (Nat.le_refl _)
      | (have hx : ¬ (j + 27 = 1 ∨ j + 27 = 24 ∨ j + 27 = 25 ∨ j + 27 = 26) := by omega
         rw [if_neg hx]
         exact kind_any _)
  · intro i o hio vals W hE haf
    have e1 := (bcl (o := 1) hE (show w.heap.size < _ by omega)).trans u1
    have e3 := (bcl (o := 3) hE (show w.heap.size + 1 < _ by omega)).trans x3
    have q1 : IntKind.u8.wrap ((t : Int) / 256) = (t : Int) / 256 := by simp [IntKind.wrap, IntKind.bits, IntKind.signed]; omega
    have q2 : IntKind.u8.wrap (t : Int) = (t : Int) % 256 := by simp [IntKind.wrap, IntKind.bits, IntKind.signed]
    have q3 : IntKind.u8.wrap ((g.ttl : Int) / 16777216) = (g.ttl : Int) / 16777216 := by simp [IntKind.wrap, IntKind.bits, IntKind.signed]; omega
    have q4 : IntKind.u8.wrap ((g.ttl : Int) / 65536) = (g.ttl : Int) / 65536 % 256 := by simp [IntKind.wrap, IntKind.bits, IntKind.signed]
    have q5 : IntKind.u8.wrap ((g.ttl : Int) / 256) = (g.ttl : Int) / 256 % 256 := by simp [IntKind.wrap, IntKind.bits, IntKind.signed]
    have q6 : IntKind.u8.wrap (g.ttl : Int) = (g.ttl : Int) % 256 := by simp [IntKind.wrap, IntKind.bits, IntKind.signed]
    rcases i with _ | _ | _ | _ | _ | _ | _ | _ | _ | _ | _ | _ | _ | _ | _ | _ | _ | _ | _ | _ | _ | _ | _ | _ | _ | _ | _ | i
    all_goals first
      | (exfalso; simp at hio; done)
      | (simp at hio; subst hio; simp [bindD, rdB, Region.binds, factAt] at haf; simp [opYield_def, yieldUpon, relAct, dstAt, Act.put, Region.wanted, go_sem, haf, e1, e3, Ext.refl, factAt, kindT, q1, q2, q3, q4, q5, q6]; done)
      | skip
    all_goals
      simp at hio
      subst hio
      simp [bindD, rdB, Region.binds, factAt] at haf
    · simp [opYield_def, yieldUpon, relAct, dstAt, Act.put, Region.wanted, go_sem, haf, factAt, kindT]
      refine (HWi.out W hE).mono fun e W' h5 => ?_
      obtain ⟨v, he, ho, hb⟩ := h5
      exact ⟨v, he, hb, own_base ho hE.size⟩
    · simp [opYield_def, yieldUpon, relAct, dstAt, Act.put, Region.wanted, go_sem, haf, factAt, kindT]
      exact ⟨(Below.refl _ _).alloc (Nat.le_refl _) _, own_rowC W w7.heap.size 5 (tailV t g.ttl) hE.size (by simp [tailV])⟩
    · obtain ⟨h1, h24⟩ := haf
      obtain ⟨A8, c8, e8, _, hcs8⟩ := Cs.of_own h24
      refine yield_bytes rfl (.tmp 37) (.tmp 60) Tryz.underlying28 rfl (v := vals 1) (by simp [relAct, dstAt, Act.put, Act.eval]) h1 hE.size (us := tailV t g.ttl) (A := A8) (c := c8) (by simp [relAct, dstAt, Act.put, Act.eval, e8, tailV]) hcs8 (by simp [tailV, Value.oneCell']) (by simp [tailV]; omega) ?_
      intro v' W' h4 h5
      exact ⟨h5, h4⟩
  · intro vals W hE hF
    have h26 := hF 26 (by show 26 < 27; omega) (by kernel_rfl)
    simp [relAct, dstAt, Act.put]
    clear hF
    have hzW := hE.size
    have y0 := (bcl (o := 0) hE (show w.heap.size < _ by omega)).trans u0
    have y1 := (bcl (o := 1) hE (show w.heap.size < _ by omega)).trans u1
    have y2 := (bcl (o := 2) hE (show w.heap.size < _ by omega)).trans u2
    have y3 := (bcl (o := 3) hE (show w.heap.size < _ by omega)).trans u3
    have h27 : W.ownsRow w.heap.size 5 1 (vals 26) (headB n t g.ttl).length ((headB n t g.ttl).map byteV) := by
      have he : (headB n t g.ttl).map byteV = wn.map byteV ++ tailV t g.ttl := by
        unfold headB
        rw [hwn, List.map_append, map_tail ht2 hgtl]
      rw [he, show (headB n t g.ttl).length = wn.length + 8 by unfold headB; rw [hwn]; simp [be2, be4]]
      exact own_base h26 (by omega)
    have hbW := hb8.trans (hE.mono (by omega))
    have HH := Lib.hid h27
    have H5 := Lib.hid (own_below (H7.out) hE)
    clear h26 h27 u0 u1 u2 u3 x2 x3 hb4 hb5 hb7 hb8 H7 HWi hwn
    generalize vals 26 = vh at *
    have hDW : Cs W D [b.v] := HD0.out.below hbW
    have hBW : b.ok W := Cs.below HB0.out hbW
    have hl8 : b.l.length ≤ 8192 := (shp_of_chk ht.2.2.2.1 ht.2.2.2.2.1 ht.2.2.2.2.2.1 hok).2
    have hgl : g.low.bytes.length ≤ 1001100 := by
      have := wire_len_few (HG.out.n).lower
      simp [SigM.bytes, SigM.low, be2, be4]; omega
    have hhl : (headB n t g.ttl).length ≤ 1001100 := by
      have := wire_len_few hn2
      simp [headB, be2, be4]; omega
    clear hwl
    generalize hgb : g.low.bytes = gb at *
    generalize hhb : headB n t g.ttl = hb at *
    go_wp2_with fail
    refine (data1 A D n cap dcap t sttl b W ht hok hDW hBW hcap hcap2).mono ?_
    rintro e W1 ⟨A1, x, cx, rfl, hA1, hxl, hxo, hbW1⟩
    have hzW1 := hbW1.size
    obtain ⟨bk, off, rfl, hbk, hcell⟩ := hA1 0 _ rfl
    rw [Nat.add_zero] at hcell
    have hxv : x.v = .slice x.A b.l.length x.cap := by unfold Blob.v; rw [hxl]
    rw [hxv] at hcell
    have HX := Lib.hid hxo
    have hbWW1 := hbW.trans (hbW1.mono (by omega))
    have H5' := Lib.hid (own_below H5.out hbW1)
    have HH' := Lib.hid (own_below HH.out hbW1)
    obtain ⟨Ag, cg, rfl, _, hcg⟩ := Cs.of_own H5'.out
    obtain ⟨Ah, ch, rfl, _, hch⟩ := Cs.of_own HH'.out
    have HCg := Lib.hid hcg
    have HCh := Lib.hid hch
    clear hA1 hxo y0 y1 y2 y3 hcg hch hDW hBW hE hbW
    go_wp2_with fail
    refine wp_loop_rounds 2 ?_
    rw [rounds_succ]
    go_wp2_with fail
    have hc4 := concat4 W1 Ag Ah x.A gb hb b.l cg ch x.cap HCg.out HCh.out (by have := HX.out; unfold Blob.ok at this; rw [hxl] at this; exact this) (by omega) (by omega) (by omega)
    refine hc4.mono ?_
    rintro e W3 ⟨v, rfl, hown, hbl⟩
    have hbF := hbWW1.trans (hbl.mono (by omega))
    have HR := Lib.hid (own_base hown (show w.heap.size ≤ W1.heap.size by omega))
    clear hown hc4
    go_wp2_with fail
    rw [rounds_succ]
    go_wp2_with fail
    go_ret
    refine ⟨v, rfl, ?_, hbF⟩
    unfold msg1
    rw [hgb, hhb]
    exact HR.out
end Nm
end Go.Proofs.YthogembgndkmpaaGreatDoor
