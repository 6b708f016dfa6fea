/-
  The walk of signetlaw10.MeterRanks.
-/
import Derived.Test.YtfhjboloielbnaaMLoads
import Derived.Test.YtfhjboloielbnaaMOrders
import Derived.Test.YtfhjboloielbnaaRankTab
namespace Go.Proofs.Ytfhjboloielbnaa
open Go.RowKit
set_option linter.unusedVariables false
namespace Meter
open Flt

def wordsN (N : List NN) : List Nat := N.map (·.n)
theorem nums_words (N : List NN) : nums (wordsN N) = N := by
  unfold nums wordsN
  induction N with
  | nil => rfl
  | cons a N ih =>
    rw [List.map_cons, List.filterMap_cons]
    have : toNN a.n = some a := by unfold toNN; rw [dif_pos ⟨a.lt, a.nn⟩]
    rw [this]
    simp only
    rw [ih]
theorem words_cells (N : List NN) : (wordsN N).map fV = N.map encN := by unfold wordsN; rw [List.map_map]; rfl
theorem words_w (N : List NN) : ∀ x ∈ wordsN N, W64 x := by
  intro x hx
  obtain ⟨a, _, rfl⟩ := List.mem_map.1 hx
  exact a.lt
theorem words_len (N : List NN) : (wordsN N).length = N.length := by unfold wordsN; rw [List.length_map]
theorem rankV_words {N : List NN} (h : 0 < N.length) (q : Nat) : rankV (wordsN N) q = atN (sortN N) (rankAt N.length q) := by
  unfold rankV
  rw [nums_words, if_neg (by omega)]
theorem sortN_len (N : List NN) : (sortN N).length = N.length := by unfold sortN; exact List.length_mergeSort _
theorem atN_eq {S : List NN} {j : Nat} (h : j < S.length) : atN S j = S[j].n := by
  unfold atN
  simp [List.getD, h]
theorem at_mem {N : List NN} {j : Nat} (h : j < N.length) : ∃ a ∈ N, atN (sortN N) j = a.n := by
  have hj : j < (sortN N).length := by rw [sortN_len]; exact h
  exact ⟨_, (sortN_perm N).mem_iff.1 (List.getElem_mem hj), atN_eq hj⟩
theorem at_mono {N : List NN} {i j : Nat} (hij : i ≤ j) (h : j < N.length) : okey (atN (sortN N) i) ≤ okey (atN (sortN N) j) := by
  have hj : j < (sortN N).length := by rw [sortN_len]; exact h
  rw [atN_eq hj, atN_eq (show i < (sortN N).length by omega)]
  rcases Nat.lt_or_eq_of_le hij with g | g
  · exact List.pairwise_iff_getElem.1 (sortN_srt N) i j (by omega) hj g
  · subst g; exact Int.le_refl _
theorem at_least {N : List NN} {a : NN} (ha : a ∈ N) (h : ∀ x ∈ N, okey a.n ≤ okey x.n) : atN (sortN N) 0 = a.n := by
  have hm : 0 < N.length := List.length_pos_of_mem ha
  obtain ⟨b, hb, e⟩ := at_mem hm
  obtain ⟨i, hi, e2⟩ := List.mem_iff_getElem.1 ((sortN_perm N).mem_iff.2 ha)
  have h2 := at_mono (Nat.zero_le i) (show i < N.length by rw [← sortN_len]; exact hi)
  rw [atN_eq hi, e2, e] at h2
  have h3 := h b hb
  rw [e, okeyN (show okey b.n = okey a.n by omega)]
theorem at_most {N : List NN} {a : NN} (ha : a ∈ N) (h : ∀ x ∈ N, okey x.n ≤ okey a.n) : atN (sortN N) (N.length - 1) = a.n := by
  have hm : 0 < N.length := List.length_pos_of_mem ha
  obtain ⟨b, hb, e⟩ := at_mem (show N.length - 1 < N.length by omega)
  obtain ⟨i, hi, e2⟩ := List.mem_iff_getElem.1 ((sortN_perm N).mem_iff.2 ha)
  have hi2 : i < N.length := by rw [← sortN_len]; exact hi
  have h2 := at_mono (show i ≤ N.length - 1 by omega) (show N.length - 1 < N.length by omega)
  rw [atN_eq hi, e2, e] at h2
  have h3 := h b hb
  rw [e, okeyN (show okey b.n = okey a.n by omega)]
theorem selfEq (b : Nat) : (FloatKind.f64.format.order b b == some .eq) = !isNaN b := by
  have := selfNaN b
  rw [← this]
  simp [bne]

theorem RankN {N : List NN} {A : Option Addr} {m cap q : Nat} {w : World} (hc : Cs w A (N.map encN)) (hm : N.length = m) (h0 : 0 < m) (h1 : m ≤ 100) (hq : W64 q) :
    Calls Try.prog 16 #[.slice A m cap, .float .f64 q] w fun e w' => e = .returned (.float .f64 (atN (sortN N) (rankAt m q))) ∧ Below w.heap.size w w' := by
  have h := Rank A (wordsN N) cap q w (by rw [words_cells]; exact hc) (words_w N) (by rw [words_len]; omega) hq
  rw [words_len, hm] at h
  refine h.mono fun e w' ⟨he, hb⟩ => ⟨?_, hb⟩
  rw [he, rankV_words (by omega), hm]

def RanksR (l : List Nat) (w w0 : World) (v i : Value) (wr : World) : Prop :=
  ∃ k : Nat, k ≤ l.length ∧ i = .int .i64 k ∧ wr.ownsRow w.heap.size 25 1 v (nums (l.take k)).length ((nums (l.take k)).map encN) ∧ Below w.heap.size w wr
/-- the least, the greatest so far -/
def EndsR (N : List NN) (w w0 : World) (s t i : Value) (wr : World) : Prop :=
  ∃ (k : Nat) (a b : NN), k ≤ N.length ∧ i = .int .i64 k ∧ s = .float .f64 a.n ∧ t = .float .f64 b.n ∧ a ∈ N ∧ b ∈ N ∧ (∀ j (h : j < N.length), j < k → okey a.n ≤ okey N[j].n ∧ okey N[j].n ≤ okey b.n) ∧ Below w0.heap.size w0 wr
/-- was it there? -/
def ThereR (N : List NN) (x : Nat) (w0 : World) (t i : Value) (wr : World) : Prop :=
  ∃ (k : Nat) (f : Bool), k ≤ N.length ∧ i = .int .i64 k ∧ t = .bool f ∧ (f = true ↔ ∃ j, ∃ h : j < N.length, j < k ∧ bitsT N[j].n = bitsT x) ∧ Below w0.heap.size w0 wr
set_option maxHeartbeats 4000000 in
theorem MeterRanks (A : Option Addr) (l : List Nat) (cap p q : Nat) (w : World) (hc : Cs w A (l.map word64)) (hw : ∀ x ∈ l, W64 x) (hp : p ≤ 255) (hq : q ≤ 255) :
    Calls Try.prog 4 #[.slice A l.length cap, .int .u8 p, .int .u8 q] w fun e w' => e = .returned (.bool true) ∧ Below w.heap.size w w' := by
  have HW := Lib.hid hw
  clear hw
  by_cases hlen : 100 < l.length
  · have hlen' : (100 : Int) < (l.length : Int) := by omega
    go_enter Try.func4, Try.ntmps4
    go_wp2_with (go_at_call 10; refine (known _).mono ?_; rintro e w1 ⟨rfl, hb1⟩)
    go_ret
    exact ⟨rfl, hb1⟩
  · have hlen' : (l.length : Int) ≤ 100 := by omega
    obtain ⟨i0, hi, hz0, hz1, hz2⟩ := info_parts info_f64
    go_enter Try.func4, Try.ntmps4
    go_wp2_with (first | (go_at_call 10; refine (known _).mono ?_; rintro e w1 ⟨rfl, hb1⟩))
    have H1s := hb1.size
    go_loopw [7, 8] (RanksR l w w1) (fun _ i _ => l.length - (intOf i).toNat)
    case atStart => exact ⟨0, Nat.zero_le _, rfl, World.ownsRow_nil _ _ _ _, hb1⟩
    case round =>
      obtain ⟨k, hk, rfl, hown, hbel⟩ := hrel
      have hm6 : (nums (l.take k)).length ≤ 1000000 := by have := nums_le (l.take k); have := List.length_take_le k l; omega
      by_cases hlt : k < l.length
      · obtain ⟨bk, off, rfl, hbl, hc0⟩ := Cs.word hc hlt
        have hc1 := (hbel.cell (p := ⟨bk, off + k, none⟩) hbl).trans hc0
        have hwk := HW.out l[k] (List.getElem_mem hlt)
        have hse := selfEq l[k]
        cases nx : isNaN l[k]
        · rw [nx] at hse
          have HN := Lib.hid (nums_succ_num l k hlt hwk nx)
          go_wp2_with (first | (go_at_call 12; refine (at_ _ _).mono ?_; rintro e w' ⟨rfl, rfl⟩) | (at_builtin; refine wpList_push2 hown hbel.size [encN ⟨l[k], hwk, nx⟩] rfl (by simp [encN, Value.oneCell']) hi hz0 hz1 hz2 rfl (by decide) rfl _ _ 30 Try.underlying30 rfl rfl rfl (by unfold maxLen; omega) (by omega) ?_; intro v4 w4 hown4 hbw4; have hbw5 := hbel.trans hbw4))
          refine ⟨⟨k + 1, by omega, by go_num, ?_, hbw5⟩, by simp [intOf]; omega⟩
          rw [HN.out, List.length_append, List.map_append]; exact hown4
        · rw [nx] at hse
          have HN := Lib.hid (nums_succ_nan l k hlt nx)
          go_wp2_with (first | (go_at_call 12; refine (at_ _ _).mono ?_; rintro e w' ⟨rfl, rfl⟩))
          refine ⟨⟨k + 1, by omega, by go_num, ?_, hbel⟩, by simp [intOf]; omega⟩
          rw [HN.out]; exact hown
      · have hkl : k = l.length := by omega
        rw [hkl, List.take_length] at hown
        have hn6 : (nums l).length ≤ 100 := by have := nums_le l; omega
        obtain ⟨A2, cap2, rfl, hcN⟩ := Cs.own' hown
        generalize nums l = N at *
        clear hkl hown hm6
        obtain ⟨m, hm⟩ : ∃ m, N.length = m := ⟨_, rfl⟩
        have hm100 : m ≤ 100 := by omega
        have hcW : Cs wr A2 ((wordsN N).map fV) := by rw [words_cells]; exact hcN
        have HCW := Lib.hid hcW
        have HWL := Lib.hid (words_len N)
        clear hcW
        rw [hm] at HWL
        by_cases h0 : m = 0
        · have h0' : ((m : Int) == 0) = true := by rw [beq_iff_eq]; omega
          have H0 := Lib.hid h0
          have HM := Lib.hid hm
          have o1 : FloatKind.f64.format.order 9221120237041090561 9221120237041090561 = none := by decide +kernel
          rw [hm]
          clear h0 hm
          go_wp2_with fail
          have hR := Rank A2 (wordsN N) cap2 4602678819172646912 wr HCW.out (words_w N) (by have := HWL.out; omega) (by unfold W64; omega)
          rw [HWL.out] at hR
          refine hR.mono ?_
          rintro e w5 ⟨rfl, hb5⟩
          have hrv : rankV (wordsN N) 4602678819172646912 = 9221120237041090561 := by
            unfold rankV
            rw [nums_words, if_pos (by rw [HM.out, H0.out])]; rfl
          rw [hrv]
          clear hrv
          go_wp2_with fail
          go_ret
          exact ⟨rfl, hbel.trans (hb5.mono hbel.size)⟩
        · have h0' : ((m : Int) == 0) = false := by rw [beq_eq_false_iff_ne]; omega
          have hmp : 0 < m := by omega
          have HM := Lib.hid hm
          rw [hm]
          obtain ⟨b2, off2, a0, rfl, hbl2, hcc, ha0⟩ : ∃ b2 off2, ∃ a0 : NN, A2 = some ⟨b2, off2, none⟩ ∧ b2 < wr.heap.size ∧ wr.cell? ⟨b2, off2, none⟩ = some (.float .f64 a0.n) ∧ a0 ∈ N := by
            obtain ⟨b2, off2, e, h1, h2⟩ := Cs.nn hcN (i := 0) (by omega)
            rw [Nat.add_zero] at h2
            exact ⟨b2, off2, _, e, h1, h2, List.getElem_mem _⟩
          have HCN := Lib.hid hcN
          have HA0 := Lib.hid ha0
          clear h0 hm hcN ha0 hn6
          go_wp2_with fail
          go_quiet (fail)
          go_wp2_with fail
          generalize hw0 : wr.drewN nq = w0
          have hb0 : Below w.heap.size w w0 := by rw [← hw0]; exact below_drewN hbel _
          have hcN0 : Cs w0 (some ⟨b2, off2, none⟩) (N.map encN) := by rw [← hw0]; exact HCN.out
          have HCN0 := Lib.hid hcN0
          clear hw0 hcN0 HCN HCW hbel hcc hbl2
          go_loopw [11, 12, 13] (EndsR N w w0) (fun _ _ i _ => m - (intOf i).toNat)
          case atStart => exact ⟨0, a0, a0, Nat.zero_le _, rfl, rfl, rfl, HA0.out, HA0.out, fun j h hj => by omega, Below.refl _ _⟩
          case round =>
            obtain ⟨j, a, b, hj, rfl, rfl, rfl, hA, hB, hends, hbw⟩ := hrel
            have HE := Lib.hid hends
            have HAm := Lib.hid hA
            have HBm := Lib.hid hB
            have hjm : j ≤ m := by have := HM.out; omega
            clear hends hA hB hj
            by_cases hlt2 : j < m
            · have hjN : j < N.length := by have := HM.out; omega
              obtain ⟨b3, off3, e3, hbl3, hcc3⟩ := Cs.nn HCN0.out (i := j) hjN
              cases e3
              have hcj := (hbw.cell (p := ⟨b2, off2 + j, none⟩) hbl3).trans hcc3
              have HX : Hid (∃ h : j < N.length, N[j] = N[j]) := Lib.hid ⟨hjN, rfl⟩
              obtain ⟨x, hx⟩ : ∃ x, N[j] = x := ⟨_, rfl⟩
              have HXX := Lib.hid hx
              rw [hx] at hcj
              have hxw := x.lt
              have haw := a.lt
              have hbw2 := b.lt
              clear hx hcc3
              have hout : ∀ a' b' : NN, a' ∈ N → b' ∈ N → okey a'.n ≤ okey a.n → okey b.n ≤ okey b'.n → okey a'.n ≤ okey x.n → okey x.n ≤ okey b'.n → ∀ j' (h : j' < N.length), j' < j + 1 → okey a'.n ≤ okey N[j'].n ∧ okey N[j'].n ≤ okey b'.n := by
                intro a' b' _ _ g1 g2 g3 g4 j' h hj'
                by_cases hjj : j' = j
                · subst hjj; rw [HXX.out]; exact ⟨g3, g4⟩
                · have := HE.out j' h (by omega); omega
              have HOUT := Lib.hid hout
              have HXm : Hid (x ∈ N) := by show _; rw [← HXX.out]; exact List.getElem_mem hjN
              clear hout
              by_cases h1 : okey x.n < okey a.n <;> by_cases h2 : okey b.n < okey x.n
              all_goals
                first
                  | have d1 : decide (ordI x.n a.n < 0) = true := by rw [decide_eq_true_eq]; exact (cmp3_neg _ _).2 h1
                  | have d1 : decide (ordI x.n a.n < 0) = false := by rw [decide_eq_false_iff_not, ordI, cmp3_neg]; exact h1
                first
                  | have d2 : decide (0 < ordI x.n b.n) = true := by rw [decide_eq_true_eq]; exact (cmp3_pos _ _).2 h2
                  | have d2 : decide (0 < ordI x.n b.n) = false := by rw [decide_eq_false_iff_not, ordI, cmp3_pos]; exact h2
                have H1 := Lib.hid h1
                have H2 := Lib.hid h2
                clear h1 h2
                go_wp2_with (first
                  | (go_at_call 13; ((with_reducible refine (RefOrder x.n a.n hxw haw _).mono ?_); rintro e w' ⟨rfl, rfl⟩))
                  | (go_at_call 13; ((with_reducible refine (RefOrder x.n b.n hxw hbw2 _).mono ?_); rintro e w' ⟨rfl, rfl⟩)))
              · exact ⟨⟨j + 1, x, x, by omega, by go_num, rfl, rfl, HXm.out, HXm.out, HOUT.out x x HXm.out HXm.out (by have := H1.out; omega) (by have := H2.out; omega) (Int.le_refl _) (Int.le_refl _), hbw⟩, by simp [intOf]; omega⟩
              · exact ⟨⟨j + 1, x, b, by omega, by go_num, rfl, rfl, HXm.out, HBm.out, HOUT.out x b HXm.out HBm.out (by have := H1.out; omega) (Int.le_refl _) (Int.le_refl _) (by have := H2.out; omega), hbw⟩, by simp [intOf]; omega⟩
              · exact ⟨⟨j + 1, a, x, by omega, by go_num, rfl, rfl, HAm.out, HXm.out, HOUT.out a x HAm.out HXm.out (Int.le_refl _) (by have := H2.out; omega) (by have := H1.out; omega) (Int.le_refl _), hbw⟩, by simp [intOf]; omega⟩
              · exact ⟨⟨j + 1, a, b, by omega, by go_num, rfl, rfl, HAm.out, HBm.out, HOUT.out a b HAm.out HBm.out (Int.le_refl _) (Int.le_refl _) (by have := H1.out; omega) (by have := H2.out; omega), hbw⟩, by simp [intOf]; omega⟩
            · have hall : ∀ y ∈ N, okey a.n ≤ okey y.n ∧ okey y.n ≤ okey b.n := by
                intro y hy
                obtain ⟨i, hi, rfl⟩ := List.mem_iff_getElem.1 hy
                exact HE.out i hi (by have := HM.out; omega)
              have HLO := Lib.hid (at_least HAm.out (fun y hy => (hall y hy).1))
              have HHI := Lib.hid (at_most HBm.out (fun y hy => (hall y hy).2))
              clear hall
              have hq1 := fun t W => run_float_arith (P := Try.prog) W .quo t .f64 (floatOfInt .f64 (p : Int)) 4643176031446892544 (pq p) (pq_some hp)
              have hq2 := fun t W => run_float_arith (P := Try.prog) W .quo t .f64 (floatOfInt .f64 (q : Int)) 4643176031446892544 (pq q) (pq_some hq)
              go_wp2_with fail
              refine (RankN (HCN0.out.below hbw) HM.out hmp hm100 (pq_lt hp)).mono ?_
              rintro e w5 ⟨rfl, hb5⟩
              have hbw5 := hbw.trans (hb5.mono hbw.size)
              go_wp2_with fail
              refine (RankN (HCN0.out.below hbw5) HM.out hmp hm100 (pq_lt hq)).mono ?_
              rintro e w6 ⟨rfl, hb6⟩
              have hbw6 := hbw5.trans (hb6.mono hbw5.size)
              have HPQ : Hid (p ≤ q → okey (atN (sortN N) (rankAt m (pq p))) ≤ okey (atN (sortN N) (rankAt m (pq q)))) := Lib.hid (fun h => by
                have := HM.out
                exact at_mono (rank_rises h hq hmp hm100) (by have := rank_le m (pq q); omega))
              obtain ⟨xa, hxa, hxe⟩ := at_mem (N := N) (j := rankAt m (pq p)) (by have := HM.out; have := rank_le m (pq p); omega)
              obtain ⟨xb, hxb, hxf⟩ := at_mem (N := N) (j := rankAt m (pq q)) (by have := HM.out; have := rank_le m (pq q); omega)
              rw [hxe]
              rw [hxe, hxf] at HPQ
              rw [hxf]
              have HXA := Lib.hid hxa
              have hxaw := xa.lt
              have hxbw := xb.lt
              clear hxa hxe hxb hxf hb5 hb6 hbw5 hbw hq1 hq2
              go_wp2_with fail
              have hcN6 := HCN0.out.below hbw6
              have HCN6 := Lib.hid hcN6
              have hb06 := hb0.trans (hbw6.mono hb0.size)
              clear hcN6 hbw6
              go_loopw [16, 17] (ThereR N xa.n w6) (fun _ i _ => m - (intOf i).toNat)
              case atStart => exact ⟨0, false, Nat.zero_le _, rfl, rfl, ⟨(fun h => by cases h), (fun ⟨_, _, h, _⟩ => by omega)⟩, Below.refl _ _⟩
              case round =>
                obtain ⟨i, f, hi, rfl, rfl, hf, hbx⟩ := hrel
                have HF := Lib.hid hf
                have him : i ≤ m := by have := HM.out; omega
                clear hf hi
                by_cases hlt3 : i < m
                · have hiN : i < N.length := by have := HM.out; omega
                  obtain ⟨b4, off4, e4, hbl4, hcc4⟩ := Cs.nn HCN6.out (i := i) hiN
                  cases e4
                  have hcj := (hbx.cell (p := ⟨b2, off2 + i, none⟩) hbl4).trans hcc4
                  obtain ⟨x, hx⟩ : ∃ x, N[i] = x := ⟨_, rfl⟩
                  have HXX := Lib.hid hx
                  rw [hx] at hcj
                  have HS : ∀ f' : Bool, f' = (f || decide (bitsT x.n = bitsT xa.n)) → (f' = true ↔ ∃ j', ∃ h : j' < N.length, j' < i + 1 ∧ bitsT N[j'].n = bitsT xa.n) := by
                    intro f' hf'
                    rw [hf', Bool.or_eq_true, decide_eq_true_eq, HF.out]
                    constructor
                    · rintro (⟨j', h, h2, h3⟩ | h3)
                      · exact ⟨j', h, by omega, h3⟩
                      · exact ⟨i, hiN, by omega, by rw [HXX.out]; exact h3⟩
                    · rintro ⟨j', h, h2, h3⟩
                      by_cases hji : j' = i
                      · right; subst hji; rw [HXX.out] at h3; exact h3
                      · left; exact ⟨j', h, by omega, h3⟩
                  have HSS := Lib.hid HS
                  clear hx hcc4 HS
                  cases f
                  · go_wp2_with (first | (go_at_call 17; refine (same _ _ _).mono ?_; rintro e w' ⟨rfl, rfl⟩))
                    exact ⟨⟨i + 1, _, by omega, by go_num, rfl, HSS.out _ (by simp), hbx⟩, by simp [intOf]; omega⟩
                  · go_wp2_with (first | (go_at_call 17; refine (same _ _ _).mono ?_; rintro e w' ⟨rfl, rfl⟩))
                    exact ⟨⟨i + 1, true, by omega, by go_num, rfl, HSS.out _ (by simp), hbx⟩, by simp [intOf]; omega⟩
                · have hft : f = true := by
                    rw [HF.out]
                    obtain ⟨i', hi', e⟩ := List.mem_iff_getElem.1 HXA.out
                    exact ⟨i', hi', by have := HM.out; omega, by rw [e]⟩
                  subst hft
                  have R0 := (RankN (q := 0) (HCN6.out.below hbx) HM.out hmp hm100 (by unfold W64; omega) (cap := cap2))
                  rw [(rank_ends hm100).1, HLO.out] at R0
                  have hend := (rank_ends hm100).2
                  have hhi := HHI.out
                  rw [HM.out] at hhi
                  have HHI2 := Lib.hid hhi
                  have HEND := Lib.hid hend
                  clear hhi hend
                  go_wp2_with fail
                  refine R0.mono ?_
                  rintro e w7 ⟨rfl, hb7⟩
                  have hb7x := hbx.trans (hb7.mono hbx.size)
                  go_wp2_with (first | (go_at_call 17; refine (same _ _ _).mono ?_; rintro e w' ⟨rfl, rfl⟩))
                  have R1 := (RankN (q := 4607182418800017408) (HCN6.out.below hb7x) HM.out hmp hm100 (by unfold W64; omega) (cap := cap2))
                  rw [HEND.out, HHI2.out] at R1
                  refine R1.mono ?_
                  rintro e w8 ⟨rfl, hb8⟩
                  have hb8x := hb7x.trans (hb8.mono hb7x.size)
                  have hfin := hb06.trans (hb8x.mono hb06.size)
                  clear hb7 hb8 hb7x R0 R1
                  by_cases hpq : q < p
                  · go_wp2_with (first | (go_at_call 17; refine (same _ _ _).mono ?_; rintro e w' ⟨rfl, rfl⟩))
                    go_ret
                    exact ⟨rfl, hfin⟩
                  · have hord : decide (ordI xa.n xb.n ≤ 0) = true := by
                      have := HPQ.out (by omega)
                      rw [decide_eq_true_eq]
                      have h3 := cmp3_pos (okey xa.n) (okey xb.n)
                      unfold ordI
                      omega
                    go_wp2_with (first | (go_at_call 17; refine (same _ _ _).mono ?_; rintro e w' ⟨rfl, rfl⟩) | (go_at_call 11; refine (Order xa.n xb.n hxaw hxbw _).mono ?_; rintro e w' ⟨rfl, rfl⟩))
                    go_ret
                    exact ⟨rfl, hfin⟩

end Meter
end Go.Proofs.Ytfhjboloielbnaa
