/-
  Contract of the reference's Rank: an insertion sort.
-/
import Derived.Test.YtfhjboloielbnaaNN
import Derived.Test.YtfhjboloielbnaaRound2
import Derived.Test.YtfhjboloielbnaaApp
import Derived.Deep.RegionHeld3
import Derived.Deep.QuietTactic
import Derived.BigQuiet
import Derived.Outline
namespace Go.Proofs.Ytfhjboloielbnaa
open Go.RowKit
set_option linter.unusedVariables false
namespace Meter
open Flt

def okN (x y : NN) : Prop := okey x.n ≤ okey y.n
/-- a row in order -/
def Srt (xs : List NN) : Prop := xs.Pairwise okN
theorem srt_insert {xs : List NN} {v : NN} {t : Nat} (ht : t ≤ xs.length) (hs : Srt xs) (hhi : ∀ j (h : j < xs.length), t ≤ j → okey v.n < okey xs[j].n) (hlo : t = 0 ∨ ∃ h : t - 1 < xs.length, okey xs[t-1].n ≤ okey v.n) :
    Srt (xs.take t ++ v :: xs.drop t) := by
  unfold Srt at *
  rw [List.pairwise_append]
  refine ⟨hs.sublist (List.take_sublist _ _), ?_, ?_⟩
  · rw [List.pairwise_cons]
    refine ⟨?_, hs.sublist (List.drop_sublist _ _)⟩
    intro y hy
    obtain ⟨j, hj, rfl⟩ := List.mem_iff_getElem.1 hy
    rw [List.length_drop] at hj
    rw [List.getElem_drop]
    exact Int.le_of_lt (hhi (t + j) (by omega) (by omega))
  · intro a ha b hb
    obtain ⟨i, hi, rfl⟩ := List.mem_iff_getElem.1 ha
    rw [List.length_take] at hi
    rw [List.getElem_take]
    have hiv : okN xs[i] v := by
      rcases hlo with h0 | ⟨h1, h2⟩
      · omega
      · rcases Nat.lt_or_ge i (t - 1) with h3 | h3
        · have := List.pairwise_iff_getElem.1 hs i (t-1) (by omega) h1 h3
          unfold okN at *; omega
        · have : i = t - 1 := by omega
          subst this; exact h2
    rcases List.mem_cons.1 hb with rfl | hb
    · exact hiv
    · obtain ⟨j, hj, rfl⟩ := List.mem_iff_getElem.1 hb
      rw [List.length_drop] at hj
      rw [List.getElem_drop]
      have := hhi (t + j) (by omega) (by omega)
      unfold okN at *; omega
theorem perm_insert (xs : List NN) (v : NN) (t : Nat) : (xs.take t ++ v :: xs.drop t).Perm (xs ++ [v]) := by
  refine List.perm_middle.trans ?_
  rw [List.take_append_drop]
  exact (List.perm_append_singleton v xs).symm
/-- one row alone stands in order -/
theorem srt_unique {xs ys : List NN} (hp : xs.Perm ys) (hx : Srt xs) (hy : Srt ys) : xs = ys := by
  refine List.Perm.eq_of_pairwise (le := okN) ?_ hx hy hp
  intro a b _ _ h1 h2
  unfold okN at *
  exact okeyN (by omega)

def RRankR (l : List Nat) (w : World) (v i : Value) (wr : World) : Prop :=
  ∃ (k : Nat) (xs : List NN) (A : Option Addr) (cap : Nat), k ≤ l.length ∧ i = .int .i64 k ∧ xs.Perm (nums (l.take k)) ∧ Srt xs ∧ xs.length ≤ k ∧ xs.length ≤ cap ∧ (A = none → cap = 0) ∧ v = .slice A xs.length cap ∧ Cs wr A (xs.map encN) ∧ Below w.heap.size w wr
def RRankI (xs : List NN) (v : NN) (wo : World) (i : Value) (wr : World) : Prop :=
  ∃ t : Nat, t ≤ xs.length ∧ i = .int .i64 t ∧ (∀ j (h : j < xs.length), t ≤ j → okey v.n < okey xs[j].n) ∧ Below wo.heap.size wo wr
theorem Cs.nn {w : World} {A : Option Addr} {xs : List NN} (h : Cs w A (xs.map encN)) {i : Nat} (hi : i < xs.length) :
    ∃ b off, A = some ⟨b, off, none⟩ ∧ b < w.heap.size ∧ w.cell? ⟨b, off + i, none⟩ = some (.float .f64 xs[i].n) := by
  refine h i _ ?_
  simp [encN, hi]
theorem cmp3_pos (a b : Int) : 0 < cmp3 a b ↔ b < a := by unfold cmp3; (repeat' split) <;> omega

theorem Cs.drop {w : World} {A : Option Addr} {us : List Value} (h : Cs w A us) (t cap : Nat) (hc : us.length ≤ cap) : Cs w (if cap = t then A else A.map (fun x => x.add t)) (us.drop t) := by
  intro i u hu
  rw [List.getElem?_drop] at hu
  have hlt : t + i < us.length := by
    rcases Nat.lt_or_ge (t + i) us.length with h1 | h1
    · exact h1
    · rw [List.getElem?_eq_none h1] at hu; cases hu
  obtain ⟨b, off, e, hb, hcell⟩ := h _ _ hu
  rw [if_neg (by omega), e]
  refine ⟨b, off + t, by rw [Option.map_some, add_plain], hb, ?_⟩
  rw [Nat.add_assoc]; exact hcell
theorem Cs.take {w : World} {A : Option Addr} {us : List Value} (h : Cs w A us) (t : Nat) : Cs w A (us.take t) := by
  intro i u hu
  rw [List.getElem?_take] at hu
  split at hu
  · exact h i u hu
  · cases hu
theorem Cs.new {w : World} (u : Value) (T : TypeId) : Cs (w.alloc (.cells #[u] T)) (some ⟨w.heap.size, 0, none⟩) [u] := by
  intro i v hv
  cases i with
  | zero => simp at hv; subst hv; exact ⟨_, _, rfl, by simp, by rw [cell_of_row _ _ 0 _ _ _ (heap_alloc_new w _)]; rfl⟩
  | succ i => simp at hv
theorem Cs.drewN {w : World} {A : Option Addr} {us : List Value} (h : Cs w A us) (n : Nat) : Cs (w.drewN n) A us := h

theorem encs1 {xs : List NN} : ∀ u ∈ xs.map encN, u.oneCell' = true := by intro u hu; obtain ⟨y, _, rfl⟩ := List.mem_map.1 hu; rfl
theorem encs2 (n : Nat) (xs : List NN) : ∀ u ∈ [Value.float .f64 n] ++ xs.map encN, u.oneCell' = true := by
  intro u hu
  rcases List.mem_append.1 hu with hu | hu
  · simp at hu; subst hu; rfl
  · exact encs1 u hu

theorem chain4 {w wo wr W w5 w6 : World} (a : Below w.heap.size w wo) (b : Below wo.heap.size wo wr) (c : Below wr.heap.size wr W) (d : Below W.heap.size W w5) (e : Below w5.heap.size w5 w6) : Below w.heap.size w w6 := by
  have h1 := a.trans (b.mono a.size)
  have h2 := h1.trans (c.mono h1.size)
  have h3 := h2.trans (d.mono h2.size)
  exact h3.trans (e.mono h3.size)
theorem rr_step {l : List Nat} {w w6 : World} {k t cap6 : Nat} {xs : List NN} {A6 : Option Addr} (hlt : k < l.length) (hwk : W64 l[k]) (nx : isNaN l[k] = false)
    (hp : xs.Perm (nums (l.take k))) (hs : Srt xs) (hmk : xs.length ≤ k) (ht : t ≤ xs.length) (hhi : ∀ j (h : j < xs.length), t ≤ j → okey l[k] < okey xs[j].n)
    (hlo : t = 0 ∨ ∃ h : t - 1 < xs.length, okey xs[t-1].n ≤ okey l[k])
    (hc : Cs w6 A6 ((xs.take t).map encN ++ ([.float .f64 l[k]] ++ (xs.drop t).map encN))) (hcap : t + (1 + (xs.length - t)) ≤ cap6) (hb : Below w.heap.size w w6) :
    RRankR l w (.slice A6 (t + (1 + (xs.length - t))) cap6) (.int .i64 ((k : Int) + 1)) w6 := by
  have hlen : (xs.take t ++ (⟨l[k], hwk, nx⟩ : NN) :: xs.drop t).length = t + (1 + (xs.length - t)) := by simp; omega
  refine ⟨k + 1, xs.take t ++ ⟨l[k], hwk, nx⟩ :: xs.drop t, A6, cap6, by omega, by go_num, ?_, srt_insert ht hs hhi hlo, by rw [hlen]; omega, by rw [hlen]; exact hcap, ?_, by rw [hlen], ?_, hb⟩
  · rw [nums_succ_num l k hlt hwk nx]
    exact (perm_insert _ _ _).trans (hp.append_right _)
  · intro h
    rw [h] at hc
    obtain ⟨b, off, e, _⟩ := hc t (.float .f64 l[k]) (by
      have e1 : ((xs.take t).map encN).length = t := by simp; omega
      rw [List.getElem?_append_right (by omega), e1]
      simp)
    cases e
  · have e2 : (xs.take t ++ (⟨l[k], hwk, nx⟩ : NN) :: xs.drop t).map encN = (xs.take t).map encN ++ ([.float .f64 l[k]] ++ (xs.drop t).map encN) := by simp [encN]
    rw [e2]; exact hc

set_option maxHeartbeats 2000000 in
theorem RefRank (A : Option Addr) (l : List Nat) (cap q : Nat) (w : World) (hc : Cs w A (l.map fV)) (hw : ∀ x ∈ l, W64 x) (hl : l.length ≤ 1000000) (hq : W64 q) :
    Calls Try.prog 25 #[.slice A l.length cap, .float .f64 q] w fun e w' => (∃ xs, xs.Perm (nums l) ∧ Srt xs ∧ e = .returned (.float .f64 (if xs.length = 0 then nanB else atN xs (rankAt xs.length q)))) ∧ Below w.heap.size w w' := by
  obtain ⟨i0, hi, hz0, hz1, hz2⟩ := info_parts info_f64
  have HW := Lib.hid hw
  clear hw
  go_enter Try.func25, Try.ntmps25
  go_wp2
  go_loopw [5, 6] (RRankR l w) (fun _ i _ => l.length - (intOf i).toNat)
  case atStart => exact ⟨0, [], none, 0, Nat.zero_le _, rfl, by simp [nums], List.Pairwise.nil, Nat.le_refl _, Nat.le_refl _, fun _ => rfl, rfl, Cs.nil _ _, Below.refl _ _⟩
  case round =>
    obtain ⟨k, xs, A2, cap2, hk, rfl, hp, hsr, hmk, hmc, hn0, rfl, hcx, hbel⟩ := hrel
    have HP := Lib.hid hp
    have HS := Lib.hid hsr
    clear hp hsr
    by_cases hlt : k < l.length
    · obtain ⟨bk, off, rfl, hbl, hc0⟩ := Cs.flt hc hlt
      have hc1 := (hbel.cell (p := ⟨bk, off + k, none⟩) hbl).trans hc0
      have hwk := HW.out l[k] (List.getElem_mem hlt)
      cases nx : isNaN l[k]
      · have HN := Lib.hid (nums_succ_num l k hlt hwk nx)
        go_wp2_with (first | (go_at_call 34; refine (refnan _ _).mono ?_; rintro e w' ⟨rfl, rfl⟩))
        obtain ⟨wo, rfl⟩ : ∃ wo : World, wo = wr := ⟨_, rfl⟩
        go_loopw [7] (RRankI xs ⟨l[k], hwk, nx⟩ wo) (fun i _ => (intOf i).toNat)
        case atStart => exact ⟨xs.length, Nat.le_refl _, rfl, fun j h1 h2 => by omega, Below.refl _ _⟩
        case round =>
          obtain ⟨t, ht, rfl, hhi, hb1⟩ := hrel
          have HHI := Lib.hid hhi
          have hbk : bk < wo.heap.size := Nat.lt_of_lt_of_le hbl hbel.size
          have hc2 := (hb1.cell (p := ⟨bk, off + k, none⟩) hbk).trans hc1
          clear hhi
          have ht1 : (0 : Int) ≤ (t : Int) := by omega
          have ht2 : (t : Int) ≤ (xs.length : Int) := by omega
          have ht3 : (t : Int) ≤ (cap2 : Int) := by omega
          have hmc' : (xs.length : Int) ≤ (cap2 : Int) := by omega
          have hk1 : (0 : Int) ≤ (k : Int) := by omega
          have hk2 : (k : Int) < (l.length : Int) := by omega
          by_cases h0 : t = 0
          · have hd : decide (0 < t) = false := by simp [h0]
            have H0 := Lib.hid h0
            clear h0
            go_wp2_with fail
            go_quiet (fail)
            go_wp2
            have HLO : Hid (t = 0 ∨ ∃ h : t - 1 < xs.length, okey xs[t-1].n ≤ okey l[k]) := .inl H0.out
            have hbkr : bk < wr.heap.size := Nat.lt_of_lt_of_le hbk hb1.size
            have hcr := hcx.below hb1
            go_region_held3 (fun w' => w'.cell? ⟨bk, off + k, none⟩ = some (.float .f64 l[k]))
              (first | exact hc2 | go_keep | (rw [hb5.cell (p := ⟨bk, off + k, none⟩) (by simp; omega)]; go_keep) | (rw [hb6.cell (p := ⟨bk, off + k, none⟩) (by have := hb5.size; simp at this; show bk < w5.heap.size; omega), hb5.cell (p := ⟨bk, off + k, none⟩) (by simp; omega)]; go_keep))
              ((first
                | (refine step_append_cs (by rfl) _ _ _ (by rfl) 25 i0 _ 8 Try.underlying30 hi hz0 hz1 hz2 (by rfl) (some ⟨wr.heap.size, 0, none⟩) 1 1 [.float .f64 l[k]] (by rfl) (Cs.new _ _) rfl (fun h => by cases h) _ (xs.length - t) (cap2 - t) ((xs.drop t).map encN) (by rfl) (by rw [List.map_drop]; exact Cs.drop (hcr.below (below_drewN ((Below.refl _ _).alloc (Nat.le_refl _) _) _)) t cap2 (by simpa using hmc)) (by simp) encs1 (by omega) (by omega) (by unfold maxLen; omega) (by omega) ?_
                   intro A5 cap5 w5 hc5 hb5 hl5)
                | (refine step_append_cs (by rfl) _ _ _ (by rfl) 25 i0 _ 8 Try.underlying30 hi hz0 hz1 hz2 (by rfl) A2 t t ((xs.take t).map encN) (by rfl) (by rw [List.map_take]; exact Cs.take ((hcr.below (below_drewN ((Below.refl _ _).alloc (Nat.le_refl _) _) _)).below (hb5.mono (by simp))) t) (by simp; omega) (fun h => ⟨by have := hn0 h; omega, by have := hn0 h; omega⟩) A5 (1 + (xs.length - t)) cap5 ([.float .f64 l[k]] ++ (xs.drop t).map encN) (by rfl) hc5 (by simp; omega) (encs2 _ _) (by omega) (by omega) (by unfold maxLen; omega) (by omega) ?_
                   intro A6 cap6 w6 hc6 hb6 hl6)))
            go_wp2
            exact ⟨rr_step hlt hwk nx HP.out HS.out hmk (by omega) HHI.out HLO.out (by simpa using hc6) hl6 (chain4 hbel hb1 ((below_drewN (Below.refl _ _) _).alloc (Nat.le_refl _) _) hb5 hb6), by simp [intOf]; omega⟩
          · obtain ⟨b2, off2, rfl, hbl2, hcc⟩ := Cs.nn hcx (i := t - 1) (by omega)
            have hcd := (hb1.cell (p := ⟨b2, off2 + (t - 1), none⟩) hbl2).trans hcc
            have hx := xs[t - 1].lt
            have ht4 : (0 : Int) ≤ (t : Int) - 1 := by omega
            have ht5 : (t : Int) - 1 < (xs.length : Int) := by omega
            have hdt : decide (0 < t) = true := by simp; omega
            by_cases ho : okey l[k] < okey xs[t - 1].n
            · have hd : decide (0 < ordI xs[t - 1].n l[k]) = true := by rw [decide_eq_true_eq]; exact (cmp3_pos _ _).2 ho
              go_wp2_with fail
              go_quiet ((go_at_call 13; exact Calls.quiet_of_same ((RefOrder _ _ hx hwk _).mono fun e w' ⟨h1, h2⟩ => ⟨h1, h2.symm⟩)))
              go_wp2
              refine ⟨⟨t - 1, by omega, by go_num, ?_, below_drewN hb1 _⟩, by simp [intOf]; omega⟩
              intro j hj1 hj2
              by_cases hj : j = t - 1
              · subst hj; exact ho
              · exact HHI.out j hj1 (by omega)
            · have hd : decide (0 < ordI xs[t - 1].n l[k]) = false := by rw [decide_eq_false_iff_not, ordI, cmp3_pos]; exact ho
              go_wp2_with fail
              go_quiet ((go_at_call 13; exact Calls.quiet_of_same ((RefOrder _ _ hx hwk _).mono fun e w' ⟨h1, h2⟩ => ⟨h1, h2.symm⟩)))
              go_wp2
              generalize hA : (some (⟨b2, off2, none⟩ : Addr)) = A2 at *
              have HA := Lib.hid hA
              clear hA
              have HLO : Hid (t = 0 ∨ ∃ h : t - 1 < xs.length, okey xs[t-1].n ≤ okey l[k]) := .inr ⟨by omega, by omega⟩
              have hbkr : bk < wr.heap.size := Nat.lt_of_lt_of_le hbk hb1.size
              have hcr := hcx.below hb1
              go_region_held3 (fun w' => w'.cell? ⟨bk, off + k, none⟩ = some (.float .f64 l[k]))
                (first | exact hc2 | go_keep | (rw [hb5.cell (p := ⟨bk, off + k, none⟩) (by simp; omega)]; go_keep) | (rw [hb6.cell (p := ⟨bk, off + k, none⟩) (by have := hb5.size; simp at this; show bk < w5.heap.size; omega), hb5.cell (p := ⟨bk, off + k, none⟩) (by simp; omega)]; go_keep))
                ((first
                  | (refine step_append_cs (by rfl) _ _ _ (by rfl) 25 i0 _ 8 Try.underlying30 hi hz0 hz1 hz2 (by rfl) (some ⟨wr.heap.size, 0, none⟩) 1 1 [.float .f64 l[k]] (by rfl) (Cs.new _ _) rfl (fun h => by cases h) _ (xs.length - t) (cap2 - t) ((xs.drop t).map encN) (by rfl) (by rw [List.map_drop]; exact Cs.drop (hcr.below (below_drewN ((Below.refl _ _).alloc (Nat.le_refl _) _) _)) t cap2 (by simpa using hmc)) (by simp) encs1 (by omega) (by omega) (by unfold maxLen; omega) (by omega) ?_
                     intro A5 cap5 w5 hc5 hb5 hl5)
                  | (refine step_append_cs (by rfl) _ _ _ (by rfl) 25 i0 _ 8 Try.underlying30 hi hz0 hz1 hz2 (by rfl) A2 t t ((xs.take t).map encN) (by rfl) (by rw [List.map_take]; exact Cs.take ((hcr.below (below_drewN ((Below.refl _ _).alloc (Nat.le_refl _) _) _)).below (hb5.mono (by simp))) t) (by simp; omega) (fun h => ⟨by have := hn0 h; omega, by have := hn0 h; omega⟩) A5 (1 + (xs.length - t)) cap5 ([.float .f64 l[k]] ++ (xs.drop t).map encN) (by rfl) hc5 (by simp; omega) (encs2 _ _) (by omega) (by omega) (by unfold maxLen; omega) (by omega) ?_
                     intro A6 cap6 w6 hc6 hb6 hl6)))
              go_wp2
              exact ⟨rr_step hlt hwk nx HP.out HS.out hmk (by omega) HHI.out HLO.out (by simpa using hc6) hl6 (chain4 hbel hb1 ((below_drewN (Below.refl _ _) _).alloc (Nat.le_refl _) _) hb5 hb6), by simp [intOf]; omega⟩
      · have HN := Lib.hid (nums_succ_nan l k hlt nx)
        go_wp2_with (first | (go_at_call 34; refine (refnan _ _).mono ?_; rintro e w' ⟨rfl, rfl⟩))
        refine ⟨⟨k + 1, xs, A2, cap2, by omega, by go_num, by rw [HN.out]; exact HP.out, HS.out, by omega, hmc, hn0, rfl, hcx, hbel⟩, by simp [intOf]; omega⟩
    · have hkl : k = l.length := by omega
      have hp2 : xs.Perm (nums l) := by have := HP.out; rw [hkl, List.take_length] at this; exact this
      have HP2 := Lib.hid hp2
      have hm6 : xs.length ≤ 1000000 := by omega
      clear hp2 hkl
      generalize hm : xs.length = m at *
      have HM := Lib.hid hm
      clear hm
      by_cases h0 : m = 0
      · have h0' : ((m : Int) == 0) = true := by rw [beq_iff_eq]; omega
        have HZ := Lib.hid h0
        clear h0
        go_wp2_with (first | (go_at_call 29; refine (MathNaN _).mono ?_; rintro e w' ⟨rfl, rfl⟩))
        go_ret
        exact ⟨⟨xs, HP2.out, HS.out, by rw [if_pos (by rw [HM.out, HZ.out])]; rfl⟩, hbel⟩
      · have h0' : ((m : Int) == 0) = false := by rw [beq_eq_false_iff_ne]; omega
        have HE : Hid ((if xs.length = 0 then nanB else atN xs (rankAt xs.length q)) = atN xs (rankAt m q)) := by show _ = _; rw [if_neg (by have := HM.out; omega), HM.out]
        obtain ⟨b2, off2, rfl, hbl2, _⟩ := Cs.nn hcx (i := 0) (by have := HM.out; omega)
        have cell : ∀ j : Nat, j < m → wr.cell? ⟨b2, off2 + j, none⟩ = some (.float .f64 (atN xs j)) := by
          intro j hj
          have hj2 : j < xs.length := by have := HM.out; omega
          obtain ⟨b3, off3, e3, _, hc3⟩ := Cs.nn hcx (i := j) hj2
          cases e3
          rw [hc3]
          unfold atN
          simp [hj2, List.getD]
        have HC := Lib.hid cell
        clear cell hcx
        by_cases hlow : qLow q = true
        · have HA : Hid (rankAt m q = 0) := by show _ = _; unfold rankAt; rw [if_pos hlow]
          have c0 := HC.out 0 (by omega)
          rw [Nat.add_zero] at c0
          cases hqn : isNaN q
          · have hq0 : FloatKind.f64.format.order q 0 = some .lt := by unfold qLow at hlow; rw [hqn] at hlow; simpa using hlow
            go_wp2_with (first | (go_at_call 34; refine (refnan _ _).mono ?_; rintro e w' ⟨rfl, rfl⟩))
            go_ret
            exact ⟨⟨xs, HP2.out, HS.out, by rw [HE.out, HA.out]; rfl⟩, hbel⟩
          · go_wp2_with (first | (go_at_call 34; refine (refnan _ _).mono ?_; rintro e w' ⟨rfl, rfl⟩))
            go_ret
            exact ⟨⟨xs, HP2.out, HS.out, by rw [HE.out, HA.out]; rfl⟩, hbel⟩
        · have hlow' : isNaN q = false ∧ ¬ FloatKind.f64.format.order q 0 = some .lt := by unfold qLow at hlow; simpa using hlow
          obtain ⟨hqn, hq0⟩ := hlow'
          by_cases hhigh : qHigh q = true
          · have HA : Hid (rankAt m q = m - 1) := by show _ = _; unfold rankAt; rw [if_neg hlow, if_pos hhigh]
            have c0 := HC.out (m - 1) (by omega)
            have hq1 : FloatKind.f64.format.order q 4607182418800017408 = some .gt ∨ FloatKind.f64.format.order q 4607182418800017408 = some .eq := by unfold qHigh at hhigh; simpa using hhigh
            have hq0b : (FloatKind.f64.format.order q 0 == some .lt) = false := by rw [beq_eq_false_iff_ne]; exact hq0
            clear hq0 hhigh hlow
            rcases hq1 with hq1 | hq1
            · go_wp2_with (first | (go_at_call 34; refine (refnan _ _).mono ?_; rintro e w' ⟨rfl, rfl⟩))
              go_ret
              exact ⟨⟨xs, HP2.out, HS.out, by rw [HE.out, HA.out]; rfl⟩, hbel⟩
            · go_wp2_with (first | (go_at_call 34; refine (refnan _ _).mono ?_; rintro e w' ⟨rfl, rfl⟩))
              go_ret
              exact ⟨⟨xs, HP2.out, HS.out, by rw [HE.out, HA.out]; rfl⟩, hbel⟩
          · have hk0 := ordF_key hqn (show isNaN 0 = false by decide)
            have hk1 := ordF_key hqn (show isNaN 4607182418800017408 = false by decide)
            unfold ordF at hk0 hk1
            rw [show key 0 = 0 from by decide] at hk0
            rw [show key 4607182418800017408 = 4607182418800017408 from by decide] at hk1
            have hge : 0 ≤ key q := by
              rcases Int.lt_or_le (key q) 0 with g | g
              · rw [cmp_is_lt g] at hk0; exact absurd hk0 hq0
              · exact g
            have hlt1 : key q < 4607182418800017408 ∧ FloatKind.f64.format.order q 4607182418800017408 = some .lt := by
              rcases Int.lt_trichotomy (key q) 4607182418800017408 with g | g | g
              · rw [cmp_is_lt g] at hk1; exact ⟨g, hk1⟩
              · rw [g, show compare (4607182418800017408 : Int) 4607182418800017408 = .eq from by simp [compare, compareOfLessAndEq]] at hk1
                exfalso; apply hhigh; unfold qHigh; rw [hk1]; rfl
              · rw [cmp_is_gt g] at hk1
                exfalso; apply hhigh; unfold qHigh; rw [hk1]; rfl
            obtain ⟨r, n, hr, hn, hnm⟩ := part_of q m (by omega) hm6 hqn hge hlt1.1
            have HA : Hid (rankAt m q = min n (m - 1)) := by show _ = _; unfold rankAt; rw [if_neg hlow, if_neg hhigh, hr]; simp only; rw [hn]; simp
            have hq1 := hlt1.2
            have hq0b : (FloatKind.f64.format.order q 0 == some .lt) = false := by rw [beq_eq_false_iff_ne]; exact hq0
            have hmul := fun t W => run_float_arith (P := Try.prog) W .mul t .f64 q (floatOfInt .f64 m) r hr
            have hcv := fun W => run_convert_float_int (P := Try.prog) W 25 3 .f64 .i64 r n rfl rfl hn
            clear hq0 hhigh hlow hge hlt1 hk0 hk1
            by_cases hnm2 : n < m
            · have hle : (n : Int) ≤ (m : Int) - 1 := by omega
              have c0 := HC.out n hnm2
              have HA2 : Hid (rankAt m q = n) := by show _ = _; rw [HA.out]; omega
              go_wp2_with (first | (go_at_call 34; refine (refnan _ _).mono ?_; rintro e w' ⟨rfl, rfl⟩))
              go_ret
              exact ⟨⟨xs, HP2.out, HS.out, by rw [HE.out, HA2.out]; rfl⟩, hbel⟩
            · have hle : ((m : Int) - 1) < (n : Int) := by omega
              have c0 := HC.out (m - 1) (by omega)
              have HA2 : Hid (rankAt m q = m - 1) := by show _ = _; rw [HA.out]; omega
              go_wp2_with (first | (go_at_call 34; refine (refnan _ _).mono ?_; rintro e w' ⟨rfl, rfl⟩))
              go_ret
              exact ⟨⟨xs, HP2.out, HS.out, by rw [HE.out, HA2.out]; rfl⟩, hbel⟩

end Meter
end Go.Proofs.Ytfhjboloielbnaa
