/-
  Texts merged by a program (PadR, QT, StU, SumR, Short, Lock, Dig).
-/
import Derived.BigQuiet
import Derived.Deep.MidRow
import Derived.Laws.Cover3
import Derived.Test.YthogembgndkmpaaGreatDoorHk1
import Derived.Test.YthogembgndkmpaaGreatDoorHk5
import Derived.Test.YthogembgndkmpaaGreatDoorHk6
set_option linter.unusedSimpArgs false
set_option linter.unusedVariables false
/- Contract of the reference's pad (signetref1.pad). -/
namespace Go.Proofs.YthogembgndkmpaaGreatDoor
open Go.RowKit
namespace W
def PadZ (b : List UInt8) (w : World) (v : Value) (wr : World) : Prop := ∃ k : Nat, k ≤ noughts b.length ∧ wr.ownsRow w.heap.size 5 1 v (b.length + 1 + k) ((b ++ [0x80] ++ List.replicate k 0).map byteV) ∧ Below w.heap.size w wr
def PadL (xs : List UInt8) (n : Nat) (w : World) (v i : Value) (wr : World) : Prop := ∃ k : Nat, k ≤ 8 ∧ i = .int .i64 (7 - (k : Int)) ∧ wr.ownsRow w.heap.size 5 1 v (xs.length + k) ((xs ++ (be8 n).take k).map byteV) ∧ Below w.heap.size w wr
theorem be8_take (n k : Nat) (hk : k < 8) : (be8 n).take (k + 1) = (be8 n).take k ++ [UInt8.ofNat (n / 256 ^ (7 - k))] := by
  rw [List.take_add_one]
  congr 1
  simp [be8, hk]
set_option maxRecDepth 100000 in
set_option maxHeartbeats 20000000 in
theorem PadR (A : Option Addr) (cap : Nat) (b : List UInt8) (w : World) (hb : Cs w A (b.map byteV)) (hbl : b.length ≤ 1000000) :
    Calls Tryz.prog 72 #[.slice A b.length cap] w fun e w' => ∃ v, e = .returned v ∧ w'.ownsRow w.heap.size 5 1 v (pad b).length ((pad b).map byteV) ∧ Below w.heap.size w w' := by
  obtain ⟨i0, hi, hz0, hz1, hz2⟩ := info_parts info_u8
  have HB := Lib.hid hb
  clear hb
  go_enter Tryz.func72, Tryz.ntmps72
  go_wp2_with (first
    | (at_builtin; refine wpList_push2 hown1 hbw1.size [.int .u8 128] rfl (by simp [Value.oneCell']) hi hz0 hz1 hz2 rfl (by decide) rfl _ _ 28 Tryz.underlying28 rfl rfl rfl (by unfold maxLen; omega) (by omega) ?_; intro v2 w2 hown2 hbw2; have h3 := Lib.hid hown2; have hE := Lib.hid (hbw1.trans hbw2); clear hown2 hown1 hbw2 hbw1)
    | (at_builtin; refine wpList_bytes (B := w.heap.size) (v := .slice none 0 0) (n := 0) (xs := []) (World.ownsRow_nil _ _ _ _) (Nat.le_refl _) HB.out rfl _ _ Tryz.underlying28 rfl rfl rfl (by omega) ?_; intro v1 w1 hown1 hbw1; rw [Nat.zero_add, List.nil_append] at hown1))
  go_loopw [3] (PadZ b w) (fun v _ => match v with | .slice _ n _ => noughts b.length + b.length + 1 - n | _ => 0)
  case atStart => exact ⟨0, Nat.zero_le _, by simpa [List.map_append, byteV] using h3.out, hE.out⟩
  case round =>
    clear h3 hE
    obtain ⟨k, hk, hown, hbel⟩ := hrel
    obtain ⟨A3, c3, rfl, h3c, _⟩ := Cs.of_own hown
    have hk64 : k < 64 := by unfold noughts at hk; omega
    by_cases hlt : k < noughts b.length
    · have hne : ((b.length : Int) + 1 + k) % 64 ≠ 56 := by unfold noughts at hlt; omega
      go_wp2_with (first
        | (at_builtin; refine wpList_push2 hown hbel.size [.int .u8 0] rfl (by simp [Value.oneCell']) hi hz0 hz1 hz2 rfl (by decide) rfl _ _ 28 Tryz.underlying28 rfl rfl rfl (by unfold maxLen; omega) (by omega) ?_; intro v4 w4 hown4 hbw4; have hbw5 := hbel.trans hbw4))
      obtain ⟨A4, c4, rfl, h4c, _⟩ := Cs.of_own hown4
      have hown5 : w4.ownsRow w.heap.size 5 1 (.slice A4 (b.length + 1 + k + 1) c4) (b.length + 1 + (k + 1)) ((b ++ [0x80] ++ List.replicate (k + 1) 0).map byteV) := by
        have e : (b ++ [0x80] ++ List.replicate (k + 1) 0).map byteV = (b ++ [0x80] ++ List.replicate k 0).map byteV ++ [Value.int .u8 0] := by
          rw [List.replicate_succ', ← List.append_assoc, List.map_append]
          rfl
        rw [e]
        exact hown4
      refine ⟨⟨k + 1, by omega, hown5, hbw5⟩, ?_⟩
      show noughts b.length + b.length + 1 - (b.length + 1 + k + 1) < noughts b.length + b.length + 1 - (b.length + 1 + k)
      omega
    · have hke : k = noughts b.length := by omega
      have hne : ((b.length : Int) + 1 + k) % 64 = 56 := by rw [hke]; unfold noughts; omega
      go_wp2_with fail
      clear hlt hk64
      subst hke
      have hf : (((b.length : Int) + 1 + ((noughts b.length : Nat) : Int)) % 64 != 56) = false := by rw [hne]; rfl
      rw [hf]
      clear hne hf
      have HP : Hid (pad b = (b ++ [0x80] ++ List.replicate (noughts b.length) 0) ++ be8 (b.length * 8) ∧ (b ++ [0x80] ++ List.replicate (noughts b.length) 0).length = b.length + 1 + noughts b.length) := Lib.hid ⟨by
        have hNb : b.length * 8 % 2 ^ 64 = b.length * 8 := Nat.mod_eq_of_lt (by omega)
        unfold pad
        rw [hNb], by simp; omega⟩
      have HO := Lib.hid hown
      have hnb : noughts b.length < 64 := by unfold noughts; omega
      clear hown
      generalize b ++ [0x80] ++ List.replicate (noughts b.length) 0 = xs at *
      generalize noughts b.length = m at *
      go_loopw [3, 5] (PadL xs (b.length * 8) w) (fun _ i _ => (intOf i + 1).toNat)
      case atStart => exact ⟨0, Nat.zero_le _, rfl, by rw [HP.out.2]; simpa using HO.out, hbel⟩
      case round =>
        clear HO hbel
        obtain ⟨k, hk, rfl, hown, hbel⟩ := hrel
        have hxl := HP.out.2
        by_cases hlt : k < 8
        · obtain ⟨j, hj⟩ : ∃ j : Nat, j = 7 - k := ⟨_, rfl⟩
          have hjk : (7 - (k : Int)) = (j : Int) := by omega
          rw [hjk]
          have hj7 : j ≤ 7 := by omega
          have hj0 : (0 : Int) ≤ (j : Int) := by omega
          have m2 : IntKind.i64.wrap (8 * (j : Int)) = 8 * (j : Int) := IntWalk.i64_in _ (by omega)
          have l2 : (0 : Int) ≤ 8 * (j : Int) ∧ 8 * (j : Int) < 64 := by omega
          have HBT := Lib.hid (be8_take (b.length * 8) k hlt)
          have hby := byte_of (b.length * 8) j
          rw [show ((b.length * 8 : Nat) : Int) = (b.length : Int) * 8 from by omega] at hby
          have HBY := Lib.hid hby
          rw [← hj] at HBT
          have HJ := Lib.hid hj
          clear hby hjk hj
          go_wp2_with (first
            | (at_builtin; refine wpList_push2 hown hbel.size [.int .u8 ((b.length : Int) * 8 / 2 ^ (8 * j) % 256)] rfl (by simp [Value.oneCell']) hi hz0 hz1 hz2 rfl (by decide) rfl _ _ 28 Tryz.underlying28 rfl rfl rfl (by unfold maxLen; omega) (by omega) ?_; intro v4 w4 hown4 hbw4; have hbw5 := hbel.trans hbw4))
          have hJ := HJ.out
          have hown6 : w4.ownsRow w.heap.size 5 1 v4 (xs.length + (k + 1)) ((xs ++ (be8 (b.length * 8)).take (k + 1)).map byteV) := by
            have e : (xs ++ (be8 (b.length * 8)).take (k + 1)).map byteV = (xs ++ (be8 (b.length * 8)).take k).map byteV ++ [Value.int .u8 ((b.length : Int) * 8 / 2 ^ (8 * j) % 256)] := by
              rw [HBT.out, ← List.append_assoc, List.map_append, HBY.out]
              rfl
            rw [e]
            exact hown4
          have hP : PadL xs (b.length * 8) w v4 (.int .i64 ((j : Int) - 1)) w4 := ⟨k + 1, by omega, by rw [show (7 - ((k + 1 : Nat) : Int)) = (j : Int) - 1 from by omega], hown6, hbw5⟩
          refine ⟨hP, ?_⟩
          simp [intOf]
        · have hk8 : k = 8 := by omega
          subst hk8
          have hjk : (7 - ((8 : Nat) : Int)) = -1 := by omega
          rw [hjk]
          go_wp2_with fail
          go_ret
          refine ⟨_, rfl, ?_, hbel⟩
          have e8 : (be8 (b.length * 8)).take 8 = be8 (b.length * 8) := List.take_of_length_le (by simp [be8])
          rw [e8] at hown
          rw [HP.out.1, List.length_append, be8_len]
          exact hown
end W
end Go.Proofs.YthogembgndkmpaaGreatDoor

/- A region that draws its order: all its operations but the last only read, call functions that keep a class of worlds, and the last one waits for all of them. One walk in the order of the text. -/
namespace Go.Proofs.YthogembgndkmpaaGreatDoor
open Go.RowKit
/-- the operation n waits for all ahead of it, and is the last -/
def sinkT (ops : Array Oper) (n : Nat) : Bool := decide (n + 1 = ops.size) && (List.range n).all fun i => waitsT ops ops.size n i
section
variable {P : Program} {ops : Array Oper}
theorem yield_of_quietAt {o : Oper} {a : Act} {C : World → Prop} {W : World} {v : Value} (hw : Region.wanted o (yielded ops a.tmps) = true) (hC : C W) (h : o.quietAt P a C W v) : opYield P ops o a W (fun u W' => u = v ∧ C W') := by
  rw [opYield_def, if_pos hw]
  unfold Oper.quietAt at h
  generalize (execOp a.eval o).run P W = r at *
  cases r with
  | ok n w' =>
    cases n <;> simp only [Oper.quietUpon] at h <;> simp only [yieldUpon]
    case value u => exact ⟨h.2, h.1 ▸ hC⟩
    case skip => exact ⟨h.2.symm, h.1 ▸ hC⟩
    case enter f args =>
      obtain ⟨e1, hc⟩ := h
      rw [e1]
      exact hc.mono fun e w'' ⟨he, hw''⟩ => ⟨v, he, rfl, hw''⟩
  | halt x w' => simp only [Oper.quietUpon] at h
theorem yield_skip {o : Oper} {a : Act} {C : World → Prop} {W : World} (hw : Region.wanted o (yielded ops a.tmps) = false) (hC : C W) : opYield P ops o a W (fun u W' => u = undef ∧ C W') := by
  rw [opYield_def, if_neg (by rw [hw]; exact Bool.noConfusion)]
  exact ⟨rfl, hC⟩
/-- the values of a walk -/
theorem vals_of_quiet {C : World → Prop} {K : Act → Prop} {a0 : Act} : ∀ (l : List Oper) (k : Nat) (V : Nat → Value), (∀ j, j < l.length → ops[k + j]? = l[j]?) → wpQuiet P ops C K l (relAct ops a0 (fun _ => true) V k) →
    ∃ V' : Nat → Value, (∀ j, j < k → V' j = V j) ∧ (∀ i o, k ≤ i → i < k + l.length → ops[i]? = some o → ∀ W, C W → opYield P ops o (relAct ops a0 (fun _ => true) V' i) W (fun v W' => v = V' i ∧ C W')) ∧ K (relAct ops a0 (fun _ => true) V' (k + l.length))
  | [], k, V, _, h => ⟨V, fun _ _ => rfl, fun i o h1 h2 _ => by simp at h2; omega, h⟩
  | o :: rest, k, V, hl, h => by
    have ho : ops[k]? = some o := by have := hl 0 (by simp); simpa using this
    have hd : dstAt ops k = o.dst := by unfold dstAt; rw [ho]; rfl
    have key : ∃ v, (∀ W, C W → opYield P ops o (relAct ops a0 (fun _ => true) V k) W (fun u W' => u = v ∧ C W')) ∧ wpQuiet P ops C K rest ((relAct ops a0 (fun _ => true) V k).put o.dst v) := by
      unfold wpQuiet at h
      by_cases hw : Region.wanted o (yielded ops (relAct ops a0 (fun _ => true) V k).tmps) = true
      · rw [if_pos hw] at h
        obtain ⟨v, h1, h2⟩ := h
        exact ⟨v, fun W hC => yield_of_quietAt hw hC (h1 W hC), h2⟩
      · rw [if_neg hw] at h
        exact ⟨undef, fun W hC => yield_skip (by simpa using hw) hC, h⟩
    obtain ⟨v, h1, h2⟩ := key
    have c0 : ∀ (V2 : Nat → Value), (∀ j, j < k → V2 j = V j) → relAct ops a0 (fun _ => true) V2 k = relAct ops a0 (fun _ => true) V k := fun V2 hV => relAct_congr k (fun j hj => ⟨rfl, fun _ => hV j hj⟩)
    have e1 : (relAct ops a0 (fun _ => true) V k).put o.dst v = relAct ops a0 (fun _ => true) (fun j => if j = k then v else V j) (k + 1) := by
      conv => rhs; unfold relAct
      rw [if_pos rfl, c0 (fun j => if j = k then v else V j) (fun j hj => by rw [if_neg (by omega)]), hd]
      rw [if_pos rfl]
    rw [e1] at h2
    obtain ⟨V', g1, g2, g3⟩ := vals_of_quiet rest (k + 1) (fun j => if j = k then v else V j) (fun j hj => by
      have := hl (j + 1) (by simp; omega)
      rw [show k + 1 + j = k + (j + 1) from by omega, this]
      simp) h2
    have hVk : V' k = v := by have := g1 k (by omega); simpa using this
    refine ⟨V', fun j hj => by rw [g1 j (by omega)]; rw [if_neg (by omega)], ?_, ?_⟩
    · intro i oi hi1 hi2 hoi W hC
      by_cases hik : i = k
      · subst hik
        have : oi = o := by rw [ho] at hoi; exact (Option.some.inj hoi).symm
        subst this
        rw [c0 V' (fun j hj => by rw [g1 j (by omega)]; rw [if_neg (by omega)]), hVk]
        exact h1 W hC
      · exact g2 i oi (by omega) (by simp at hi2; omega) hoi W hC
    · have : k + (o :: rest).length = k + 1 + rest.length := by simp; omega
      rw [this]
      exact g3
/-- WHATEVER THE ORDER: quiet, and then the last one -/
theorem wp_region_qt {id : Nat} {Q : Exit → Act → World → Prop} {a0 : Act} {w0 : World} (hm : P.follows .mixedOrders = true) (hB : relB2 ops = true) (n : Nat) (hs : sinkT ops n = true) (C : World → Prop) (hC0 : C { w0 with drawn := w0.drawn + 1 })
    (h : wpQuiet P ops C (fun a => ∀ o, ops[n]? = some o → ∀ W, C W → opYield P ops o a W (fun v W' => Q .normal (a.put o.dst v) W')) (ops.toList.take n) a0) :
    (Code.region id ops true).wp P Q a0 w0 := by
  unfold sinkT at hs
  rw [Bool.and_eq_true, decide_eq_true_eq, List.all_eq_true] at hs
  obtain ⟨hsz, hsk⟩ := hs
  have hsk : ∀ i, i < n → waitsT ops ops.size n i = true := fun i hi => hsk i (List.mem_range.2 hi)
  have hlen : (ops.toList.take n).length = n := by simp; omega
  obtain ⟨V, _, hV, hlast⟩ := vals_of_quiet (ops := ops) (C := C) (a0 := a0) (ops.toList.take n) 0 (fun _ => undef) (fun j hj => by
    rw [hlen] at hj
    rw [Nat.zero_add, List.getElem?_take, if_pos hj]
    simp) h
  rw [hlen, Nat.zero_add] at hV hlast
  have agree : ∀ (vals : Nat → Value) i o, ops[i]? = some o → i ≤ n → (∀ e ∈ o.after, Region.binds .any e = true → vals e.on = V e.on) → ∀ t ∈ o.looksAt ops, (relAct ops a0 (fun _ => true) V i).tmps[t]? = (relAct ops a0 (fun _ => true) vals i).tmps[t]? := by
    intro vals i o hio hin hv t ht
    obtain ⟨hsel, hb2, hb3⟩ := relB2_spec hB hio
    by_cases hex : ∃ k, dstAt ops k = some t
    · obtain ⟨k, hk⟩ := hex
      have hu : ∀ j, dstAt ops j = some t → j = k := by
        intro j hj
        have lt : ∀ j, dstAt ops j = some t → j < ops.size := by
          intro j hj
          rcases Nat.lt_or_ge j ops.size with g | g
          · exact g
          · unfold dstAt at hj; rw [Array.getElem?_eq_none g] at hj; cases hj
        have one : ∀ j k, dstAt ops j = some t → dstAt ops k = some t → j < k → False := by
          intro j k hj hk g
          have hkl := lt k hk
          have hkop : ops[k]? = some ops[k] := Array.getElem?_eq_getElem hkl
          have := ((relB2_spec hB hkop).2.2 j t hj).1 (by omega)
          apply this
          unfold dstAt at hk; rw [hkop] at hk; exact hk
        rcases Nat.lt_trichotomy j k with g | g | g
        · exact (one j k hj hk g).elim
        · exact g
        · exact (one k j hk hj g).elim
      rcases (hb3 k t hk).2 ht with ⟨hki, e, he, heq, hbe⟩ | hkw
      · rw [relAct_at hk hu i hki rfl, relAct_at hk hu i hki rfl]
        have := hv e he hbe
        rw [heq] at this
        rw [this]
      · obtain ⟨ok, hok, e, he, heq, hbe⟩ := waitsB_elim hkw
        have hik : i < k := by have := (relB2_spec hB hok).2.1 e he hbe; omega
        rw [relAct_free i (fun j hj _ h => by have := hu j h; omega), relAct_free i (fun j hj _ h => by have := hu j h; omega)]
    · have hno : ∀ j, dstAt ops j ≠ some t := fun j hj => hex ⟨j, hj⟩
      rw [relAct_free i (fun j _ _ => hno j), relAct_free i (fun j _ _ => hno j)]
  refine wp_region_t (Region.binds .any) (fun e h => h) hm hB (fun _ _ => false) (by unfold killsX; simp) (fun i W W' => if i < n then C W → C W' else i = n) (fun _ => True)
    (fun j vals W => if j < n then vals j = V j else j = n → Q .normal ((relAct ops a0 (fun _ => true) V n).put (dstAt ops n) (vals n)) W) ?_ C (fun k => decide (n ≤ k)) hC0 ?_ trivial (fun _ _ _ _ _ => trivial) ?_ ?_ ?_
  · intro j vals i v W hij hwt hR
    by_cases hj : j < n
    · rw [if_pos hj] at hR ⊢
      simp only
      rw [if_neg (fun e => hij e.symm)]
      exact hR
    · rw [if_neg hj] at hR ⊢
      intro hjn
      simp only
      rw [if_neg (by intro e; exact hij (by omega))]
      exact hR hjn
  · intro i W W' hi _ hC hT
    have hin : i < n := by simpa using hi
    rw [if_pos hin] at hT
    exact hT hC
  · intro i j v W W' hij _ hwt _ hR hT
    by_cases hj : j < n
    · rw [if_pos hj] at hR ⊢
      exact hR
    · rw [if_neg hj] at hR ⊢
      intro hjn
      subst hjn
      exfalso
      by_cases g : i < j
      · rw [hsk i g] at hwt; cases hwt
      · rw [if_neg g] at hT
        exact hij hT
  · intro i o hio vals W _ haf hI
    have hlt : i < ops.size := (Array.getElem?_eq_some_iff.1 hio).1
    obtain ⟨hsel, hb2, _⟩ := relB2_spec hB hio
    have hv : ∀ e ∈ o.after, Region.binds .any e = true → vals e.on = V e.on := by
      intro e he hb
      have h1 := haf e he hb
      have h2 := hb2 e he hb
      rw [if_pos (by omega)] at h1
      exact h1
    have hC : C W := hI (fun k hk hk0 => by
      have hk1 : n ≤ k := by simpa using hk0
      have hkn : k = n := by omega
      subst hkn
      by_cases g : i < k
      · exact .inr (hsk i g)
      · exact .inl (by omega))
    by_cases hi : i < n
    · refine opYield_congr hsel (agree vals i o hio (by omega) hv) (opYield_mono ?_ (hV i o (Nat.zero_le _) hi hio W hC))
      intro v W' hvC
      obtain ⟨hv1, hC1⟩ := hvC
      refine ⟨?_, ?_⟩
      · rw [if_pos hi]; exact fun _ => hC1
      · rw [if_pos hi]
        simpa using hv1
    · have hin : i = n := by omega
      subst hin
      refine opYield_congr hsel (agree vals i o hio (Nat.le_refl _) hv) (opYield_mono ?_ (hlast o hio W hC))
      intro v W' hq
      refine ⟨?_, ?_⟩
      · rw [if_neg hi]
      · rw [if_neg hi]
        intro _
        have hd : dstAt ops i = o.dst := by unfold dstAt; rw [hio]; rfl
        simp only [if_true]
        rw [hd]
        exact hq
  · intro vals W _ hR
    have hl := hR n (by omega) (fun _ _ => rfl)
    rw [if_neg (by omega)] at hl
    have hl := hl rfl
    have hc : relAct ops a0 (fun _ => true) V n = relAct ops a0 (fun _ => true) vals n := relAct_congr n (fun j hj => ⟨rfl, fun _ => by
      have := hR j (by omega) (fun _ _ => rfl)
      rw [if_pos hj] at this
      exact this.symm⟩)
    rw [hc] at hl
    rw [← hsz]
    conv => arg 2; unfold relAct
    exact hl
/-- the same for a region that is written out, at the class of some draws -/
theorem wp_region_qt_lit {id : Nat} {Q : Exit → Act → World → Prop} {a0 : Act} {w0 : World} {l : List Oper} (n : Nat) (hm : P.follows .mixedOrders = true) (hB : relB2 l.toArray = true) (hs : sinkT l.toArray n = true)
    (h : wpQuiet P l.toArray (fun w' => ∃ m, w' = w0.drewN m) (fun a => ∀ W, (∃ m, W = w0.drewN m) → ∀ o, l[n]? = some o → opYield P l.toArray o a W (fun v W' => Q .normal (a.put o.dst v) W')) (l.take n) a0) :
    (Code.region id l.toArray true).wp P Q a0 w0 := by
  refine wp_region_qt hm hB n hs (fun w' => ∃ m, w' = w0.drewN m) ⟨1, rfl⟩ ?_
  have e : (fun a => ∀ o, l.toArray[n]? = some o → ∀ W, (∃ m, W = w0.drewN m) → opYield P l.toArray o a W (fun v W' => Q .normal (a.put o.dst v) W')) = (fun a => ∀ W, (∃ m, W = w0.drewN m) → ∀ o, l[n]? = some o → opYield P l.toArray o a W (fun v W' => Q .normal (a.put o.dst v) W')) := by
    funext a
    refine propext ⟨fun h W hW o ho => h o (by simpa using ho) W hW, fun h o ho W hW => h W hW o (by simpa using ho)⟩
  rw [e]
  simpa using h
/-- the same at the class of worlds with new blocks -/
theorem wp_region_qt_ext {id : Nat} {Q : Exit → Act → World → Prop} {a0 : Act} {w0 : World} {l : List Oper} (n : Nat) (hm : P.follows .mixedOrders = true) (hB : relB2 l.toArray = true) (hs : sinkT l.toArray n = true)
    (h : wpQuiet P l.toArray (Ext w0) (fun a => ∀ W, Ext w0 W → ∀ o, l[n]? = some o → opYield P l.toArray o a W (fun v W' => Q .normal (a.put o.dst v) W')) (l.take n) a0) :
    (Code.region id l.toArray true).wp P Q a0 w0 := by
  refine wp_region_qt hm hB n hs (Ext w0) ⟨rfl, rfl, rfl, Nat.le_refl _, fun _ _ => rfl⟩ ?_
  have e : (fun a => ∀ o, l.toArray[n]? = some o → ∀ W, Ext w0 W → opYield P l.toArray o a W (fun v W' => Q .normal (a.put o.dst v) W')) = (fun a => ∀ W, Ext w0 W → ∀ o, l[n]? = some o → opYield P l.toArray o a W (fun v W' => Q .normal (a.put o.dst v) W')) := by
    funext a
    refine propext ⟨fun h W hW o ho => h o (by simpa using ho) W hW, fun h o ho W hW => h W hW o (by simpa using ho)⟩
  rw [e]
  simpa using h
theorem quiet_at {f : FuncId} {args : Array Value} {v : Value} (h : ∀ W, Calls P f args W fun e w' => e = .returned v ∧ ∃ q, w' = W.drewN q) (w : World) (n : Nat) : Calls P f args (w.drewN n) fun e w'' => e = .returned v ∧ ∃ m, w'' = w.drewN m :=
  (h _).mono fun e w' ⟨he, q, hq⟩ => ⟨he, n + q, by rw [hq, World.drewN_drewN]⟩
end
end Go.Proofs.YthogembgndkmpaaGreatDoor

/- A word laid into an array of words, as the walk's arm. -/
namespace Go.Proofs.YthogembgndkmpaaGreatDoor
open Go.RowKit
namespace W
/-- a word laid into an array of words -/
theorem wpList_store_u {ops : Array Oper} {rest : List Oper} {o : Oper} {a : Act} {w : World} {Q : Exit → Act → World → Prop} (hgd : o.guard = none) (x y : Operand) (ho : o.op = .store 22 x y)
    (g k : Nat) (hx : a.eval x = .pointer (some ⟨g, k, none⟩)) (z : UInt32) (hy : a.eval y = .int .u32 (z.toNat : Int)) {T : TypeId} {ws : List UInt32} (harr : ArrU w g T ws) (hk : k < ws.length)
    (h : ∀ w', ArrU w' g T (ws.set k z) → Kept (fun i => i = g) w w' → wpList Tryz.prog ops Q rest (a.put o.dst undef) w') : wpList Tryz.prog ops Q (o :: rest) a w := by
  refine wpList_plain hgd fun K hK => ?_
  have c := harr.cell k hk
  have f := harr.frozen k
  unfold Oper.wp execOp
  simp only [ho, hx, hy, Instr.storeAt, Instr.sureAddr, Sem.run_bind, Sem.run_pure, Result.andThen_ok]
  simp [go_sem, c, f]
  exact hK _ _ (h _ (harr.set k z) ((Kept.refl (fun i => i = g) w).setCell (p := ⟨g, k, none⟩) (fun _ => rfl) _))
end W
end Go.Proofs.YthogembgndkmpaaGreatDoor

/- signetref1.Sum: just the sum of plain Lean. -/
namespace Go.Proofs.YthogembgndkmpaaGreatDoor
open Go.RowKit
namespace W
theorem TurnS (x : UInt32) (n : Nat) (m : Int) (hm : m = (n : Int)) (h1 : 1 ≤ n) (h2 : n ≤ 31) (w : World) : Calls Tryz.prog 73 #[.int .u32 (x.toNat : Int), .int .i64 m] w fun e w' => e = .returned (.int .u32 ((rotr x n).toNat : Int)) ∧ ∃ q, w' = w.drewN q := by
  subst hm
  exact Turn_ x n h1 h2 w
theorem w_add3 (a b c : UInt32) : ((a.toNat : Int) + (b.toNat : Int) + (c.toNat : Int)) % 4294967296 = ((a + b + c).toNat : Int) := by
  rw [← w_add' (a + b) c, ← w_add' a b]
  omega
theorem w_add4 (a b c d : UInt32) : ((a.toNat : Int) + (b.toNat : Int) + (c.toNat : Int) + (d.toNat : Int)) % 4294967296 = ((a + b + c + d).toNat : Int) := by
  rw [← w_add' (a + b + c) d, ← w_add3 a b c]
  omega
theorem below_drewN {B : Nat} {w w' : World} (h : Below B w w') (n : Nat) : Below B w (w'.drewN n) := ⟨h.os, h.tape, h.output, h.size, h.block⟩
def OutL (l : List UInt8) (go : Nat) (V9 : World) (v : Value) (wr : World) : Prop := ∃ j : Nat, j ≤ 32 ∧ v = .int .i64 (j : Int) ∧ ArrB wr go 78 (outB l j) ∧ Kept (fun k => k = go) V9 wr
theorem OutL.step {l : List UInt8} {go : Nat} {V9 wr : World} {j : Nat} {x : UInt8} (hout : ArrB wr go 78 (outB l j)) (hkp : Kept (fun k => k = go) V9 wr) (hset : (outB l j).set j (l.getD j 0) = outB l (j + 1)) (hT : l.getD j 0 = x) (hj : j < 32) :
    OutL l go V9 (.int .i64 ((j : Int) + 1)) (wr.setCell ⟨go, j, none⟩ (byteV x)) := by
  refine ⟨j + 1, by omega, by go_num, ?_, hkp.setCell (p := ⟨go, j, none⟩) (fun _ => rfl) _⟩
  rw [← hset, hT]
  exact hout.set j x
theorem nextR (z s0 u s1 : UInt32) : z + s0 + u + s1 = z + u + s0 + s1 := by
  rw [UInt32.add_assoc z s0 u, UInt32.add_comm s0 u, ← UInt32.add_assoc]
def RSumL (pb : List UInt8) (gs : Nat) (V0 : World) (v : Value) (wr : World) : Prop := ∃ m M : Nat, M = 64 * m ∧ M ≤ pb.length ∧ v = .int .i64 (M : Int) ∧ ArrU wr gs 99 (shaF ks0 m pb s256).list ∧ Kept (fun k => k = gs) V0 wr
set_option maxRecDepth 100000 in
set_option maxHeartbeats 20000000 in
theorem RSum (A : Option Addr) (cap : Nat) (b : List UInt8) (w : World) (hb : Cs w A (b.map byteV)) (hbl : b.length ≤ 1000000) :
    Calls Tryz.prog 50 #[.slice A b.length cap] w fun e w' => e = .returned (.agg ((sha ks0 b).map byteV).toArray) ∧ Below w.heap.size w w' := by
  have HB := Lib.hid hb
  clear hb
  go_enter Tryz.func50, Tryz.ntmps50
  go_wp2_with fail
  generalize hW1 : World.alloc _ _ = W1
  have ha1 : ArrU W1 (w.heap.size + 1) 99 s256.list := by
    rw [← hW1]
    exact heap_alloc2_new w _ _
  have hz1 : W1.heap[w.heap.size]? = some (.cells z32 78 (0, 0)) := by
    rw [← hW1]
    exact heap_alloc2_old w _ _
  have hb1 : Below w.heap.size w W1 := by
    rw [← hW1]
    exact ((Below.refl _ _).alloc (Nat.le_refl _) _).alloc (by simp) _
  clear hW1
  refine (TableR W1).mono ?_
  rintro e w1 ⟨rfl, hbt⟩
  have hi64 : (Tryz.prog.info? 100).map (·.size) = some (ks0.map uv).toArray.size := by kernel_rfl
  have hone : (ks0.map uv).toArray.all (·.oneCell') = true := by kernel_rfl
  have hcz : z64.size = (ks0.map uv).toArray.size := by kernel_rfl
  have hz : (w1.alloc (.cells z64 100)).heap[w1.heap.size]? = some (.cells z64 100 (0, 0)) := heap_alloc_new w1 _
  have hbz : Below w1.heap.size w1 (w1.alloc (.cells z64 100)) := (Below.refl _ _).alloc (Nat.le_refl _) _
  have hrb := setRow_heap (w1.alloc (.cells z64 100)) w1.heap.size _ (ks0.map uv).toArray _ _ hz
  have hbr : Below w1.heap.size w1 ((w1.alloc (.cells z64 100)).setRow w1.heap.size (ks0.map uv).toArray) := hbz.trans ⟨rfl, rfl, rfl, by simp, fun k hk => setRow_other (w1.alloc (.cells z64 100)) w1.heap.size k _ (by omega)⟩
  generalize hks : (ks0.map uv).toArray = kc at *
  have HK := Lib.hid hks
  have HH := Lib.hid (And.intro hi64 (And.intro hone (And.intro hcz (And.intro hz (And.intro hrb hbr)))))
  have H1 := Lib.hid (And.intro ha1 (And.intro hz1 (And.intro hb1 hbt)))
  clear hi64 hone hcz hz hbz hrb hbr hks ha1 hz1 hb1 hbt
  go_wp2_with (first | (refine wpList_store_row rfl 100 (.tmp 4) (.tmp 26) rfl w1.heap.size kc rfl (by kernel_rfl) 100 z64 HH.out.2.2.2.1 HH.out.1 HH.out.2.2.1 HH.out.2.1 ?_))
  generalize hV : World.setRow _ _ _ = V
  have hkV : ArrU V w1.heap.size 100 ks0 := by
    rw [← hV]
    unfold ArrU
    rw [HK.out]
    exact HH.out.2.2.2.2.1
  have hbV : Below w1.heap.size w1 V := by rw [← hV]; exact HH.out.2.2.2.2.2
  clear hV HH
  have hW1s : w.heap.size + 1 < W1.heap.size := H1.out.1.lt
  have hw1s : W1.heap.size ≤ w1.heap.size := H1.out.2.2.2.size
  have hbV1 : Below W1.heap.size W1 V := H1.out.2.2.2.trans (hbV.mono hw1s)
  have hbV0 : Below w.heap.size w V := H1.out.2.2.1.trans (hbV1.mono H1.out.2.2.1.size)
  have haV : ArrU V (w.heap.size + 1) 99 s256.list := H1.out.1.keep (hbV1.block _ hW1s)
  have hzV : V.heap[w.heap.size]? = some (.cells z32 78 (0, 0)) := (hbV1.block _ (by omega)).trans H1.out.2.1
  have hbcs : Cs V A (b.map byteV) := fun i u hu => by
    obtain ⟨bk, off, e, hlt, hc⟩ := HB.out i u hu
    exact ⟨bk, off, e, Nat.lt_of_lt_of_le hlt hbV0.size, (bcl hbV0 hlt).trans hc⟩
  refine (PadR A cap b V hbcs hbl).mono ?_
  rintro e V0 ⟨v, rfl, hown, hb3⟩
  have hk0 : ArrU V0 w1.heap.size 100 ks0 := hkV.keep (hb3.block _ hkV.lt)
  have ha0 : ArrU V0 (w.heap.size + 1) 99 s256.list := haV.keep (hb3.block _ haV.lt)
  have hz0 : V0.heap[w.heap.size]? = some (.cells z32 78 (0, 0)) := (hb3.block _ (lt_block hzV)).trans hzV
  have hb0 : Below w.heap.size w V0 := hbV0.trans (hb3.mono hbV0.size)
  have hgk : w.heap.size + 1 < w1.heap.size := by omega
  have hgV : w.heap.size + 1 < V.heap.size := haV.lt
  have hpl := pad_len b
  have hpm := pad_mod b
  have hpn : noughts b.length < 64 := by unfold noughts; omega
  have hpL : (pad b).length ≤ 2000000 := by omega
  obtain ⟨A5, c5, rfl, h5l, h5c⟩ := Cs.of_own hown
  have h5g : ∀ a, A5 = some a → V.heap.size ≤ a.block := by
    intro a ha
    subst ha
    exact (hown.lt _ rfl).1
  have HS := Lib.hid (sha8_eq ks0 b)
  have HSH : Hid (sha ks0 b = out (shaF ks0 ((pad b).length / 64) (pad b) s256)) := Lib.hid rfl
  have H0 := Lib.hid (And.intro hk0 (And.intro ha0 (And.intro hz0 (And.intro hb0 h5c))))
  clear hk0 ha0 hz0 hb0 h5c hown hkV haV hzV hbV hbV1 hbV0 hbcs H1 hpl HK HB HS h5l
  generalize pad b = pb at *
  generalize hgs : w.heap.size + 1 = gs at *
  generalize w1.heap.size = gk at *
  have HG := Lib.hid hgs
  clear hgs
  go_wp2_with fail
  go_loopw [6, 7, 8, 9, 10, 11, 12, 13, 14, 15, 16, 17, 18, 19, 20, 21, 22] (fun v _ _ _ _ _ _ _ _ _ _ _ _ _ _ _ _ wr => RSumL pb gs V0 v wr) (fun v _ _ _ _ _ _ _ _ _ _ _ _ _ _ _ _ _ => pb.length - (intOf v).toNat)
  case atStart => exact ⟨0, 0, rfl, Nat.zero_le _, rfl, H0.out.2.1, Kept.refl _ _⟩
  case round =>
    obtain ⟨m, M, hM, hMl, rfl, harr, hkp⟩ := hrel
    by_cases hlt : M < pb.length
    ·
      obtain ⟨R0, hR0⟩ : ∃ x, x = wr := ⟨_, rfl⟩
      subst hR0
      have hcw : Cs R0 A5 (pb.map byteV) := Kept.cs H0.out.2.2.2.2 hkp (fun a ha _ e => by have := h5g a ha; omega)
      obtain ⟨g5, o5, rfl, hg5, _⟩ := hcw.byte (l := pb) (i := M) hlt
      obtain ⟨blk, hblk⟩ : ∃ x, x = (pb.drop M).take 64 := ⟨_, rfl⟩
      have hbl64 : blk.length = 64 := by rw [hblk]; simp; omega
      have hbnd : ∀ i (hi : i < blk.length), R0.cell? ⟨g5, o5 + (M + i), none⟩ = some (.int .u8 ((blk[i]).toNat : Int)) := by
        intro i hi
        obtain ⟨bk, off, e, _, hc⟩ := hcw.byte (l := pb) (i := M + i) (by omega)
        cases e
        rw [hc]
        subst hblk
        simp [List.getElem_take, List.getElem_drop]
      have hnx : shaF ks0 (m + 1) pb s256 = mix ks0 (shaF ks0 m pb s256) blk := by rw [shaF_succ, hblk, hM]
      have HN := Lib.hid hnx
      have HM := Lib.hid hM
      have HBND := Lib.hid hbnd
      have hgR : gs < R0.heap.size := harr.lt
      have hkR : ArrU R0 gk 100 ks0 := H0.out.1.keep (hkp.block gk (lt_block H0.out.1) (by omega))
      have HR := Lib.hid (And.intro harr (And.intro hkp hkR))
      have hM64 : M + 64 ≤ pb.length := by omega
      have hgne : g5 ≠ R0.heap.size := by omega
      clear hnx hbnd hcw hblk harr hkp hkR hM
      generalize shaF ks0 m pb s256 = S at *
      go_wp2_with fail
      have hz : ArrU (R0.alloc (.cells (wsAt blk 0 |>.map uv).toArray 100)) R0.heap.size 100 (wsAt blk 0) := heap_alloc_new R0 _
      have hz2 : ((wsAt blk 0).map uv).toArray = (List.replicate 64 (Value.int .u32 0)).toArray := by
        simp [wsAt, uv]
      rw [hz2] at hz
      simp only [List.replicate] at hz
      have hb0 : Below R0.heap.size R0 (R0.alloc (.cells (List.replicate 64 (Value.int .u32 0)).toArray 100)) := (Below.refl _ _).alloc (Nat.le_refl _) _
      simp only [List.replicate] at hb0
      generalize R0.alloc _ = w2 at *
      have HZ := Lib.hid (And.intro hz hb0)
      clear hz2 hz hb0
      go_loopw [8] (fun i wr => LoadR blk R0 R0.heap.size i wr) (fun i _ => 16 - (intOf i).toNat)
      case atStart => exact ⟨0, Nat.zero_le _, rfl, HZ.out.1, HZ.out.2⟩
      case round =>
        clear HZ
        obtain ⟨j, hj, rfl, harr, hbel⟩ := hrel
        by_cases hlt2 : j < 16
        · as_aux_lemma =>
          have hl64 := wsAt_len blk j (by omega)
          have hgl := harr.lt
          have c0 := (bcl hbel hg5).trans (HBND.out (4 * j) (by omega))
          have c1 := (bcl hbel hg5).trans (HBND.out (4 * j + 1) (by omega))
          have c2 := (bcl hbel hg5).trans (HBND.out (4 * j + 2) (by omega))
          have c3 := (bcl hbel hg5).trans (HBND.out (4 * j + 3) (by omega))
          rw [← Nat.add_assoc M] at c1 c2 c3
          have q0 : IntKind.i64.wrap (4 * (j : Int)) = 4 * (j : Int) := IntWalk.i64_in _ (by omega)
          have m0 : IntKind.i64.wrap ((M : Int) + 4 * (j : Int)) = (M : Int) + 4 * (j : Int) := IntWalk.i64_in _ (by omega)
          have m1 : IntKind.i64.wrap ((M : Int) + 4 * (j : Int) + 1) = (M : Int) + 4 * (j : Int) + 1 := IntWalk.i64_in _ (by omega)
          have m2 : IntKind.i64.wrap ((M : Int) + 4 * (j : Int) + 2) = (M : Int) + 4 * (j : Int) + 2 := IntWalk.i64_in _ (by omega)
          have m3 : IntKind.i64.wrap ((M : Int) + 4 * (j : Int) + 3) = (M : Int) + 4 * (j : Int) + 3 := IntWalk.i64_in _ (by omega)
          have n0 : ((M : Int) + 4 * (j : Int)).toNat = M + 4 * j := by omega
          have n1 : ((M : Int) + 4 * (j : Int) + 1).toNat = M + 4 * j + 1 := by omega
          have n2 : ((M : Int) + 4 * (j : Int) + 2).toNat = M + 4 * j + 2 := by omega
          have n3 : ((M : Int) + 4 * (j : Int) + 3).toNat = M + 4 * j + 3 := by omega
          have l0 : (0 : Int) ≤ (M : Int) + 4 * (j : Int) ∧ (M : Int) + 4 * (j : Int) < (pb.length : Int) := by omega
          have l1 : (0 : Int) ≤ (M : Int) + 4 * (j : Int) + 1 ∧ (M : Int) + 4 * (j : Int) + 1 < (pb.length : Int) := by omega
          have l2 : (0 : Int) ≤ (M : Int) + 4 * (j : Int) + 2 ∧ (M : Int) + 4 * (j : Int) + 2 < (pb.length : Int) := by omega
          have l3 : (0 : Int) ≤ (M : Int) + 4 * (j : Int) + 3 ∧ (M : Int) + 4 * (j : Int) + 3 < (pb.length : Int) := by omega
          have hb1 : (0 : Int) ≤ (j : Int) ∧ (j : Int) < 64 := by omega
          have f0 := harr.frozen j
          have g0 := harr.cell j (by omega)
          go_wp2_with fail
          go_still_tail 43, mixed1
          have hw := word_eq blk j (by omega)
          simp only [hw]
          generalize hwj : word blk j = wj at *
          have HW := Lib.hid hwj
          clear hw hwj
          go_wp2_with fail
          go_roundw
          case rel =>
            have hN : LoadR blk R0 R0.heap.size (.int .i64 ((j : Int) + 1)) (({ wr with drawn := wr.drawn + 1 } : World).setCell ⟨R0.heap.size, j, none⟩ (.int .u32 (wj.toNat : Int))) := by
              refine ⟨j + 1, by omega, by congr 1, ?_, ?_⟩
              · rw [← wsAt_set blk j (by omega), HW.out]
                exact ArrU.set (w := { wr with drawn := wr.drawn + 1 }) harr j wj
              · exact Below.setCell (p := ⟨R0.heap.size, j, none⟩) (hbel.drew) (Nat.le_refl _) _
            first
              | exact hN
              | ((repeat apply Exists.intro); exact ⟨hN, rfl⟩)
          case measure => simp [intOf]; omega
        · have hj16 : j = 16 := by omega
          subst hj16
          go_wp2_with fail
          have harr0 : ArrU wr R0.heap.size 100 (sched (16 - 16) (words blk)) := harr
          have HA0 := Lib.hid harr0
          have HB0 := Lib.hid hbel
          clear harr harr0 hbel
          go_loopw [9, 10, 11] (fun i _ _ wr => SchR blk R0 R0.heap.size i wr) (fun i _ _ _ => 64 - (intOf i).toNat)
          case atStart => exact ⟨16, Nat.le_refl _, by omega, rfl, HA0.out, HB0.out⟩
          case round =>
            clear HA0 HB0
            obtain ⟨I, hI1, hI2, rfl, harr, hbel⟩ := hrel
            have hwl : (sched (I - 16) (words blk)).length = 64 := by rw [sched_len, words_len]
            by_cases hlt3 : I < 64
            · as_aux_lemma =>
              have hnext : sched (I + 1 - 16) (words blk) = (sched (I - 16) (words blk)).set I (next (sched (I - 16) (words blk)) I) := by
                rw [show I + 1 - 16 = (I - 16) + 1 from by omega]
                show (sched (I - 16) (words blk)).set (16 + (I - 16)) (next (sched (I - 16) (words blk)) (16 + (I - 16))) = _
                rw [show 16 + (I - 16) = I from by omega]
              have HNX := Lib.hid hnext
              clear hnext
              generalize sched (I - 16) (words blk) = ws at *
              have c15 := harr.cell (I - 15) (by omega)
              have c2 := harr.cell (I - 2) (by omega)
              have c16 := harr.cell (I - 16) (by omega)
              have c7 := harr.cell (I - 7) (by omega)
              have cI := harr.cell I (by omega)
              have fI := harr.frozen I
              have hgl := harr.lt
              have hnx : next ws I = at_ ws (I - 16) + at_ ws (I - 7) + sig0 (at_ ws (I - 15)) + sig1 (at_ ws (I - 2)) := rfl
              have HN2 := Lib.hid hnx
              clear hnx
              generalize at_ ws (I - 15) = x at *
              generalize at_ ws (I - 2) = y at *
              generalize at_ ws (I - 16) = z at *
              generalize at_ ws (I - 7) = u at *
              generalize at_ ws I = old at *
              have m15 : IntKind.i64.wrap ((I : Int) - 15) = (I : Int) - 15 := IntWalk.i64_in _ (by omega)
              have m2 : IntKind.i64.wrap ((I : Int) - 2) = (I : Int) - 2 := IntWalk.i64_in _ (by omega)
              have m16 : IntKind.i64.wrap ((I : Int) - 16) = (I : Int) - 16 := IntWalk.i64_in _ (by omega)
              have m7 : IntKind.i64.wrap ((I : Int) - 7) = (I : Int) - 7 := IntWalk.i64_in _ (by omega)
              have n15 : ((I : Int) - 15).toNat = I - 15 := by omega
              have n2 : ((I : Int) - 2).toNat = I - 2 := by omega
              have n16 : ((I : Int) - 16).toNat = I - 16 := by omega
              have n7 : ((I : Int) - 7).toNat = I - 7 := by omega
              have l15 : (0 : Int) ≤ (I : Int) - 15 ∧ (I : Int) - 15 < 64 := by omega
              have l2 : (0 : Int) ≤ (I : Int) - 2 ∧ (I : Int) - 2 < 64 := by omega
              have l16 : (0 : Int) ≤ (I : Int) - 16 ∧ (I : Int) - 16 < 64 := by omega
              have l7 : (0 : Int) ≤ (I : Int) - 7 ∧ (I : Int) - 7 < 64 := by omega
              have lI : (0 : Int) ≤ (I : Int) ∧ (I : Int) < 64 := by omega
              have k16 : (16 : Int) ≤ (I : Int) := by omega
              have k15 : (15 : Int) ≤ (I : Int) := by omega
              have k7 : (7 : Int) ≤ (I : Int) := by omega
              have k2 : (2 : Int) ≤ (I : Int) := by omega
              have q7 := fun W => TurnS x 7 7 rfl (by omega) (by omega) W
              have q18 := fun W => TurnS x 18 18 rfl (by omega) (by omega) W
              have q17 := fun W => TurnS y 17 17 rfl (by omega) (by omega) W
              have q19 := fun W => TurnS y 19 19 rfl (by omega) (by omega) W
              have Q := Lib.hid (And.intro q7 (And.intro q18 (And.intro q17 q19)))
              clear q7 q18 q17 q19
              go_wp2_with fail
              go_quiet (fail)
              have c16' : (wr.drewN nq).cell? ⟨R0.heap.size, I - 16, none⟩ = some (.int .u32 (z.toNat : Int)) := c16
              have c7' : (wr.drewN nq).cell? ⟨R0.heap.size, I - 7, none⟩ = some (.int .u32 (u.toNat : Int)) := c7
              have cI' : (wr.drewN nq).cell? ⟨R0.heap.size, I, none⟩ = some (.int .u32 (old.toNat : Int)) := cI
              have fI' : (wr.drewN nq).frozen? ⟨R0.heap.size, I, none⟩ = false := fI
              have harr' : ArrU (wr.drewN nq) R0.heap.size 100 ws := harr
              have hbel' : Below R0.heap.size R0 (wr.drewN nq) := hbel.trans ⟨rfl, rfl, rfl, Nat.le_refl _, fun _ _ => rfl⟩
              have hgl' : R0.heap.size < (wr.drewN nq).heap.size := hgl
              clear c15 c2 c16 c7 cI fI harr hbel hgl
              go_wp2_with fail
              generalize wr.drewN nq = V2 at *
              refine wp_region_qt_lit 29 mixed1 (by kernel_rfl) (by kernel_rfl) ?_
              simp only [List.take_succ_cons, List.take_zero]
              repeat (go_big_quiet_step (first | with_reducible exact quiet_at Q.out.1 _ _ | with_reducible exact quiet_at Q.out.2.1 _ _ | with_reducible exact quiet_at Q.out.2.2.1 _ _ | with_reducible exact quiet_at Q.out.2.2.2 _ _))
              refine wpQuiet_nil ?_
              rintro W ⟨nq2, rfl⟩ o ho
              simp at ho
              subst ho
              have cI2 : (V2.drewN nq2).cell? ⟨R0.heap.size, I, none⟩ = some (.int .u32 (old.toNat : Int)) := cI'
              have fI2 : (V2.drewN nq2).frozen? ⟨R0.heap.size, I, none⟩ = false := fI'
              have harr2 : ArrU (V2.drewN nq2) R0.heap.size 100 ws := harr'
              have hbel2 : Below R0.heap.size R0 (V2.drewN nq2) := hbel'.trans ⟨rfl, rfl, rfl, Nat.le_refl _, fun _ _ => rfl⟩
              clear c16' c7' cI' fI' harr' hbel' hgl'
              generalize V2.drewN nq2 = V3 at *
              simp only [shr3, shr10, w_xor, w_add3, w_add']
              have hst : z + (rotr x 7 ^^^ rotr x 18 ^^^ x >>> 3) + u + (rotr y 17 ^^^ rotr y 19 ^^^ y >>> 10) = next ws I := by rw [HN2.out, nextR]; rfl
              simp only [hst]
              have HNX2 := Lib.hid HNX.out
              generalize next ws I = nw at *
              clear hst HN2 HNX
              simp [opYield_def, yieldUpon, Region.wanted, go_sem, cI2, fI2]
              go_wp2_with fail
              go_roundw
              case rel =>
                have hN : SchR blk R0 R0.heap.size (.int .i64 ((I : Int) + 1)) (V3.setCell ⟨R0.heap.size, I, none⟩ (.int .u32 (nw.toNat : Int))) := by
                  refine ⟨I + 1, by omega, by omega, by congr 1, ?_, ?_⟩
                  · rw [HNX2.out]
                    exact ArrU.set (w := V3) harr2 I nw
                  · exact Below.setCell (p := ⟨R0.heap.size, I, none⟩) hbel2 (Nat.le_refl _) _
                first
                  | exact hN
                  | ((repeat apply Exists.intro); exact ⟨hN, rfl⟩)
              case measure => simp [intOf]; omega
            · have hI64 : I = 64 := by omega
              subst hI64
              go_wp2_with fail
              have hsr : ArrU wr gs 99 S.list := HR.out.1.keep (hbel.block gs hgR)
              have hkr : ArrU wr gk 100 ks0 := HR.out.2.2.keep (hbel.block gk HR.out.2.2.lt)
              have s0 := hsr.cell 0 (by simp [S8.list])
              have s1 := hsr.cell 1 (by simp [S8.list])
              have s2 := hsr.cell 2 (by simp [S8.list])
              have s3 := hsr.cell 3 (by simp [S8.list])
              have s4 := hsr.cell 4 (by simp [S8.list])
              have s5 := hsr.cell 5 (by simp [S8.list])
              have s6 := hsr.cell 6 (by simp [S8.list])
              have s7 := hsr.cell 7 (by simp [S8.list])
              simp only [at_, S8.list, List.getD_cons_zero, List.getD_cons_succ] at s0 s1 s2 s3 s4 s5 s6 s7
              have HA := Lib.hid harr
              go_still mixed1
              change Exit.then _ _ _ _ (World.drew wr)
              have hsr1 : ArrU (World.drew wr) gs 99 S.list := hsr
              have hkr1 : ArrU (World.drew wr) gk 100 ks0 := hkr
              have ha1 : ArrU (World.drew wr) R0.heap.size 100 (sched (64 - 16) (words blk)) := HA.out
              have hbel1 : Below R0.heap.size R0 (World.drew wr) := hbel.drew
              clear s0 s1 s2 s3 s4 s5 s6 s7 hsr hkr hbel harr HA
              generalize World.drew wr = V1 at *
              have HS2 := Lib.hid (And.intro hsr1 (And.intro hkr1 (And.intro ha1 hbel1)))
              clear hsr1 hkr1 ha1 hbel1
              go_wp2_with fail
              go_loopw [12, 13, 14, 15, 16, 17, 18, 19, 20, 21, 22] (fun va vb vc vd ve vf vg vh i _ _ wr => RndR ks0 (sched (64 - 16) (words blk)) S R0 R0.heap.size va vb vc vd ve vf vg vh i wr) (fun _ _ _ _ _ _ _ _ i _ _ _ => 64 - (intOf i).toNat)
              case atStart => exact ⟨0, Nat.zero_le _, rfl, rfl, rfl, rfl, rfl, rfl, rfl, rfl, rfl, HS2.out.2.2.1, HS2.out.2.2.2⟩
              case round =>
                clear HS2
                obtain ⟨K, hK, rfl, rfl, rfl, rfl, rfl, rfl, rfl, rfl, rfl, harr, hbel⟩ := hrel
                have hwl2 : (sched (64 - 16) (words blk)).length = 64 := by rw [sched_len, words_len]
                have HBE := Lib.hid hbel
                have HAR := Lib.hid harr
                by_cases hltK : K < 64
                · as_aux_lemma =>
                  have hnx : rnds ks0 (sched (64 - 16) (words blk)) S (K + 1) = rnd (rnds ks0 (sched (64 - 16) (words blk)) S K) (at_ ks0 K) (at_ (sched (64 - 16) (words blk)) K) := rfl
                  have HNX := Lib.hid hnx
                  have cK := harr.cell K (by omega)
                  have hkr : ArrU wr gk 100 ks0 := HR.out.2.2.keep (hbel.block gk HR.out.2.2.lt)
                  have kK := hkr.cell K (by rw [ks0_len]; omega)
                  clear hnx harr hbel hkr
                  generalize hS : rnds ks0 (sched (64 - 16) (words blk)) S K = T at *
                  generalize at_ (sched (64 - 16) (words blk)) K = wk at *
                  generalize at_ ks0 K = kk at *
                  have HSK := Lib.hid hS
                  clear hS
                  obtain ⟨Sa, Sb, Sc, Sd, Se, Sf, Sg, Sh⟩ := T
                  have q6 := fun W => TurnS Se 6 6 rfl (by omega) (by omega) W
                  have q11 := fun W => TurnS Se 11 11 rfl (by omega) (by omega) W
                  have q25 := fun W => TurnS Se 25 25 rfl (by omega) (by omega) W
                  have q2 := fun W => TurnS Sa 2 2 rfl (by omega) (by omega) W
                  have q13 := fun W => TurnS Sa 13 13 rfl (by omega) (by omega) W
                  have q22 := fun W => TurnS Sa 22 22 rfl (by omega) (by omega) W
                  have Q := Lib.hid (And.intro q6 (And.intro q11 (And.intro q25 (And.intro q2 (And.intro q13 q22)))))
                  have lK : (0 : Int) ≤ (K : Int) ∧ (K : Int) < 64 := by omega
                  clear q6 q11 q25 q2 q13 q22
                  go_wp2_with fail
                  go_quiet (first | with_reducible exact quiet_at Q.out.1 _ _ | with_reducible exact quiet_at Q.out.2.1 _ _ | with_reducible exact quiet_at Q.out.2.2.1 _ _)
                  have HW : Hid (ArrU (wr.drewN nq) R0.heap.size 100 (sched (64 - 16) (words blk)) ∧ Below R0.heap.size R0 (wr.drewN nq)) := Lib.hid ⟨HAR.out, HBE.out.trans ⟨rfl, rfl, rfl, Nat.le_refl _, fun _ _ => rfl⟩⟩
                  clear HAR HBE cK kK
                  generalize wr.drewN nq = V2 at *
                  simp only [w_not2, w_xor, w_and, w_add4, w_add']
                  have e1 : Sh + (rotr Se 6 ^^^ rotr Se 11 ^^^ rotr Se 25) + (Se &&& Sf ^^^ ~~~Se &&& Sg) + kk + wk = one ⟨Sa, Sb, Sc, Sd, Se, Sf, Sg, Sh⟩ kk wk := rfl
                  simp only [e1]
                  clear e1
                  generalize hon : one ⟨Sa, Sb, Sc, Sd, Se, Sf, Sg, Sh⟩ kk wk = on at *
                  have HON2 := Lib.hid hon
                  clear hon
                  go_wp2_with fail
                  refine (Q.out.2.2.2.1 _).mono ?_
                  rintro e w' ⟨rfl, x1, rfl⟩
                  go_wp2_with fail
                  refine (Q.out.2.2.2.2.1 _).mono ?_
                  rintro e w' ⟨rfl, x2, rfl⟩
                  go_wp2_with fail
                  refine (Q.out.2.2.2.2.2 _).mono ?_
                  rintro e w' ⟨rfl, x3, rfl⟩
                  go_wp2_with fail
                  have hr : rnds ks0 (sched (64 - 16) (words blk)) S (K + 1) = ⟨on + ((rotr Sa 2 ^^^ rotr Sa 13 ^^^ rotr Sa 22) + (Sa &&& Sb ^^^ Sa &&& Sc ^^^ Sb &&& Sc)), Sa, Sb, Sc, Sd + on, Se, Sf, Sg⟩ := by
                    rw [HNX.out]
                    unfold rnd
                    simp only
                    rw [HON2.out]
                    rfl
                  have hg : (.int .i64 ((K : Int) + 1) : Value) = .int .i64 ((K + 1 : Nat) : Int) := by go_num
                  refine ⟨⟨K + 1, by omega, hg, ?_, ?_, ?_, ?_, ?_, ?_, ?_, ?_, HW.out.1, below_drewN HW.out.2 _⟩, by simp [intOf]; omega⟩
                  all_goals
                    rw [hr]
                    try simp only [w_xor, w_and, w_add']
                · as_aux_lemma =>
                  have hK64 : K = 64 := by omega
                  subst hK64
                  generalize hT : rnds ks0 (sched (64 - 16) (words blk)) S 64 = T at *
                  have HTT := Lib.hid hT
                  clear hT
                  obtain ⟨Ta, Tb, Tc, Td, Te, Tf, Tg, Th⟩ := T
                  have hs4 : ArrU wr gs 99 S.list := HR.out.1.keep (HBE.out.block gs hgR)
                  have hkp4 : Kept (fun k => k = gs) V0 wr := HR.out.2.1.then (Kept.of_below HBE.out) (fun i hi h => by have := HR.out.2.1.size; omega)
                  have s0 := hs4.cell 0 (by simp [S8.list])
                  have s1 := hs4.cell 1 (by simp [S8.list])
                  have s2 := hs4.cell 2 (by simp [S8.list])
                  have s3 := hs4.cell 3 (by simp [S8.list])
                  simp only [at_, S8.list, List.getD_cons_zero, List.getD_cons_succ] at s0 s1 s2 s3
                  simp only at *
                  go_wp2_with (first
                    | (refine wpList_store_u rfl (.tmp 218) (.tmp 205) rfl gs 0 rfl (S.a + Ta) (congrArg (Value.int .u32) (w_add' S.a Ta)) hs4 (by simp [S8.list]) ?_; intro w5 h5 k5; clear s0 s1 s2 s3)
                    | (refine wpList_store_u rfl (.tmp 219) (.tmp 209) rfl gs 1 rfl (S.b + Tb) (congrArg (Value.int .u32) (w_add' S.b Tb)) h5 (by simp [S8.list]) ?_; intro w6 h6 k6; clear h5)
                    | (refine wpList_store_u rfl (.tmp 220) (.tmp 213) rfl gs 2 rfl (S.c + Tc) (congrArg (Value.int .u32) (w_add' S.c Tc)) h6 (by simp [S8.list]) ?_; intro w7 h7 k7; clear h6)
                    | (refine wpList_store_u rfl (.tmp 221) (.tmp 217) rfl gs 3 rfl (S.d + Td) (congrArg (Value.int .u32) (w_add' S.d Td)) h7 (by simp [S8.list]) ?_; intro w8 h8 k8; clear h7; have h9 : ArrU w8 gs 99 [S.a + Ta, S.b + Tb, S.c + Tc, S.d + Td, S.e, S.f, S.g, S.h] := h8; have hk8 := ((hkp4.trans k5).trans k6).trans (k7.trans k8); clear h8 k5 k6 k7 k8; have s4 := h9.cell 4 (by simp); have s5 := h9.cell 5 (by simp); have s6 := h9.cell 6 (by simp); have s7 := h9.cell 7 (by simp); simp only [at_, List.getD_cons_zero, List.getD_cons_succ] at s4 s5 s6 s7)
                    | (refine wpList_store_u rfl (.tmp 238) (.tmp 225) rfl gs 4 rfl (S.e + Te) (congrArg (Value.int .u32) (w_add' S.e Te)) h9 (by simp) ?_; intro w5 h5 k5; clear s4 s5 s6 s7 h9)
                    | (refine wpList_store_u rfl (.tmp 239) (.tmp 229) rfl gs 5 rfl (S.f + Tf) (congrArg (Value.int .u32) (w_add' S.f Tf)) h5 (by simp) ?_; intro w6 h6 k6; clear h5)
                    | (refine wpList_store_u rfl (.tmp 240) (.tmp 233) rfl gs 6 rfl (S.g + Tg) (congrArg (Value.int .u32) (w_add' S.g Tg)) h6 (by simp) ?_; intro w7 h7 k7; clear h6)
                    | (refine wpList_store_u rfl (.tmp 241) (.tmp 237) rfl gs 7 rfl (S.h + Th) (congrArg (Value.int .u32) (w_add' S.h Th)) h7 (by simp) ?_; intro wE hE kE; clear h7; have hkE := ((hk8.trans k5).trans k6).trans (k7.trans kE); clear k5 k6 k7 kE hk8))
                  have hsh : shaF ks0 (m + 1) pb s256 = S.add ⟨Ta, Tb, Tc, Td, Te, Tf, Tg, Th⟩ := by
                    rw [HN.out]
                    unfold mix
                    rw [show (48 : Nat) = 64 - 16 from rfl, HTT.out]
                  have HE := Lib.hid (And.intro hE (And.intro hkE hsh))
                  clear hE hkE hsh hs4 hkp4 HAR HBE harr hbel HTT HN HR HBND
                  go_roundw
                  case rel =>
                    have hN : RSumL pb gs V0 (.int .i64 ((M : Int) + 64)) wE := by
                      refine ⟨m + 1, M + 64, ?_, hM64, ?_, ?_, HE.out.2.1⟩
                      · rw [HM.out]; omega
                      · go_num
                      · rw [HE.out.2.2]
                        exact HE.out.1
                    first
                      | exact hN
                      | ((repeat apply Exists.intro); exact ⟨hN, rfl⟩)
                  case measure => simp [intOf]; omega
    · have hMe : M = pb.length := by omega
      have hm : m = pb.length / 64 := by omega
      have hsh : sha ks0 b = out (shaF ks0 m pb s256) := by rw [hm]; exact HSH.out
      have hgw : w.heap.size < gs := by have := HG.out; omega
      have hzr : wr.heap[w.heap.size]? = some (.cells z32 78 (0, 0)) := (hkp.block _ (lt_block H0.out.2.2.1) (by omega)).trans H0.out.2.2.1
      have hbr : Below w.heap.size w wr := H0.out.2.2.2.1.trans (hkp.below H0.out.2.2.2.1.size (fun k hk e => by omega))
      have HX := Lib.hid (And.intro harr (And.intro hzr (And.intro hbr hsh)))
      clear hMe hm hsh hM hkp harr hzr hbr
      generalize shaF ks0 m pb s256 = S at *
      go_wp2_with fail
      have hz : ArrB (wr.alloc (.cells ((outB (out S) 0).map byteV).toArray 78)) wr.heap.size 78 (outB (out S) 0) := heap_alloc_new wr _
      have hz2 : ((outB (out S) 0).map byteV).toArray = (List.replicate 32 (Value.int .u8 0)).toArray := by
        simp [outB, byteV]
      rw [hz2] at hz
      simp only [List.replicate] at hz
      have hb0 : Below wr.heap.size wr (wr.alloc (.cells (List.replicate 32 (Value.int .u8 0)).toArray 78)) := (Below.refl _ _).alloc (Nat.le_refl _) _
      simp only [List.replicate] at hb0
      have hgr : gs < wr.heap.size := HX.out.1.lt
      have hwr : w.heap.size < wr.heap.size := lt_block HX.out.2.1
      have ha9 := HX.out.1.keep (hb0.block gs hgr)
      have hz9 := (hb0.block _ hwr).trans HX.out.2.1
      have hb9 := HX.out.2.2.1.trans (hb0.mono HX.out.2.2.1.size)
      generalize wr.alloc _ = V9 at *
      generalize wr.heap.size = go at *
      have H9 := Lib.hid (And.intro hz (And.intro ha9 (And.intro hz9 hb9)))
      have HSH2 := Lib.hid HX.out.2.2.2
      clear hz2 hz hb0 ha9 hz9 hb9 HX H0 HSH
      go_loopw [24] (fun i wr => OutL (out S) go V9 i wr) (fun i _ => 32 - (intOf i).toNat)
      case atStart => exact ⟨0, Nat.zero_le _, rfl, H9.out.1, Kept.refl _ _⟩
      case round =>
        obtain ⟨j, hj, rfl, hout, hkp⟩ := hrel
        have ha : ArrU wr gs 99 S.list := H9.out.2.1.keep (hkp.block _ H9.out.2.1.lt (by omega))
        by_cases hj32 : j < 32
        · obtain ⟨q, r, hq, hr, hjq⟩ : ∃ q r, q < 8 ∧ r < 4 ∧ j = 4 * q + r := ⟨j / 4, j % 4, by omega, by omega, by omega⟩
          have hset := outB_set (out S) j (out_len _) (by omega)
          have hol := outB_len (out S) j (out_len _) (by omega)
          obtain ⟨g0, g1, g2, g3⟩ := out_get S q hq
          have cq := ha.cell q (by simpa [S8.list] using hq)
          have co := hout.cell j (by omega)
          have fo := hout.frozen j
          generalize at_ S.list q = xj at *
          have e0 := byte24 xj
          have e1 := byte16 xj
          have e2 := byte8 xj
          have e3 := byte0 xj
          have lq : (0 : Int) ≤ (q : Int) ∧ (q : Int) < 8 := by omega
          have d1 : (j : Int) / 4 = (q : Int) := by omega
          have d3 : (j : Int).tdiv 4 = (q : Int) := by rw [Int.tdiv_eq_ediv_of_nonneg (by omega)]; exact d1
          have lJ : (0 : Int) ≤ (j : Int) ∧ (j : Int) < 32 := by omega
          have HO := Lib.hid (And.intro hout (And.intro hkp hset))
          have HE := Lib.hid (And.intro e0 (And.intro e1 (And.intro e2 e3)))
          have hr4 : r = 0 ∨ r = 1 ∨ r = 2 ∨ r = 3 := by omega
          have d2 : (j : Int) % 4 = (r : Int) := by omega
          have d4 : (j : Int).tmod 4 = (r : Int) := by rw [Int.tmod_eq_emod_of_nonneg (by omega)]; exact d2
          clear hout hkp hset hol ha e0 e1 e2 e3 hr H9
          rcases hr4 with rfl | rfl | rfl | rfl
          · have HT : Hid ((out S).getD j 0 = (xj >>> 24).toUInt8) := Lib.hid (by rw [hjq]; exact g0)
            clear g0 g1 g2 g3 hjq
            go_wp2_with fail
            rw [HE.out.1]
            exact ⟨OutL.step HO.out.1 HO.out.2.1 HO.out.2.2 HT.out hj32, by simp [intOf]; omega⟩
          · have HT : Hid ((out S).getD j 0 = (xj >>> 16).toUInt8) := Lib.hid (by rw [hjq]; exact g1)
            clear g0 g1 g2 g3 hjq
            go_wp2_with fail
            rw [HE.out.2.1]
            exact ⟨OutL.step HO.out.1 HO.out.2.1 HO.out.2.2 HT.out hj32, by simp [intOf]; omega⟩
          · have HT : Hid ((out S).getD j 0 = (xj >>> 8).toUInt8) := Lib.hid (by rw [hjq]; exact g2)
            clear g0 g1 g2 g3 hjq
            go_wp2_with fail
            rw [HE.out.2.2.1]
            exact ⟨OutL.step HO.out.1 HO.out.2.1 HO.out.2.2 HT.out hj32, by simp [intOf]; omega⟩
          · have HT : Hid ((out S).getD j 0 = xj.toUInt8) := Lib.hid (by rw [hjq]; exact g3)
            clear g0 g1 g2 g3 hjq
            go_wp2_with fail
            rw [HE.out.2.2.2]
            exact ⟨OutL.step HO.out.1 HO.out.2.1 HO.out.2.2 HT.out hj32, by simp [intOf]; omega⟩
        · have hj8' : j = 32 := by omega
          subst hj8'
          rw [outB_all _ (out_len _)] at hout
          have hi32 : (Tryz.prog.info? 78).map (·.size) = some (((out S).map byteV).toArray.size) := by
            have : (Tryz.prog.info? 78).map (·.size) = some 32 := by kernel_rfl
            rw [this]
            rfl
          have hall : (((out S).map byteV).toArray).all (·.oneCell') = true := by simp [byteV, Value.oneCell']
          have hgo : wr.heap[go]? = some (.cells ((out S).map byteV).toArray 78 (0, 0)) := hout
          have hz : wr.heap[w.heap.size]? = some (.cells z32 78 (0, 0)) := (hkp.block _ (lt_block H9.out.2.2.1) (by omega)).trans H9.out.2.2.1
          have hbel : Below w.heap.size w wr := H9.out.2.2.2.trans (hkp.below H9.out.2.2.2.size (fun k hk e => by omega))
          generalize hcs : ((out S).map byteV).toArray = cs at *
          have HCS := Lib.hid hcs
          have hcz : z32.size = cs.size := by rw [← hcs]; rfl
          have HB9 := Lib.hid hbel
          clear hcs hout hbel hkp H9 ha
          go_wp2_with (first
            | (refine wpList_load_row rfl 78 _ rfl go rfl 78 cs (0, 0) _ hgo Tryz.underlying78 rfl hi32 ?_)
            | (refine wpList_store_row rfl 78 (.tmp 2) (.tmp 258) rfl w.heap.size cs rfl rfl 78 _ hz hi32 hcz hall ?_))
          have hrb := setRow_heap wr w.heap.size _ cs _ _ hz
          refine bodyPost_ret (v := .agg cs) (results_cell_row rfl _ _ w.heap.size 78 cs (0, 0) _ rfl hrb Tryz.underlying78 rfl hi32) rfl ⟨?_, ?_⟩
          · rw [← HCS.out, HSH2.out]
          · exact HB9.out.trans ⟨rfl, rfl, rfl, by simp, fun k hk => setRow_other wr w.heap.size k cs (by omega)⟩
end W
end Go.Proofs.YthogembgndkmpaaGreatDoor

/- hash.Short: the beginning of the sum of a tag and parts. -/
namespace Go.Proofs.YthogembgndkmpaaGreatDoor
open Go.RowKit
namespace W
/-- a part, its length ahead -/
def lp (l : List UInt8) : List UInt8 := Nm.be4 l.length ++ l
def parts (ps : List (List UInt8)) : List UInt8 := ps.flatMap lp
def short (ks : List UInt32) (tag : UInt8) (ps : List (List UInt8)) : List UInt8 := (sha ks (tag :: parts ps)).take 8
theorem sha_len (ks : List UInt32) (b : List UInt8) : (sha ks b).length = 32 := out_len _
theorem short_len (ks : List UInt32) (tag : UInt8) (ps : List (List UInt8)) : (short ks tag ps).length = 8 := by simp [short, sha_len]
theorem lp_len (l : List UInt8) : (lp l).length = 4 + l.length := by simp [lp, Nm.be4]; omega
theorem parts_take {ps : List (List UInt8)} {k : Nat} (h : k < ps.length) : parts (ps.take (k + 1)) = parts (ps.take k) ++ lp ps[k] := by
  unfold parts
  rw [List.take_succ_eq_append_getElem h, List.flatMap_append]
  simp
theorem parts_take_le (ps : List (List UInt8)) (k : Nat) : (parts (ps.take k)).length ≤ (parts ps).length := by
  unfold parts
  conv => rhs; rw [← List.take_append_drop k ps, List.flatMap_append, List.length_append]
  omega
def z8 : Array Value := (List.replicate 8 (Value.int .u8 0)).toArray
/-- append of a few elements, laid in a block of their own just before, to a row that the call owns from block B on -/
theorem wpList_pushN {P : Program} {ops : Array Oper} {rest : List Oper} {o : Oper} {a : Act} {Q : Exit → Act → World → Prop}
    {w : World} {B : Nat} {v : Value} {n : Nat} {xs : List Value} {e : TypeId} (hown : w.ownsRow B e 1 v n xs) (hB : B ≤ w.heap.size)
    (us : List Value) (h1 : ∀ u ∈ us, u.oneCell' = true)
    {i : TypeInfo} {z : Value} {bytes : Nat} (hi : P.info? e = some i) (hz : i.zero = some z)
    (hsize : i.size = 1) (hby : i.bytes = bytes) (hzs : z.cells.size = 1)
    (hgd : o.guard = none) (s x : Operand) (t : TypeId) (ht : P.underlying t = some (.slice e))
    (ho : o.op = .call { callee := .builtin .append, args := #[s, x], argTypes := #[t, t] })
    (hs : a.eval s = v) (hx : a.eval x = .slice (some ⟨w.heap.size, 0, none⟩) us.length us.length)
    (h63 : n + us.length ≤ maxLen) (hbytes : (n + us.length) * bytes ≤ 140737488355328)
    (h : ∀ v' w', w'.ownsRow B e 1 v' (n + us.length) (xs ++ us) → Below B w w' → wpList P ops Q rest (a.put o.dst v') w') :
    wpList P ops Q (o :: rest) a (w.alloc (.cells us.toArray e)) := by
  refine wpList_append_own _ hgd s x t ho B e i z 1 bytes ht hi hz hsize hby hzs (by decide) v n xs hs (hown.alloc _) ⟨w.heap.size, 0, none⟩ us.length us.length us hx (by omega) ?_ h1 h63 hbytes
    (by simp; omega) ?_
  · intro j u hu
    have hadd : (⟨w.heap.size, 0, none⟩ : Addr).add j = ⟨w.heap.size, j, none⟩ := by unfold Addr.add; split <;> simp_all
    rw [hadd, cell_of_row _ _ j us.toArray e (0, 0) (heap_alloc_new w _)]
    simpa using hu
  · intro v' w' h2 h3 _
    refine h v' w' h2 ?_
    have hb1 : Below B w (w.alloc (.cells us.toArray e)) := (Below.refl _ _).alloc hB _
    refine hb1.grown h3 (by simp; omega) fun k hk => ?_
    exact (hown.lt k hk).1
theorem be4_vals (n : Nat) (h : n ≤ 900000) : (Nm.be4 n).map byteV = [Value.int .u8 ((n : Int) / 16777216), .int .u8 ((n : Int) / 65536), .int .u8 ((n : Int) / 256 % 256), .int .u8 ((n : Int) % 256)] := by
  unfold Nm.be4
  simp only [List.map_cons, List.map_nil, Nm.byteV_mod]
  have e1 : ((n / 16777216 : Nat) : Int) % 256 = (n : Int) / 16777216 := by omega
  have e2 : ((n / 65536 : Nat) : Int) % 256 = (n : Int) / 65536 := by omega
  have e3 : ((n / 256 : Nat) : Int) = (n : Int) / 256 := by omega
  rw [e1, e2, e3]
theorem wpList_at {P : Program} {ops : Array Oper} {rest : List Oper} {a : Act} {w : World} {Q : Exit → Act → World → Prop} (h : wpList P ops Q rest a w) : wpList P ops Q rest a w := h
theorem own_caps {w : World} {B : Nat} {e : TypeId} {A : Option Addr} {n c : Nat} {xs : List Value} (h : w.ownsRow B e 1 (.slice A n c) n xs) (hn : 0 < n) : n ≤ c ∧ c ≤ maxLen ∧ A ≠ none := by
  rcases h.2 with ⟨_, h0⟩ | ⟨g, cap, cur, e1, _, _, h1, h2, _⟩
  · omega
  · cases e1
    exact ⟨h1, h2, by simp⟩
theorem at8 (W : World) (a : Option Addr) (n c : Nat) (h : 8 ≤ n) : (Instr.arrayAt 23 (.slice a n c)).run Tryz.prog W = .ok (.pointer a) W := run_arrayAt W _ 5 8 a n c Tryz.underlying23 h
theorem wpList_at8 {ops : Array Oper} {rest : List Oper} {o : Oper} {a : Act} {w : World} {Q : Exit → Act → World → Prop} (hgd : o.guard = none) (x : Operand) (ho : o.op = .sliceToArrayPointer 23 x)
    (A : Option Addr) (n c : Nat) (hx : a.eval x = .slice A n c) (h8 : 8 ≤ n) (h : wpList Tryz.prog ops Q rest (a.put o.dst (.pointer A)) w) : wpList Tryz.prog ops Q (o :: rest) a w := by
  refine wpList_plain hgd fun K hK => ?_
  unfold Oper.wp execOp
  simp only [ho, hx, Sem.run_bind, Sem.run_pure, Result.andThen_ok, at8 w A n c h8]
  exact hK _ _ h
theorem eight (l : List UInt8) (h : l.length = 8) : ∃ x0 x1 x2 x3 x4 x5 x6 x7, l = [x0, x1, x2, x3, x4, x5, x6, x7] := by
  rcases l with _ | ⟨x0, _ | ⟨x1, _ | ⟨x2, _ | ⟨x3, _ | ⟨x4, _ | ⟨x5, _ | ⟨x6, _ | ⟨x7, _ | ⟨x8, l⟩⟩⟩⟩⟩⟩⟩⟩⟩
  all_goals first
    | exact ⟨_, _, _, _, _, _, _, _, rfl⟩
    | (simp at h; done)
    | (simp at h; omega)
theorem slice32 (g : Nat) (W : World) : (Instr.sliceAt 78 (.pointer (some ⟨g, 0, none⟩)) none (some (.int .i64 8)) none).run Tryz.prog W = .ok (.slice (some ⟨g, 0, none⟩) 8 32) W := by
  have ha : Tryz.prog.arrayLen 78 = 32 := by kernel_rfl
  have h := run_sliceAt_array_h (P := Tryz.prog) W 78 ⟨g, 0, none⟩ (by kernel_rfl) .i64 8 (by omega) (by rw [ha]; omega)
  rw [h]
  have hs : (sizeOf (Tryz.prog.elem 78)).run Tryz.prog W = .ok 1 W := by
    simp [sizeOf, typeInfo]
    kernel_rfl
  rw [hs, ha]
  rfl
theorem wpList_cut8 {ops : Array Oper} {rest : List Oper} {o : Oper} {a : Act} {w : World} {Q : Exit → Act → World → Prop} (hgd : o.guard = none) (x : Operand) (ho : o.op = .slice 78 x none (some (.const (.int .i64 8))) none)
    (g : Nat) (hx : a.eval x = .pointer (some ⟨g, 0, none⟩)) (h : wpList Tryz.prog ops Q rest (a.put o.dst (.slice (some ⟨g, 0, none⟩) 8 32)) w) : wpList Tryz.prog ops Q (o :: rest) a w := by
  refine wpList_plain hgd fun K hK => ?_
  have hs := slice32 g w
  have e : a.eval (.const (.int .i64 8)) = .int .i64 8 := rfl
  unfold Oper.wp execOp
  simp only [ho, hx, e, Sem.run_bind, Sem.run_pure, Result.andThen_ok, Option.map_some, Option.map_none, hs]
  exact hK _ _ h
def ShR (tag : UInt8) (ps : List (List UInt8)) (B : Nat) (V : World) (v i : Value) (wr : World) : Prop := ∃ k : Nat, k ≤ ps.length ∧ i = .int .i64 (k : Int) ∧ wr.ownsRow B 5 1 v (1 + (parts (ps.take k)).length) ((tag :: parts (ps.take k)).map byteV) ∧ Below B V wr
set_option maxRecDepth 100000 in
set_option maxHeartbeats 20000000 in
theorem Short (tag : UInt8) (A : Option Addr) (cap : Nat) (bs : List Blob) (ks : List UInt32) (w : World) (hk : ArrU w 1 100 ks) (hkl : ks.length = 64) (hc : Cs w A (bs.map Blob.v)) (hb : Blobs w bs) (hn : bs.length ≤ 1000) (hl : (parts (bs.map (·.l))).length ≤ 900000) :
    Calls Tryz.prog 84 #[byteV tag, .slice A bs.length cap] w fun e w' => e = .returned (.agg ((short ks tag (bs.map (·.l))).map byteV).toArray) ∧ Below w.heap.size w w' := by
  obtain ⟨i0, hi, hz0, hz1, hz2⟩ := info_parts info_u8
  have hk1 := hk.lt
  have HB := Lib.hid (And.intro hb hk)
  clear hb hk
  unfold byteV
  go_enter Tryz.func84, Tryz.ntmps84
  go_wp2_with fail
  generalize hW1 : World.alloc _ _ = W1
  have hz1' : W1.heap[w.heap.size]? = some (.cells z8 23 (0, 0)) := by
    rw [← hW1]
    exact heap_alloc2_old w _ _
  have hb1 : Below w.heap.size w W1 := by
    rw [← hW1]
    exact ((Below.refl _ _).alloc (Nat.le_refl _) _).alloc (by simp) _
  have hown1 : W1.ownsRow (w.heap.size + 1) 5 1 (.slice (some ⟨w.heap.size + 1, 0, none⟩) 1 1) 1 ([tag].map byteV) := by
    rw [← hW1]
    have h := Nm.ownC (w.alloc (.cells z8 23)) (w.heap.size + 1) 5 ([tag].map byteV) (by simp) (by simp)
    rw [show (w.alloc (.cells z8 23)).heap.size = w.heap.size + 1 from by simp] at h
    exact h
  clear hW1
  go_loopw [5, 7, 8, 14] (fun v _ _ i wr => ShR tag (bs.map (·.l)) (w.heap.size + 1) W1 v i wr) (fun _ _ _ i _ => bs.length - (intOf i).toNat)
  case atStart => exact ⟨0, Nat.zero_le _, rfl, by simpa [parts] using hown1, Below.refl _ _⟩
  case round =>
    obtain ⟨k, hk, rfl, hown, hbel⟩ := hrel
    rw [List.length_map] at hk
    have hpl := parts_take_le (bs.map (·.l)) k
    have hbw := hb1.trans (hbel.mono (Nat.le_succ _))
    by_cases hlt : k < bs.length
    · obtain ⟨bk, off, rfl, hbl, hc0⟩ := Cs.blob hc hlt
      have hc1 := (bcl hbw hbl).trans hc0
      have hok : Cs wr bs[k].A (bs[k].l.map byteV) := Cs.below (HB.out.1 bs[k] (List.getElem_mem hlt)) hbw
      have hpt := parts_take (ps := bs.map (·.l)) (k := k) (by simpa using hlt)
      have hp1 := parts_take_le (bs.map (·.l)) (k + 1)
      rw [hpt] at hp1
      simp only [List.getElem_map, List.length_append, lp_len] at hp1 hpt
      have HP := Lib.hid hpt
      have hB0 : w.heap.size + 1 ≤ wr.heap.size := Nat.le_trans (Nat.le_of_lt (hown1.lt _ rfl).2) hbel.size
      have hbn : bs[k].l.length ≤ 900000 := by omega
      have HV := Lib.hid (be4_vals bs[k].l.length hbn)
      have hok : Cs w bs[k].A (bs[k].l.map byteV) := HB.out.1 bs[k] (List.getElem_mem hlt)
      have HW := Lib.hid (And.intro hok (And.intro hbw hbel))
      clear hpt hc0 hz1' hb1 hown1 hc hok hbw hbel
      generalize bs[k] = b at *
      generalize parts (List.take k (bs.map (·.l))) = xs at *
      generalize (parts (bs.map (·.l))).length = tot at *
      go_wp2_with (first
        | (at_builtin; refine wpList_pushN hown hB0 _ (by simp [Value.oneCell']) hi hz0 hz1 hz2 rfl rfl (.tmp 20) (.tmp 32) 28 Tryz.underlying28 rfl rfl rfl (by simp; unfold maxLen; omega) (by simp; omega) ?_; intro v1 w1 hown1 hbw1; rw [← HV.out, ← List.map_append] at hown1; have hbX := HW.out.2.1.trans (hbw1.mono (Nat.le_succ _)); have hok1 := Cs.below HW.out.1 hbX)
        | (at_builtin; refine wpList_bytes hown1 (Nat.le_trans hB0 hbw1.size) hok1 rfl (.tmp 34) (.tmp 35) Tryz.underlying28 rfl rfl rfl (by simp [Nm.be4]; omega) ?_; intro v2 w2 hown2 hbw2))
      have hown3 : w2.ownsRow (w.heap.size + 1) 5 1 v2 (1 + (parts ((bs.map (·.l)).take (k + 1))).length) ((tag :: parts ((bs.map (·.l)).take (k + 1))).map byteV) := by
        rw [HP.out]
        unfold lp
        have e : 1 + xs.length + ((Nm.be4 b.l.length).map byteV).length + b.l.length = 1 + (xs ++ (Nm.be4 b.l.length ++ b.l)).length := by simp; omega
        have e2 : tag :: xs ++ Nm.be4 b.l.length ++ b.l = tag :: (xs ++ (Nm.be4 b.l.length ++ b.l)) := by simp
        rw [e, e2] at hown2
        exact hown2
      refine ⟨⟨k + 1, by rw [List.length_map]; omega, by go_num, hown3, (HW.out.2.2.trans hbw1).trans hbw2⟩, by simp [intOf]; omega⟩
    · have hkl : k = bs.length := by omega
      subst hkl
      have ht : List.take bs.length (bs.map (·.l)) = bs.map (·.l) := List.take_of_length_le (by simp)
      rw [ht] at hown
      clear ht hpl
      obtain ⟨A1, c1, rfl, _, hcs⟩ := Cs.of_own hown
      obtain ⟨hc1, hc2, hA1⟩ := own_caps hown (by omega)
      have hkr : ArrU wr 1 100 ks := HB.out.2.keep (hbw.block 1 hk1)
      have hzr : wr.heap[w.heap.size]? = some (.cells z8 23 (0, 0)) := (hbel.block _ (Nat.lt_succ_self _)).trans hz1'
      have hS := Sum A1 c1 ks (tag :: parts (bs.map (·.l))) wr hkr hkl hcs (by simp; omega) (by simp; omega) hc2 (fun h => absurd h hA1)
      rw [show (tag :: parts (bs.map (·.l))).length = 1 + (parts (bs.map (·.l))).length from by simp; omega] at hS
      have hsl := sha_len ks (tag :: parts (bs.map (·.l)))
      have hsd : short ks tag (bs.map (·.l)) = (sha ks (tag :: parts (bs.map (·.l)))).take 8 := rfl
      have HS := Lib.hid hS
      have HD := Lib.hid hsd
      have HW := Lib.hid (And.intro hzr hbw)
      clear hS hcs hkr hzr hbw hbel hown hown1 hc hz1' hb1 hsd
      generalize sha ks (tag :: parts (bs.map (·.l))) = SH at *
      generalize (parts (bs.map (·.l))).length = L at *
      go_wp2_with fail
      refine HS.out.mono ?_
      rintro e w2 ⟨rfl, hb2⟩
      have hi32 : (Tryz.prog.info? 78).map (·.size) = some ((SH.map byteV).toArray.size) := by
        have : (Tryz.prog.info? 78).map (·.size) = some 32 := by kernel_rfl
        rw [this]
        simp [hsl]
      have hall : ((SH.map byteV).toArray).all (·.oneCell') = true := by simp [byteV, Value.oneCell']
      have hz : (w2.alloc (.cells z32 78)).heap[w2.heap.size]? = some (.cells z32 78 (0, 0)) := heap_alloc_new w2 _
      have hbz : Below w2.heap.size w2 (w2.alloc (.cells z32 78)) := (Below.refl _ _).alloc (Nat.le_refl _) _
      have hrb := setRow_heap (w2.alloc (.cells z32 78)) w2.heap.size _ (SH.map byteV).toArray _ _ hz
      have hbr : Below w2.heap.size w2 ((w2.alloc (.cells z32 78)).setRow w2.heap.size (SH.map byteV).toArray) := hbz.trans ⟨rfl, rfl, rfl, by simp, fun k hk => setRow_other (w2.alloc (.cells z32 78)) w2.heap.size k _ (by omega)⟩
      have hcz : z32.size = (SH.map byteV).toArray.size := by simp [z32, hsl]
      have hrng : ((w2.alloc (.cells z32 78)).setRow w2.heap.size (SH.map byteV).toArray).rangeAt w2.heap.size 0 ((SH.take 8).map byteV) := by
        intro j v hj
        rw [Nat.zero_add, cell_of_row _ _ _ _ _ _ hrb]
        rw [List.map_take, List.getElem?_take] at hj
        by_cases h8 : j < 8
        · rw [if_pos h8] at hj
          simpa using hj
        · rw [if_neg h8] at hj; cases hj
      have h8l : (SH.take 8).length = 8 := by simp [hsl]
      generalize hcs : (SH.map byteV).toArray = cs at *
      have HX := Lib.hid (And.intro hz (And.intro hi32 (And.intro hcz (And.intro hall (And.intro hbr hrng)))))
      clear hz hbz hrb hbr hrng hi32 hall hcz hcs
      have hi8 : (Tryz.prog.info? 23).map (·.size) = some 8 := by kernel_rfl
      have hw0 := lt_block HW.out.1
      have hz3 : ((w2.alloc (.cells z32 78)).setRow w2.heap.size cs).heap[w.heap.size]? = some (.cells z8 23 (0, 0)) := (HX.out.2.2.2.2.1.block _ (Nat.lt_of_lt_of_le hw0 hb2.size)).trans ((hb2.block _ hw0).trans HW.out.1)
      have HZ := Lib.hid hz3
      clear hz3
      obtain ⟨x0, x1, x2, x3, x4, x5, x6, x7, h8e⟩ := eight _ h8l
      rw [h8e] at HX HD
      clear h8e h8l
      have hall8 : (([x0, x1, x2, x3, x4, x5, x6, x7] : List UInt8).map byteV).toArray.all (·.oneCell') = true := by simp [byteV, Value.oneCell']
      go_wp2_with (first
        | (refine wpList_store_row rfl 78 (.tmp 9) (.tmp 39) rfl w2.heap.size cs rfl (by kernel_rfl) 78 z32 HX.out.1 HX.out.2.1 HX.out.2.2.1 HX.out.2.2.2.1 ?_; change wpList _ _ _ _ _ ((w2.alloc (.cells z32 78)).setRow w2.heap.size cs); have hbV := HX.out.2.2.2.2.1; have hrV := HX.out.2.2.2.2.2; have hzV := HZ.out; generalize (w2.alloc (.cells z32 78)).setRow w2.heap.size cs = V9 at *; have HZV := Lib.hid hzV; have HRV := Lib.hid hrV; clear hrV hzV)
        | (refine wpList_cut8 rfl (.tmp 9) rfl w2.heap.size rfl (wpList_at8 rfl (.tmp 40) rfl (some ⟨w2.heap.size, 0, none⟩) 8 32 rfl (Nat.le_refl _) (wpList_load_mid rfl 23 (.tmp 41) rfl w2.heap.size 0 rfl (([x0, x1, x2, x3, x4, x5, x6, x7] : List UInt8).map byteV) (.array 8 5) HRV.out Tryz.underlying23 rfl hi8 (wpList_store_row rfl 23 (.tmp 4) (.tmp 42) rfl w.heap.size (([x0, x1, x2, x3, x4, x5, x6, x7] : List UInt8).map byteV).toArray rfl rfl 23 z8 HZV.out hi8 rfl hall8 ?_)))))
      have hrb := setRow_heap V9 w.heap.size _ (([x0, x1, x2, x3, x4, x5, x6, x7] : List UInt8).map byteV).toArray _ _ HZV.out
      refine bodyPost_ret (v := .agg (([x0, x1, x2, x3, x4, x5, x6, x7] : List UInt8).map byteV).toArray) (results_cell_row rfl _ _ w.heap.size 23 _ (0, 0) _ rfl hrb Tryz.underlying23 rfl hi8) rfl ⟨by rw [HD.out]; rfl, ?_⟩
      exact ((HW.out.2.trans (hb2.mono HW.out.2.size)).trans (hbV.mono (Nat.le_trans HW.out.2.size hb2.size))).trans ⟨rfl, rfl, rfl, by simp, fun k hk => setRow_other V9 w.heap.size k _ (by omega)⟩
end W
end Go.Proofs.YthogembgndkmpaaGreatDoor

/- onetime: lock, Digest, bit; tree: above, Leaf. -/
namespace Go.Proofs.YthogembgndkmpaaGreatDoor
open Go.RowKit
namespace W
theorem ShortN (tag : UInt8) (n : Int) (hn : n = (tag.toNat : Int)) (A : Option Addr) (m cap : Nat) (bs : List Blob) (hm : m = bs.length) (ks : List UInt32) (w : World) (hk : ArrU w 1 100 ks) (hkl : ks.length = 64) (hc : Cs w A (bs.map Blob.v)) (hb : Blobs w bs) (hn : bs.length ≤ 1000) (hl : (parts (bs.map (·.l))).length ≤ 900000) :
    Calls Tryz.prog 84 #[.int .u8 n, .slice A m cap] w fun e w' => e = .returned (.agg ((short ks tag (bs.map (·.l))).map byteV).toArray) ∧ Below w.heap.size w w' := by
  subst hm
  rename_i h
  subst h
  exact Short tag A cap bs ks w hk hkl hc hb hn hl
theorem hi8 : (Tryz.prog.info? 23).map (·.size) = some 8 := by kernel_rfl
/-- eight bytes, as cells -/
structure Row8 (c : Array Value) (l : List UInt8) : Prop where
  eq : c = (l.map byteV).toArray
  len : l.length = 8
theorem Row8.size {c : Array Value} {l : List UInt8} (h : Row8 c l) : c.size = 8 := by rw [h.eq]; simp [h.len]
theorem Row8.all {c : Array Value} {l : List UInt8} (h : Row8 c l) : c.all (·.oneCell') = true := by rw [h.eq]; simp [byteV, Value.oneCell']
theorem Row8.info {c : Array Value} {l : List UInt8} (h : Row8 c l) : (Tryz.prog.info? 23).map (·.size) = some c.size := by rw [h.size]; exact hi8
theorem Row8.old {c : Array Value} {l : List UInt8} (h : Row8 c l) : z8.size = c.size := by rw [h.size]; rfl
def z1 (A : Option Addr) (n c : Nat) : Array Value := #[.slice A n c]
set_option maxRecDepth 100000 in
set_option maxHeartbeats 20000000 in
theorem Lock (A : Option Addr) (cap : Nat) (l : List UInt8) (ks : List UInt32) (w : World) (hk : ArrU w 1 100 ks) (hkl : ks.length = 64) (hc : Cs w A (l.map byteV)) (hl : l.length ≤ 100000) :
    Calls Tryz.prog 82 #[.slice A l.length cap] w fun e w' => e = .returned (.agg ((short ks 2 [l]).map byteV).toArray) ∧ Below w.heap.size w w' := by
  have HC := Lib.hid (And.intro hc hk)
  have hk1 := hk.lt
  have hll := lp_len l
  clear hc hk
  go_enter Tryz.func82, Tryz.ntmps82
  go_wp2_with fail
  generalize hW1 : World.alloc _ _ = W1
  have hz1 : W1.heap[w.heap.size]? = some (.cells z8 23 (0, 0)) := by
    rw [← hW1]
    exact heap_alloc2_old w _ _
  have hs1 : W1.heap[w.heap.size + 1]? = some (.cells #[.slice A l.length cap] 28 (0, 0)) := by
    rw [← hW1]
    exact heap_alloc2_new w _ _
  have hb1 : Below w.heap.size w W1 := by
    rw [← hW1]
    exact ((Below.refl _ _).alloc (Nat.le_refl _) _).alloc (by simp) _
  clear hW1
  have hcs : Cs W1 (some ⟨w.heap.size + 1, 0, none⟩) ([(⟨A, l, cap⟩ : Blob)].map Blob.v) := by
    intro i u hu
    refine ⟨_, _, rfl, lt_block hs1, ?_⟩
    rw [Nat.zero_add, cell_of_row _ _ _ _ _ _ hs1]
    simpa [Blob.v] using hu
  refine (ShortN 2 2 rfl _ 1 1 [(⟨A, l, cap⟩ : Blob)] rfl ks W1 (HC.out.2.keep (hb1.block 1 hk1)) hkl hcs ?_ (by simp) ?_).mono ?_
  · intro b hb
    obtain rfl : b = ⟨A, l, cap⟩ := by simpa using hb
    exact Cs.below HC.out.1 hb1
  · simp [parts]; omega
  rintro e w2 ⟨rfl, hb2⟩
  have R : Row8 ((short ks 2 ([(⟨A, l, cap⟩ : Blob)].map (·.l))).map byteV).toArray (short ks 2 [l]) := ⟨rfl, short_len _ _ _⟩
  generalize ((short ks 2 ([(⟨A, l, cap⟩ : Blob)].map (·.l))).map byteV).toArray = c at *
  have hz2 := (hb2.block _ (lt_block hz1)).trans hz1
  have HZ := Lib.hid hz2
  have hbw := hb1.trans (hb2.mono hb1.size)
  clear hz2
  go_wp2_with (first
    | (refine wpList_store_row rfl 23 (.tmp 2) (.tmp 5) rfl w.heap.size c rfl rfl 23 z8 HZ.out R.info R.old R.all ?_))
  have hrb := setRow_heap w2 w.heap.size _ c _ _ HZ.out
  refine bodyPost_ret (v := .agg c) (results_cell_row rfl _ _ w.heap.size 23 c (0, 0) _ rfl hrb Tryz.underlying23 rfl R.info) rfl ⟨by rw [R.eq], ?_⟩
  exact hbw.trans ⟨rfl, rfl, rfl, by simp, fun k hk => setRow_other w2 w.heap.size k _ (by omega)⟩
end W
end Go.Proofs.YthogembgndkmpaaGreatDoor

/- onetime: Digest, bit. -/
namespace Go.Proofs.YthogembgndkmpaaGreatDoor
open Go.RowKit
namespace W
/-- the first four bytes of a sum, as a word -/
def dig (ks : List UInt32) (b : List UInt8) : UInt32 := word (sha ks b) 0
theorem word4 (x0 x1 x2 x3 : UInt8) : bits .or .u32 (bits .or .u32 (bits .or .u32 ((x0.toNat : Int) % 4294967296 * 16777216 % 4294967296) ((x1.toNat : Int) % 4294967296 * 65536 % 4294967296)) ((x2.toNat : Int) % 4294967296 * 256 % 4294967296)) ((x3.toNat : Int) % 4294967296) = ((word [x0, x1, x2, x3] 0).toNat : Int) := by
  have h := word_eq [x0, x1, x2, x3] 0 (by simp)
  simp only [IntKind.wrap_u32'] at h
  exact h
theorem word_first (l : List UInt8) (h : 3 < l.length) : word l 0 = word [l[0], l[1], l[2], l[3]] 0 := by
  unfold word
  simp [List.getD, show 0 < l.length by omega, show 1 < l.length by omega, show 2 < l.length by omega, h]
set_option maxRecDepth 100000 in
set_option maxHeartbeats 20000000 in
theorem Digest (A : Option Addr) (cap : Nat) (ks : List UInt32) (b : List UInt8) (w : World) (hk : ArrU w 1 100 ks) (hkl : ks.length = 64) (hb : Cs w A (b.map byteV)) (hbl : b.length ≤ 1000000) (hc1 : b.length ≤ cap) (hc2 : cap ≤ maxLen) (hn : A = none → cap = 0) :
    Calls Tryz.prog 80 #[.slice A b.length cap] w fun e w' => e = .returned (.int .u32 ((dig ks b).toNat : Int)) ∧ Below w.heap.size w w' := by
  have HS := Lib.hid (Sum A cap ks b w hk hkl hb hbl hc1 hc2 hn)
  have hsl := sha_len ks b
  have HD : Hid (dig ks b = word (sha ks b) 0) := Lib.hid rfl
  clear hb hk
  go_enter Tryz.func80, Tryz.ntmps80
  go_wp2_with fail
  refine HS.out.mono ?_
  rintro e w2 ⟨rfl, hb2⟩
  have hi32 : (Tryz.prog.info? 78).map (·.size) = some (((sha ks b).map byteV).toArray.size) := by
    have : (Tryz.prog.info? 78).map (·.size) = some 32 := by kernel_rfl
    rw [this]
    simp [hsl]
  have hall : (((sha ks b).map byteV).toArray).all (·.oneCell') = true := by simp [byteV, Value.oneCell']
  have hz : (w2.alloc (.cells z32 78)).heap[w2.heap.size]? = some (.cells z32 78 (0, 0)) := heap_alloc_new w2 _
  have hbz : Below w2.heap.size w2 (w2.alloc (.cells z32 78)) := (Below.refl _ _).alloc (Nat.le_refl _) _
  have hrb : ArrB ((w2.alloc (.cells z32 78)).setRow w2.heap.size ((sha ks b).map byteV).toArray) w2.heap.size 78 (sha ks b) := setRow_heap (w2.alloc (.cells z32 78)) w2.heap.size _ ((sha ks b).map byteV).toArray _ _ hz
  have hbr : Below w2.heap.size w2 ((w2.alloc (.cells z32 78)).setRow w2.heap.size ((sha ks b).map byteV).toArray) := hbz.trans ⟨rfl, rfl, rfl, by simp, fun k hk => setRow_other (w2.alloc (.cells z32 78)) w2.heap.size k _ (by omega)⟩
  have hcz : z32.size = ((sha ks b).map byteV).toArray.size := by simp [z32, hsl]
  generalize sha ks b = SH at *
  generalize hcs : (SH.map byteV).toArray = cs at *
  have HX := Lib.hid (And.intro hz (And.intro hi32 (And.intro hcz (And.intro hall (And.intro hbr hrb)))))
  clear hz hbz hrb hbr hi32 hall hcz hcs
  go_wp2_with (first
    | (refine wpList_store_row rfl 78 (.tmp 3) (.tmp 5) rfl w2.heap.size cs rfl (by kernel_rfl) 78 z32 HX.out.1 HX.out.2.1 HX.out.2.2.1 HX.out.2.2.2.1 ?_; change wpList _ _ _ _ _ ((w2.alloc (.cells z32 78)).setRow w2.heap.size cs); have hbV := HX.out.2.2.2.2.1; have hrV := HX.out.2.2.2.2.2; generalize (w2.alloc (.cells z32 78)).setRow w2.heap.size cs = V9 at *; have c0 := hrV.cell 0 (by omega); have c1 := hrV.cell 1 (by omega); have c2 := hrV.cell 2 (by omega); have c3 := hrV.cell 3 (by omega)))
  go_ret
  refine ⟨ret_int ?_, hb2.trans (hbV.mono hb2.size)⟩
  rw [HD.out, word_first SH (by omega), ← word4]
/-- a bit of a word, the highest first -/
def bitN (d : UInt32) (i : Nat) : Nat := d.toNat / 2 ^ (31 - i) % 2
theorem Bit (d : UInt32) (i : Nat) (hi : i < 32) (w : World) : Calls Tryz.prog 81 #[.int .u32 (d.toNat : Int), .int .i64 (i : Int)] w fun e w' => e = .returned (.int .u8 (bitN d i : Int)) ∧ w' = w := by
  have h0 : (0 : Int) ≤ 31 - (i : Int) := by omega
  have hd := d.toNat_lt
  go_enter Tryz.func81, Tryz.ntmps81
  go_wp2_with fail
  go_ret
  have e : bits .and .u32 ((d.toNat : Int) / 2 ^ (31 - i)) 1 % 256 = ((bitN d i : Nat) : Int) := by
    have h1 := w_and (d >>> UInt32.ofNat (31 - i)) 1
    rw [show (((1 : UInt32).toNat : Nat) : Int) = 1 from rfl] at h1
    rw [w_shr d (31 - i) (by omega), h1, UInt32.toNat_and, show (1 : UInt32).toNat = 1 from rfl, Nat.and_one_is_mod]
    have h2 : (d >>> UInt32.ofNat (31 - i)).toNat = d.toNat / 2 ^ (31 - i) := by
      have := w_shr d (31 - i) (by omega)
      have e2 : ((d.toNat : Int) / 2 ^ (31 - i)) = ((d.toNat / 2 ^ (31 - i) : Nat) : Int) := by push_cast; rfl
      rw [e2] at this
      exact_mod_cast this.symm
    rw [h2]
    unfold bitN
    omega
  exact ⟨ret_int e, rfl⟩
end W
end Go.Proofs.YthogembgndkmpaaGreatDoor
