/-
  Contracts of package rdata: a reader's numbers, names, texts, what is left.
-/
import Derived.Test.YtkeimgamjnpcbaaGreatReader
import Derived.Laws.BitsAllLaws
import Derived.Test.YtkeimgamjnpcbaaGreatRel2
namespace Go.Proofs.YtkeimgamjnpcbaaGreat
open Go.RowKit
set_option linter.unusedVariables false
namespace Nm
theorem numOf_lt : ∀ (l : Lab) (a : Nat), a < 4294967296 → numOf l a < 4294967296
  | [], a, h => h
  | c :: r, a, _ => numOf_lt r _ (Nat.mod_lt _ (by omega))
theorem numOf_snoc : ∀ (l : Lab) (c : UInt8) (a : Nat), numOf (l ++ [c]) a = (numOf l a * 256 + c.toNat) % 4294967296
  | [], _, _ => rfl
  | d :: l, c, a => numOf_snoc l c _
theorem or8 (N x : Nat) (hx : x < 256) : bits BinOp.or IntKind.u32 ((N : Int) * 256 % 4294967296) (x : Int) = (((N * 256 + x) % 4294967296 : Nat) : Int) := by
  have e : (N : Int) * 256 % 4294967296 = ((2 ^ 8 * (N % 16777216) : Nat) : Int) := by omega
  rw [e, u32_or_nat _ _ (by omega) (by omega), ← Nat.two_pow_add_eq_or_of_lt (by omega : x < 2 ^ 8)]
  omega
def NumR (p : Lab) (w : World) (o i : Value) (wr : World) : Prop := ∃ k : Nat, k ≤ p.length ∧ i = .int .i64 k ∧ o = .int .u32 (numOf (p.take k) 0 : Nat) ∧ w = wr
theorem piece_cs {w : World} {A : Option Addr} {l : Lab} {cap k n : Nat} (h : Cs w A (l.map byteV)) (hcap : l.length ≤ cap) : Cs w (piece A cap k) (((l.drop k).take n).map byteV) := by
  have := (h.drop' k cap (by simpa using hcap)).take' n
  rw [← List.map_drop, ← List.map_take] at this
  exact this
theorem piece_len {l : Lab} {k n : Nat} (hn : k + n ≤ l.length) : ((l.drop k).take n).length = n := by rw [List.length_take, List.length_drop]; omega
set_option maxRecDepth 100000 in
set_option maxHeartbeats 1000000 in
theorem num_yes (r : Nat) (A : Option Addr) (l : Lab) (cap k n : Nat) (w : World) (h : Rdr w r A l cap k) (hn : k + n ≤ l.length) :
    Calls Tryz.prog 137 #[.pointer (some ⟨r, 0, none⟩), .int .i64 n] w fun e w' =>
      e = .returned (.int .u32 (numOf ((l.drop k).take n) 0 : Nat)) ∧ Rdr w' r A l cap (k + n) ∧ Kept (fun b => b = r) w w' := by
  have hlen := h.len
  go_enter Tryz.func137, Tryz.ntmps137
  go_wp2_with fail
  refine (take_yes r A l cap k n w h hn).mono ?_
  rintro e w1 ⟨rfl, hr1, hk1⟩
  have hcs := piece_cs (k := k) (n := n) hr1.cs h.cap1
  have hpl := piece_len hn
  generalize hpp : (l.drop k).take n = p at *
  have hpe := Lib.hid hpp
  clear hpp
  generalize piece A cap k = B at *
  have HR := Lib.hid hr1
  clear hr1
  obtain rfl : p.length = n := hpl
  go_wp2_with fail
  go_loopw [5, 12] (NumR p w1) (fun _ i _ => p.length - (intOf i).toNat)
  case atStart => exact ⟨0, Nat.zero_le _, rfl, rfl, rfl⟩
  case round =>
    obtain ⟨j, hj, rfl, rfl, rfl⟩ := hrel
    have hlt0 := numOf_lt (p.take j) 0 (by omega)
    by_cases hlt : j < p.length
    · obtain ⟨bk, off, rfl, hbl, hc0⟩ := Cs.byte hcs hlt
      have HN : Hid (numOf (p.take (j + 1)) 0 = (numOf (p.take j) 0 * 256 + p[j].toNat) % 4294967296) := Lib.hid (by rw [List.take_succ_eq_append_getElem hlt, numOf_snoc])
      have hcc : p[j].toNat < 256 := UInt8.toNat_lt _
      generalize numOf (p.take j) 0 = a at *
      generalize p[j].toNat = c at *
      go_wp2_with fail
      exact ⟨⟨j + 1, by omega, by go_num, by rw [HN.out, or8 a c hcc], rfl⟩, by simp [intOf]; omega⟩
    · have hjl : j = p.length := by omega
      rw [hjl, List.take_length] at hlt0 ⊢
      clear hjl
      go_wp2_with fail
      go_ret
      exact ⟨by rw [hpe.out]; rfl, HR.out, hk1⟩
theorem num_no (r : Nat) (A : Option Addr) (l : Lab) (cap k n : Nat) (w : World) (h : Rdr w r A l cap k) (hn : ¬ k + n ≤ l.length) (hn2 : n ≤ 100000) :
    Calls Tryz.prog 137 #[.pointer (some ⟨r, 0, none⟩), .int .i64 n] w fun e w' => e = .panicked mustP ∧ Kept (fun b => b = r) w w' := by
  go_enter Tryz.func137, Tryz.ntmps137
  go_wp2_with fail
  refine (take_no r A l cap k n w h hn hn2).mono ?_
  rintro e w1 ⟨rfl, hk1⟩
  go_wp2_with fail
  exact ⟨rfl, rfl, hk1⟩
set_option maxRecDepth 100000 in
set_option maxHeartbeats 20000000 in
theorem name (r : Nat) (A : Option Addr) (l : Lab) (cap k : Nat) (w : World) (h : Rdr w r A l cap k) :
    Calls Tryz.prog 136 #[.pointer (some ⟨r, 0, none⟩)] w fun e w' => Kept (fun b => b = r) w w' ∧
      ((∃ n j v, openO (l.drop k) = some (n, j) ∧ e = .returned v ∧ Rdr w' r A l cap (k + j) ∧ w'.ownsRow w.heap.size 9 1 v n.length (n.map strV)) ∨
        (openO (l.drop k) = none ∧ e = .panicked mustP)) := by
  have c0 := h.c0
  have c1 := h.c1
  have f1 := h.f1
  have hlen := h.len
  have hcap := h.cap1
  have hcap2 := h.cap2
  unfold maxLen at hcap2
  have hk := h.le
  have hcs : Cs w (piece A cap k) ((l.drop k).map byteV) := by
    have := h.cs.drop' k cap (by simpa using hcap)
    rw [← List.map_drop] at this; exact this
  have hlk : (l.drop k).length = l.length - k := List.length_drop
  have H := Lib.hid h
  clear h
  have hcase : (openO (l.drop k) = some (openN (l.drop k), openK (l.drop k)) ∧ openE (l.drop k) = 0 ∧ k + openK (l.drop k) ≤ l.length) ∨ (openO (l.drop k) = none ∧ ¬ openE (l.drop k) = 0) := by
    cases hO : openO (l.drop k) with
    | none => exact .inr ⟨rfl, (openO_none hO).1⟩
    | some p =>
      obtain ⟨n, j⟩ := p
      obtain ⟨_, _, g1, g2, g3⟩ := openO_some hO
      have := (openO_le hO).1
      exact .inl ⟨by rw [g2, g3], g1, by rw [g3]; omega⟩
  have HC := Lib.hid hcase
  have hOp : ∀ W, Ext w W → Calls Tryz.prog 184 #[.slice (piece A cap k) (l.length - k) (cap - k)] W fun e w' => Below W.heap.size W w' ∧
      ∃ v, e = .returned (.tuple #[v, .int .i64 (openK (l.drop k)), .int .i64 (openE (l.drop k))]) ∧ w'.ownsRow W.heap.size 9 1 v (openN (l.drop k)).length ((openN (l.drop k)).map strV) := fun W hE => by
    have := Open (piece A cap k) (l.drop k) (cap - k) W (hcs.below hE) (by omega) (by omega) (by unfold maxLen; omega)
    rw [hlk] at this
    exact this
  clear hcase
  generalize openN (l.drop k) = N at *
  generalize openK (l.drop k) = K at *
  generalize openE (l.drop k) = E at *
  have HOp := Lib.hid hOp
  clear hOp hcs hlk
  go_enter Tryz.func136, Tryz.ntmps136
  go_wp2_with fail
  refine wp_region_mono mixed (by kernel_rfl) [.is (.pointer (some ⟨r, 0, none⟩)), .is (.pointer (some ⟨r, 0, none⟩)), .is (.pointer (some ⟨r, 0, none⟩)), .is (.slice A l.length cap), .is (.pointer (some ⟨r, 0, none⟩)), .is (.pointer (some ⟨r, 0, none⟩)), .is (.pointer (some ⟨r, 1, none⟩)), .is (.int .i64 k),
    .is (.slice (piece A cap k) (l.length - k) (cap - k)), .tup3 (.own w.heap.size 9 1 N.length (N.map strV)) (.is (.int .i64 K)) (.is (.int .i64 E)),
    .tup3 (.own w.heap.size 9 1 N.length (N.map strV)) (.is (.int .i64 K)) (.is (.int .i64 E)),
    .own w.heap.size 9 1 N.length (N.map strV), .is (.int .i64 K), .is (.int .i64 E),
    .own w.heap.size 9 1 N.length (N.map strV), .is (.int .i64 K), .is (.int .i64 E)] rfl ?_ ?_
  · intro i o hio vals W hE haf
    have hRW := H.out.ext hE
    have e0 := hRW.c0
    have e1 := hRW.c1
    rcases i with _ | _ | _ | _ | _ | _ | _ | _ | _ | _ | _ | _ | _ | _ | _ | _ | _ | i
    all_goals first
      | (exfalso; simp at hio; done)
      | (simp at hio; subst hio; simp [bindD, rdB, Region.binds, factAt] at haf; simp [opYield_def, yieldUpon, relAct, dstAt, Act.put, Region.wanted, go_sem, haf, e0, e1, Ext.refl, factAt, hk, piece]; done)
      | skip
    all_goals
      simp at hio
      subst hio
      simp [bindD, rdB, Region.binds, factAt] at haf
    · simp [opYield_def, yieldUpon, relAct, dstAt, Act.put, Region.wanted, go_sem, haf, factAt]
      refine (HOp.out W hE).mono fun e W' h5 => ?_
      obtain ⟨hb, v, he, ho⟩ := h5
      exact ⟨_, he, hb, Fact.tup3_mk (own_base ho hE.size) rfl rfl⟩
    all_goals
      simp [tup3_p] at haf
      obtain ⟨a, b, c, q1, q2, q3, q4⟩ := haf
      simp [opYield_def, yieldUpon, relAct, dstAt, Act.put, Region.wanted, go_sem, factAt, Ext.refl, q1, q2, q3, q4]
  · intro vals W hE hF
    simp [facts] at hF
    have hown : W.ownsRow w.heap.size 9 1 (vals 14) N.length (N.map strV) := by simp [hF]
    have hF0 := Lib.hid hF
    simp [relAct, dstAt, Act.put, hF]
    clear hF
    generalize vals 14 = v at *
    have hRW := H.out.ext hE
    have e1 := hRW.c1
    have e2 := hRW.f1
    rcases HC.out with ⟨hO, rfl, hle⟩ | ⟨hO, hne⟩
    · have HO := Lib.hid hO
      have hmv := hRW.move (k' := k + K) hle
      have HM := Lib.hid hmv
      have hbl := hRW.hr
      have hownr : ∀ W', Kept (fun b => b = r) W W' → W'.ownsRow w.heap.size 9 1 v N.length (N.map strV) := fun W' hk => Kept.row hown hk (fun b hb => by have := (hown.lt b hb).1; have := H.out.hr; omega)
      have HWr := Lib.hid hownr
      clear hO hmv hownr hRW
      go_wp2_with fail
      refine (must_yes _).mono ?_
      rintro e w' ⟨rfl, rfl⟩
      go_wp2_with fail
      rw [show ((k : Int) + K) = ((k + K : Nat) : Int) from by omega]
      have hk9 : Kept (fun b => b = r) W (W.setCell ⟨r, 1, none⟩ (.int .i64 ((k + K : Nat) : Int))) := Kept.setCell (S := fun b => b = r) (Kept.refl _ _) (p := ⟨r, 1, none⟩) (fun _ => rfl) _
      go_ret
      exact ⟨((Kept.of_ext hE).mono (fun _ _ h => h.elim)).trans hk9, .inl ⟨N, K, v, HO.out, rfl, HM.out, HWr.out _ hk9⟩⟩
    · have hneb : (E == 0) = false := by simpa using hne
      clear hRW
      go_wp2_with fail
      refine (must_no _).mono ?_
      rintro e w' ⟨rfl, rfl⟩
      go_wp2_with fail
      exact ⟨rfl, (Kept.of_ext hE).mono (fun _ _ h => h.elim), .inr ⟨hO, rfl⟩⟩
theorem numOf_one {l : Lab} {k : Nat} (h : k < l.length) : numOf ((l.drop k).take 1) 0 = l[k].toNat := by
  rw [List.drop_eq_getElem_cons h, List.take_succ_cons, List.take_zero]
  have := UInt8.toNat_lt l[k]
  show (0 * 256 + l[k].toNat) % 4294967296 = _
  omega
set_option maxRecDepth 100000 in
set_option maxHeartbeats 1000000 in
theorem text_yes (r : Nat) (A : Option Addr) (l : Lab) (cap k : Nat) (w : World) (h : Rdr w r A l cap k) (hk : k < l.length) (hn : k + 1 + l[k].toNat ≤ l.length) :
    Calls Tryz.prog 143 #[.pointer (some ⟨r, 0, none⟩)] w fun e w' => Kept (fun b => b = r) w w' ∧ Rdr w' r A l cap (k + 1 + l[k].toNat) ∧ ∃ v, e = .returned v ∧ w'.ownsRow w.heap.size 5 1 v l[k].toNat (((l.drop (k + 1)).take l[k].toNat).map byteV) := by
  have hlen := h.len
  have HN := Lib.hid (numOf_one hk)
  go_enter Tryz.func143, Tryz.ntmps143
  go_wp2_with fail
  refine (num_yes r A l cap k 1 w h (by omega)).mono ?_
  rintro e w1 ⟨rfl, hr1, hk1⟩
  rw [HN.out]
  have hcc : l[k].toNat < 256 := UInt8.toNat_lt _
  have hcap := h.cap1
  have hpl := piece_len (k := k + 1) (n := l[k].toNat) hn
  generalize hq0 : l[k].toNat = c at *
  have HQ := Lib.hid hq0
  clear hq0
  go_wp2_with fail
  refine (take_yes r A l cap (k + 1) c w1 hr1 hn).mono ?_
  rintro e w2 ⟨rfl, hr2, hk2⟩
  have hcs := piece_cs (k := k + 1) (n := c) hr2.cs hcap
  generalize hq1 : (l.drop (k + 1)).take c = p at *
  have HQ1 := Lib.hid hq1
  clear hq1
  generalize piece A cap (k + 1) = B at *
  obtain rfl : p.length = c := hpl
  have HR := Lib.hid hr2
  clear hr2 hr1 h
  go_wp2_with fail
  refine (CloneB B p (cap - (k + 1)) w2 hcs (by omega)).mono ?_
  rintro e w3 ⟨v, rfl, hown, hb3⟩
  go_wp2_with fail
  go_ret
  rw [HQ.out, HQ1.out]
  exact ⟨(hk1.trans hk2).then (Kept.of_ext hb3) (fun _ _ h => h.elim), HR.out.ext hb3, v, rfl, own_base hown ((hk1.trans hk2).size)⟩
set_option maxRecDepth 100000 in
set_option maxHeartbeats 1000000 in
theorem text_no (r : Nat) (A : Option Addr) (l : Lab) (cap k : Nat) (w : World) (h : Rdr w r A l cap k) (hn : ¬ (∃ hk : k < l.length, k + 1 + l[k].toNat ≤ l.length)) :
    Calls Tryz.prog 143 #[.pointer (some ⟨r, 0, none⟩)] w fun e w' => Kept (fun b => b = r) w w' ∧ e = .panicked mustP := by
  have hlen := h.len
  have hle := h.le
  go_enter Tryz.func143, Tryz.ntmps143
  go_wp2_with fail
  by_cases hk : k < l.length
  · have hn2 : ¬ k + 1 + l[k].toNat ≤ l.length := fun h => hn ⟨hk, h⟩
    have HN := Lib.hid (numOf_one hk)
    clear hn
    refine (num_yes r A l cap k 1 w h (by omega)).mono ?_
    rintro e w1 ⟨rfl, hr1, hk1⟩
    rw [HN.out]
    have hcc : l[k].toNat < 256 := UInt8.toNat_lt _
    generalize l[k].toNat = c at *
    go_wp2_with fail
    refine (take_no r A l cap (k + 1) c w1 hr1 hn2 (by omega)).mono ?_
    rintro e w2 ⟨rfl, hk2⟩
    go_wp2_with fail
    exact ⟨rfl, hk1.trans hk2, rfl⟩
  · clear hn
    refine (num_no r A l cap k 1 w h (by omega) (by omega)).mono ?_
    rintro e w1 ⟨rfl, hk1⟩
    go_wp2_with fail
    exact ⟨rfl, hk1, rfl⟩
set_option maxRecDepth 100000 in
set_option maxHeartbeats 1000000 in
theorem rest (r : Nat) (A : Option Addr) (l : Lab) (cap k : Nat) (w : World) (h : Rdr w r A l cap k) :
    Calls Tryz.prog 140 #[.pointer (some ⟨r, 0, none⟩)] w fun e w' => Kept (fun b => b = r) w w' ∧ Rdr w' r A l cap l.length ∧ ∃ v, e = .returned v ∧ w'.ownsRow w.heap.size 5 1 v (l.length - k) ((l.drop k).map byteV) := by
  have c0 := h.c0
  have c1 := h.c1
  have hlen := h.len
  have hk := h.le
  have hcap := h.cap1
  have hwr : IntKind.i64.wrap ((l.length : Int) - k) = ((l.length - k : Nat) : Int) := by rw [IntWalk.i64_in _ (by omega)]; omega
  have hT := take_yes r A l cap k (l.length - k) w.drew h.drew (by omega)
  have HT := Lib.hid hT
  have HP : Hid ((l.drop k).take (l.length - k) = l.drop k ∧ (l.drop k).length = l.length - k ∧ k + (l.length - k) = l.length) := Lib.hid ⟨List.take_of_length_le (by rw [List.length_drop]; omega), List.length_drop, by omega⟩
  have H := Lib.hid h
  clear hT h
  go_enter Tryz.func140, Tryz.ntmps140
  go_wp2_with fail
  go_still_tail 11, mixed
  clear c0 c1 hwr
  go_wp2_with fail
  refine HT.out.mono ?_
  rintro e w1 ⟨rfl, hr1, hk1⟩
  rw [HP.out.2.2] at hr1
  have hcs := piece_cs (k := k) (n := l.length - k) hr1.cs hcap
  rw [HP.out.1] at hcs
  have hC := CloneB (piece A cap k) (l.drop k) (cap - k) w1 hcs (by rw [HP.out.2.1]; omega)
  rw [HP.out.2.1] at hC
  have HR := Lib.hid hr1
  clear hr1 hcs
  generalize piece A cap k = B at *
  go_wp2_with fail
  refine hC.mono ?_
  rintro e w3 ⟨v, rfl, hown, hb3⟩
  go_wp2_with fail
  go_ret
  exact ⟨(Kept.refl _ _).drew.trans (hk1.then (Kept.of_ext hb3) (fun _ _ h => h.elim)), HR.out.ext hb3, v, rfl, own_base hown hk1.size⟩
end Nm
end Go.Proofs.YtkeimgamjnpcbaaGreat
