/-
  Texts merged by a program (Types, Rel3, Rel4, Pdq).
-/
import Derived.RangeFuncBox
import Derived.RangeFuncLeaves
import Derived.Shelf.Abstract
import Derived.WalkKit
import Derived.OwnWalkIn
import Derived.TacticsInMore
import Derived.LoopNIn
import Derived.LoopIn
import Derived.RegionIn
import Derived.Maps.AppendAt
import Derived.Sort.MapsRangeIn
import Derived.RangeFuncSeq
import Derived.Test.YtkeimgamjnpcbaaGreatCk1
import Derived.Test.YtkeimgamjnpcbaaGreatCk5
import Derived.Test.YtkeimgamjnpcbaaGreatCk7
set_option linter.unusedSimpArgs false
set_option linter.unusedVariables false
/- Contracts of package zone: Types, of one type (maps.Keys, slices.Sorted at a map of one entry). -/
namespace Go.Proofs.YtkeimgamjnpcbaaGreat
open Go.RowKit Go.Maps Go.Sort Go.Shelf Go.Proofs
set_option linter.unusedVariables false
attribute [local go_sem] Oper.semAt_some
namespace Nm
theorem keyT_inv (key : Value) (kl : Lit) (h : keyOf Tryz.prog 24 key = some kl) : ∃ x : Int, key = .int .u16 x := by
  obtain ⟨x, h, _⟩ := Maps.keyOf_int_inv Tryz.underlying24 h
  exact ⟨x, h⟩
theorem info_u16 : (Tryz.prog.info? 24).map (fun i => (i.zero, i.size, i.bytes)) = some (some (.int .u16 0), 1, 2) := by kernel_rfl
set_option maxRecDepth 100000 in
set_option maxHeartbeats 1000000 in
theorem keys1T_in (F : Fence) (n : Nat) (hf : F.fn 127) (hro : F.round = none) (hn : 1 ≤ n) (l Bm b nn s : Nat) (t : Int) (J Jx : List Int → World → Prop)
    (hY : ∀ pre x W, J pre W → pre.length < 1 → YieldAt F (n - 1) Tryz.prog l #[.int .u16 x] W fun e W' => (e = .returned (.bool true) ∧ J (pre ++ [x]) W' ∧ KeepsWalks W W') ∨ (e = .returned (.bool false) ∧ Jx (pre ++ [x]) W'))
    (W : World) (hJ : AbidesFrom W.heap.size J) (hm : W.cell? ⟨Bm, 0, none⟩ = some (.map (some b))) (hown : W.ownsMap Tryz.prog 24 ptrR b nn (.map [(.int .u16 t, .lit (.int .i64 (s : Int)))])) (h0 : J [] W) :
    CallsIn F n Tryz.prog 127 #[.func (.yield l) #[] #[], .pointer (some ⟨Bm, 0, none⟩)] W fun e W' => (∃ v, e = .returned v) ∧ ((∃ ss : List Int, ss = [t] ∧ J ss W') ∨ (∃ pre, pre = [t] ∧ Jx pre W')) := by
  refine callsIn_of_wp Tryz.func127 rfl hf ?_ hro
  simp only [Tryz.ntmps127, List.size_toArray, List.length_cons, List.length_nil, Nat.reduceAdd, Nat.reduceSub, Array.replicate_succ, Array.replicate_zero, List.push_toArray, List.append_toArray, List.nil_append, List.cons_append]
  gi_wp2_with (first
    | (gi_at_range; refine wpListIn_range_own _ rfl _ 113 rfl 24 104 keyT Tryz.underlying113 ptrR b nn _ rfl hown ?_; intro w0 hrg0 hg0 hs0)
    | gi_in)
  go_frame
  gi_loopw [3] (fun _ wr => ∃ (left : Lit → Bool) (cnt : Nat) (ss : List Int), wr.ranges Tryz.prog 24 ptrR b W.heap.size nn (.map [(.int .u16 t, .lit (.int .i64 (s : Int)))]) left cnt ∧ ((cnt = 1 ∧ left = Maps.has (DataW.map [(.int .u16 t, DataW.lit (.int .i64 (s : Int)))] : DataW Unit) ∧ ss = []) ∨ (cnt = 0 ∧ ss = [t])) ∧ J ss wr)
    (fun _ wr => wr.rangeLeft b W.heap.size)
  case atStart =>
    exact ⟨_, _, [], hrg0, .inl ⟨rfl, rfl, rfl⟩, hJ [] W w0 none h0 hg0 (fun r e => by cases e)⟩
  case round =>
    obtain ⟨left, cnt, ss, hrg, hcs, hJs⟩ := hrel
    gi_wp2_with (first
      | (gi_at_next; refine wpListIn_next_ranges _ rfl _ rfl 24 keyT ptrR (fun x : Int => Value.int .u16 x) ptrV keyT_inv ptrV_inv b W.heap.size nn _ _ _ rfl hrg ?_ ?_)
      | gi_in)
    · intro hc0 hl0
      gi_wp2
      go_end0
      rcases hcs with ⟨h1, _⟩ | ⟨_, h2⟩
      · omega
      · exact ⟨⟨_, rfl⟩, .inl ⟨ss, h2, hJs⟩⟩
    · intro x c kl yd yp w2 cnt2 hkey hlk hv hat hrg2 hlt hg2 hs2 hen
      rcases hcs with ⟨h1, h2, h3⟩ | ⟨h1, _⟩
      · subst h2 h3
        obtain ⟨rfl, rfl⟩ := one_elem (y := (yd, yp)) hlk hv hat (key_int _ _)
        obtain ⟨x', ex, e2, _⟩ := Maps.keyOf_int_inv Tryz.underlying24 hkey
        have hxt : x = t := by
          cases ex
          injection e2 with _ e2
          exact e2.symm
        subst hxt
        have hJ2 : J [] w2 := hJ [] wr w2 (some W.heap.size) hJs hg2 (fun r e => by cases e; exact ⟨Nat.le_refl _, hrg.iter_walk⟩)
        obtain ⟨fn, tmps, assign, body, hy, hR⟩ := hY [] x w2 hJ2 (by simp)
        clear hs2
        gi_wp2
        refine hR.mono ?_
        rintro e W3 (⟨rfl, hJ3, hk3⟩ | ⟨rfl, hJx3⟩)
        · gi_wp2
          have hrg3 := hrg2.of_walks hk3
          go_roundw
          case rel => exact ⟨_, cnt2, [x], hrg3, .inr ⟨by omega, rfl⟩, hJ3⟩
          case measure => rw [hrg3.left_eq, hrg.left_eq]; exact hlt
        · gi_wp2
          refine bodyPost_ret (results_none rfl _ _ _) rfl ?_
          exact ⟨⟨_, rfl⟩, .inr ⟨[x], rfl, hJx3⟩⟩
      · omega
theorem KeysT (b : Nat) (w : World) : Calls Tryz.prog 90 #[.map (some b)] w fun e w' => e = .returned (.func (.func 127) #[] #[.pointer (some ⟨w.heap.size, 0, none⟩)]) ∧ w' = w.alloc (.cells #[.map (some b)] 113) := by
  go_enter Tryz.func90, Tryz.ntmps90
  go_wp2_with fail
  go_ret
  exact ⟨rfl, rfl⟩
theorem keysT_stops (F : Fence) (n : Nat) (hf : F.fn 127) (hro : F.round = none) (hn : 1 ≤ n) (Bm b nn s : Nat) (t : Int) (w : World) (hBm : Bm < w.heap.size)
    (hm : w.cell? ⟨Bm, 0, none⟩ = some (.map (some b))) (hown : w.ownsMap Tryz.prog 24 ptrR b nn (.map [(.int .u16 t, .lit (.int .i64 (s : Int)))])) :
    SeqStopsK F n Tryz.prog 127 #[.pointer (some ⟨Bm, 0, none⟩)] (fun x : Int => #[Value.int .u16 x]) KeepsWalks (fun ys => ys = [t]) (fun pre => pre = [t]) 1 w := fun l J Jx W hW hJ _ hY h0 =>
  keys1T_in F n hf hro hn l Bm b nn s t J Jx hY W hJ ((hW.cell (p := ⟨Bm, 0, none⟩) hBm).trans hm) (ownsMap_block hown (hW.block b hown.lt)) h0
set_option maxRecDepth 100000 in
set_option maxHeartbeats 2000000 in
theorem AppendSeqT (Bm b nn s : Nat) (t : Int) (w : World) (hBm : Bm < w.heap.size) (hm : w.cell? ⟨Bm, 0, none⟩ = some (.map (some b))) (hown : w.ownsMap Tryz.prog 24 ptrR b nn (.map [(.int .u16 t, .lit (.int .i64 (s : Int)))])) :
    Calls Tryz.prog 171 #[.slice none 0 0, .func (.func 127) #[] #[.pointer (some ⟨Bm, 0, none⟩)]] w fun e W' => ∃ v, e = .returned v ∧ W'.ownsRow w.heap.size 24 1 v 1 [.int .u16 t] ∧ Below w.heap.size w W' := by
  refine (callsIn_wide (n := 6)).1 ?_
  obtain ⟨i0, hi, hz0, hz1, hz2⟩ := info_parts info_u16
  refine callsIn_of_wp_marks Tryz.func171 rfl trivial ?_ rfl
  simp only [Tryz.ntmps171, List.size_toArray, List.length_cons, List.length_nil, Nat.reduceAdd, Nat.reduceSub, Array.replicate_succ, Array.replicate_zero, List.push_toArray, List.append_toArray, List.nil_append, List.cons_append]
  gi_wp2
  have bO := Boxed.new w 81 (.slice none 0 0)
  have hB0 : Below w.heap.size w (w.alloc (.cells #[.slice none 0 0] 81)) := (Below.refl _ w).alloc (Nat.le_refl _) _
  refine wpIn_rangeFunc_ownG rfl (by omega) (gf := 127) (lb := #[.pointer (some ⟨Bm, 0, none⟩)]) rfl trivial (enters_of Tryz.func127 (by kernel_rfl) rfl)
    (keysT_stops Fence.wide (6 - 1) trivial rfl (by omega) Bm b nn s t w hBm hm hown) walksK_t walksK_b hB0 (fun _ => rfl)
    (fun pre W => (∃ v, Boxed W w.heap.size 81 v ∧ W.ownsRow w.heap.size 24 1 v pre.length (pre.map (Value.int .u16)) ∧ (v = .slice none 0 0 ↔ pre = [])) ∧ Below w.heap.size w W)
    (fun _ _ _ => False)
    (OwnFrom.and (Own.from (holdsRow_own w.heap.size w.heap.size 81 24 1 (fun pre => pre.length) (fun pre => pre.map (Value.int .u16)) (fun pre v => v = .slice none 0 0 ↔ pre = [])) _) (ownFrom_below (Nat.le_refl _) (by simp)))
    (fun _ _ _ _ _ hs _ _ => hs)
    ⟨⟨_, bO, World.ownsRow_nil _ _ _ _, by simp⟩, hB0⟩
    (fun x => { tmps := #[.slice none 0 0, .func (.func 127) #[] #[.pointer (some ⟨Bm, 0, none⟩)], .pointer (some ⟨w.heap.size, 0, none⟩), undef, .slice none 0 0, .int .u16 x, .func (.func 127) #[] #[.pointer (some ⟨Bm, 0, none⟩)], .int .u16 x, undef, undef, undef, undef, undef], defers := [] }) ?assign ?body ?done ?stop
  case assign =>
    intro l x W K hK
    gi_wp2
    exact hK
  case body =>
    rintro l pre x W ⟨⟨v, hv, hrow, hnil⟩, hB⟩ hlt
    have hc := hv.cell
    gi_wp2_with (gi_at_builtin; refine wpListIn_append_own _ rfl _ _ 81 rfl w.heap.size 24 i0 (.int .u16 0) 1 2 Tryz.underlying81 hi hz0 hz1 hz2 rfl (by decide) _ _ _ rfl (hrow.alloc _) ⟨W.heap.size, 0, none⟩ 1 1 [.int .u16 x] rfl rfl (cell_one_new _ _ _) (by simp [Value.oneCell']) (by unfold maxLen; omega) (by omega) (by have := hB.size; simp; omega) ?_; intro v' w1 hown' hgrow _; obtain ⟨g', cap', rfl⟩ := ownsRow_succ hown'; obtain ⟨hv1, hv2, hr2, hk2, hb2⟩ := hv.appended (by decide) hrow hB.size (Nat.le_refl _) hown' hgrow; have hc1 := hv1.cell; have hf1 := hv1.frozen)
    exact ⟨hk2.from _, hk2.walks, ⟨_, hv2, by simpa using hr2, by simp⟩, hB.trans hb2⟩
  case done =>
    rintro D ys W hD rfl ⟨⟨v, hv, hrow, hnil⟩, hB⟩ hK
    have hc := hv.cell
    gi_wp2
    refine ⟨by simp, .inl ⟨_, _, rfl, run_takeDeferred hK, ?_⟩⟩
    exact ⟨_, results_tmp rfl _ _ _, v, rfl, ownsRow_putObj hrow _ hK rfl, hB.trans (belowK_b (w := w) (Nat.le_refl _) W D _ _ (by simp at hD; omega) hK rfl rfl)⟩
  case stop =>
    rintro D c pre W _ _ h _
    exact h.elim
end Nm
end Go.Proofs.YtkeimgamjnpcbaaGreat

/- A region that draws its order: what is said of an operation may name the values of those that it waits for (a store into what was allocated). -/
namespace Go.Proofs.YtkeimgamjnpcbaaGreat
open Go.RowKit
set_option linter.unusedVariables false
/-- the static side, wider: an operation may look at a slot that one writes which waits for it -/
def relAt2 (ops : Array Oper) (i : Nat) (o : Oper) : Bool :=
  (match o.op with | .select _ _ => false | _ => true) &&
  (o.after.all fun e => !Region.binds .any e || decide (e.on < i)) &&
  ((List.range ops.size).all fun j => match dstAt ops j with
    | none => true
    | some d => (j == i || o.dst != some d) && (!(o.looksAt ops).contains d || ((decide (j < i) && o.after.any fun e => e.on == j && Region.binds .any e) || waitsB ops j i)))
def relB2 (ops : Array Oper) : Bool := (List.range ops.size).all fun i => match ops[i]? with
  | none => true
  | some o => relAt2 ops i o
theorem waitsB_elim {ops : Array Oper} {j i : Nat} (h : waitsB ops j i = true) : ∃ o, ops[j]? = some o ∧ ∃ e ∈ o.after, e.on = i ∧ Region.binds .any e = true := by
  unfold waitsB at h
  split at h
  · cases h
  · rename_i o ho
    refine ⟨o, ho, ?_⟩
    rw [Array.any_eq_true] at h
    obtain ⟨x, hx, h9⟩ := h
    simp only [Bool.and_eq_true, beq_iff_eq] at h9
    exact ⟨_, Array.getElem_mem hx, h9.1, h9.2⟩
theorem relB2_spec {ops : Array Oper} (h : relB2 ops = true) {i : Nat} {o : Oper} (hi : ops[i]? = some o) :
    (∀ cs b, o.op ≠ .select cs b) ∧ (∀ e ∈ o.after, Region.binds .any e = true → e.on < i) ∧
    (∀ j d, dstAt ops j = some d → (j ≠ i → o.dst ≠ some d) ∧ (d ∈ o.looksAt ops → (j < i ∧ ∃ e ∈ o.after, e.on = j ∧ Region.binds .any e = true) ∨ waitsB ops j i = true)) := by
  have hlt : i < ops.size := (Array.getElem?_eq_some_iff.1 hi).1
  have h1 := List.all_eq_true.1 h i (List.mem_range.2 hlt)
  rw [hi] at h1
  simp only [relAt2, Bool.and_eq_true] at h1
  obtain ⟨⟨h2, h3⟩, h4⟩ := h1
  refine ⟨?_, ?_, ?_⟩
  · intro cs b he
    rw [he] at h2
    cases h2
  · intro e he hb
    have := (Array.all_eq_true_iff_forall_mem.1 h3) e he
    rw [hb] at this
    simpa using this
  · intro j d hj
    have hjl : j < ops.size := by
      rcases Nat.lt_or_ge j ops.size with g | g
      · exact g
      · unfold dstAt at hj; rw [Array.getElem?_eq_none g] at hj; cases hj
    have h5 := List.all_eq_true.1 h4 j (List.mem_range.2 hjl)
    rw [hj] at h5
    simp only [Bool.and_eq_true, Bool.or_eq_true, beq_iff_eq, bne_iff_ne, ne_eq, Bool.not_eq_true', decide_eq_true_eq] at h5
    obtain ⟨h6, h7⟩ := h5
    refine ⟨fun hne => h6.resolve_left hne, fun hd => ?_⟩
    rcases h7 with h7 | ⟨h7, h8⟩ | h7
    · have : (o.looksAt ops).contains d = true := by simpa using hd
      rw [this] at h7; cases h7
    · refine .inl ⟨h7, ?_⟩
      rw [Array.any_eq_true] at h8
      obtain ⟨x, hx, h9⟩ := h8
      simp only [Bool.and_eq_true, beq_iff_eq] at h9
      exact ⟨_, Array.getElem_mem hx, h9.1, h9.2⟩
    · exact .inr h7
section
variable {P : Program} {ops : Array Oper}
/-- WHATEVER THE ORDER; what is said of an operation may name the values of those that it waits for -/
theorem wp_region_dep {id : Nat} {Q : Exit → Act → World → Prop} {a0 : Act} {w0 : World} (hm : P.follows .mixedOrders = true) (hB : relB2 ops = true)
    (kills : Nat → Nat → Bool) (hkB : killsB ops kills = true) (T : Nat → World → World → Prop) (C : World → Prop) (R : Nat → (Nat → Value) → World → Prop) (hRc : ∀ j vals i v W, i ≠ j → waitsB ops j i = false → R j vals W → R j (fun k => if k = i then v else vals k) W)
    (I0 : World → Prop) (kills0 : Nat → Bool) (hI0 : I0 { w0 with drawn := w0.drawn + 1 }) (hIst : ∀ i W W', kills0 i = false → C W → I0 W → T i W W' → I0 W')
    (hC0 : C { w0 with drawn := w0.drawn + 1 }) (hC : ∀ i W W', C W → T i W W' → C W')
    (hR : ∀ i j v W W', i ≠ j → kills i j = false → waitsB ops j i = false → C W → R j v W → T i W W' → R j v W')
    (step : ∀ i o, ops[i]? = some o → ∀ vals W, C W → (∀ e ∈ o.after, bindD e = true → R e.on vals W) → ((∀ k, k < ops.size → kills0 k = true → k = i ∨ waitsB ops k i = true) → I0 W) →
      opYield P ops o (relAct ops a0 (fun _ => true) vals i) W (fun v W' => T i W W' ∧ R i (fun k => if k = i then v else vals k) W'))
    (hend : ∀ vals W, C W → (∀ j, j < ops.size → (∀ i, i < ops.size → kills i j = false) → R j vals W) → Q .normal (relAct ops a0 (fun _ => true) vals ops.size) W) :
    (Code.region id ops true).wp P Q a0 w0 := by
  have main : ∀ (fuel : Nat) (listed : Array Bool) (vals : Nat → Value) (W : World), listed.size = ops.size → listed.toList.count false ≤ fuel →
      (∀ j o, ops[j]? = some o → listed.getD j false = true → ∀ e ∈ o.after, Region.binds .any e = true → listed.getD e.on false = true) → C W →
      (∀ j, listed.getD j false = true → (∀ i, listed.getD i false = true → kills i j = false) → R j vals W) → ((∀ k, listed.getD k false = true → kills0 k = false) → I0 W) →
      wpAny P .any ops Q fuel listed (relAct ops a0 (fun j => listed.getD j false) vals ops.size) W := by
    intro fuel
    have fin : ∀ (listed : Array Bool) (vals : Nat → Value) (W : World), listed.size = ops.size → Region.ready .any ops listed = [] → C W →
        (∀ j, listed.getD j false = true → (∀ i, listed.getD i false = true → kills i j = false) → R j vals W) → Q .normal (relAct ops a0 (fun j => listed.getD j false) vals ops.size) W := by
      intro listed vals W hs hr hCW hRW
      have all : ∀ n, ∀ j, j < n → j < ops.size → listed.getD j false = true := by
        intro n
        induction n with
        | zero => intro j h; omega
        | succ n ih =>
          intro j hj hlt
          cases hl : listed.getD j false
          · exfalso
            have hop : ops[j]? = some ops[j] := Array.getElem?_eq_getElem hlt
            obtain ⟨_, hb2, _⟩ := relB2_spec hB hop
            have : j ∈ Region.ready .any ops listed := by
              rw [mem_ready]
              refine ⟨?_, ops[j], hop, fun e he hb => ih e.on (by have := hb2 e he hb; omega) (by have := hb2 e he hb; omega)⟩
              have hjs : j < listed.size := by omega
              simp [hjs] at hl ⊢
              exact hl
            rw [hr] at this
            cases this
          · rfl
      have e := relAct_congr (ops := ops) (a0 := a0) (L := fun j => listed.getD j false) (L' := fun _ => true) (vals := vals) (vals' := vals) ops.size (fun j hj => ⟨all (j + 1) j (by omega) hj, fun _ => rfl⟩)
      rw [e]
      refine hend vals W hCW fun j hj hk => hRW j (all (j + 1) j (by omega) hj) fun i hi => ?_
      refine hk i ?_
      rcases Nat.lt_or_ge i ops.size with g | g
      · exact g
      · have : listed.getD i false = false := by simp [Array.getElem?_eq_none (show listed.size ≤ i by omega)]
        rw [this] at hi; cases hi
    induction fuel with
    | zero =>
      intro listed vals W hs hcount hdown hCW hRW hIW
      have hr : Region.ready .any ops listed = [] := by
        rw [List.eq_nil_iff_forall_not_mem]
        intro j hj
        have h0 := (mem_ready.1 hj).1
        obtain ⟨_, o, ho, _⟩ := mem_ready.1 hj
        have hjs : j < listed.size := by have := (Array.getElem?_eq_some_iff.1 ho).1; omega
        have hmem : false ∈ listed.toList := by
          have : listed[j] = false := by simpa [hjs] using h0
          rw [← this]
          simp
        have := List.count_pos_iff.2 hmem
        omega
      exact ⟨hr, fin listed vals W hs hr hCW hRW⟩
    | succ fuel ih =>
      intro listed vals W hs hcount hdown hCW hRW hIW
      refine ⟨fun hr => fin listed vals W hs hr hCW hRW, fun i hi => ?_⟩
      obtain ⟨h0, o, ho, hall⟩ := mem_ready.1 hi
      have hlt : i < ops.size := (Array.getElem?_eq_some_iff.1 ho).1
      have hli : listed.getD i false = false := by simpa [show i < listed.size by omega] using h0
      have hli? : listed[i]? = some false := by
        rw [Array.getElem?_eq_getElem (show i < listed.size by omega)]
        simpa [show i < listed.size by omega] using hli
      obtain ⟨hsel, hb2, hb3⟩ := relB2_spec hB ho
      have hdi : dstAt ops i = o.dst := by unfold dstAt; rw [ho]; rfl
      have notkilled : ∀ e ∈ o.after, bindD e = true → ∀ k, listed.getD k false = true → kills k e.on = false := by
        intro e he hb k hk
        cases hkk : kills k e.on
        · rfl
        · exfalso
          have hkl : k < ops.size := by
            rcases Nat.lt_or_ge k ops.size with g | g
            · exact g
            · have : listed.getD k false = false := by simp [Array.getElem?_eq_none (show listed.size ≤ k by omega)]
              rw [this] at hk; cases hk
          have h1 := List.all_eq_true.1 hkB k (List.mem_range.2 hkl)
          have heo : e.on < ops.size := by have := hb2 e he (bindD_binds hb); omega
          have h2 := List.all_eq_true.1 h1 e.on (List.mem_range.2 heo)
          rw [hkk] at h2
          simp only [Bool.not_true, Bool.false_or] at h2
          have h3 := List.all_eq_true.1 h2 i (List.mem_range.2 hlt)
          rw [ho] at h3
          simp only [Bool.or_eq_true, beq_iff_eq] at h3
          rcases h3 with h3 | h3
          · subst h3; rw [hli] at hk; cases hk
          · have h4 := (Array.all_eq_true_iff_forall_mem.1 h3) e he
            rw [hb] at h4
            simp at h4
      have hst := step i o ho vals W hCW (fun e he hb => hRW e.on (hall e he (bindD_binds hb)) (notkilled e he hb)) (fun hw => hIW fun k hk => by
        cases hkk : kills0 k
        · rfl
        · exfalso
          have hkl : k < ops.size := by
            rcases Nat.lt_or_ge k ops.size with g | g
            · exact g
            · have : listed.getD k false = false := by simp [Array.getElem?_eq_none (show listed.size ≤ k by omega)]
              rw [this] at hk; cases hk
          rcases hw k hkl hkk with rfl | hwt
          · rw [hli] at hk; cases hk
          · unfold waitsB at hwt
            rw [Array.getElem?_eq_getElem hkl] at hwt
            simp only [] at hwt
            rw [Array.any_eq_true] at hwt
            obtain ⟨x, hx, h9⟩ := hwt
            simp only [Bool.and_eq_true, beq_iff_eq] at h9
            have := hdown k _ (Array.getElem?_eq_getElem hkl) hk _ (Array.getElem_mem hx) h9.2
            rw [h9.1, hli] at this
            cases this)
      have hst2 : opYield P ops o (relAct ops a0 (fun j => listed.getD j false) vals ops.size) W (fun v W' => T i W W' ∧ R i (fun k => if k = i then v else vals k) W') := by
        refine opYield_congr hsel ?_ hst
        intro t ht
        by_cases hex : ∃ k, dstAt ops k = some t
        · obtain ⟨k, hk⟩ := hex
          rcases (hb3 k t hk).2 ht with ⟨hki, e, he, heq, hbe⟩ | hkw
          rotate_left
          · obtain ⟨ok, hok, e, he, heq, hbe⟩ := waitsB_elim hkw
            have hik : i < k := by have := (relB2_spec hB hok).2.1 e he hbe; omega
            have hlk : listed.getD k false = false := by
              cases hlk : listed.getD k false
              · rfl
              · have := hdown k ok hok hlk e he hbe
                rw [heq, hli] at this
                cases this
            have hu : ∀ j, dstAt ops j = some t → j = k := by
              intro j hj
              have hjl : j < ops.size := by
                rcases Nat.lt_or_ge j ops.size with g | g
                · exact g
                · unfold dstAt at hj; rw [Array.getElem?_eq_none g] at hj; cases hj
              rcases Nat.lt_trichotomy j k with g | g | g
              · exfalso
                have := ((relB2_spec hB hok).2.2 j t hj).1 (by omega)
                apply this
                unfold dstAt at hk; rw [hok] at hk; exact hk
              · exact g
              · exfalso
                have hjop : ops[j]? = some ops[j] := Array.getElem?_eq_getElem hjl
                have := ((relB2_spec hB hjop).2.2 k t hk).1 (by omega)
                apply this
                unfold dstAt at hj; rw [hjop] at hj; exact hj
            rw [relAct_free i (fun j hj _ h => by have := hu j h; omega), relAct_free ops.size (fun j _ hl h => by
              have := hu j h
              rw [this, hlk] at hl
              cases hl)]
          have hkl : listed.getD k false = true := by rw [← heq]; exact hall e he hbe
          have hu : ∀ j, dstAt ops j = some t → j = k := by
            intro j hj
            rcases Nat.lt_trichotomy j k with g | g | g
            · exfalso
              have hkop : ops[k]? = some ops[k] := Array.getElem?_eq_getElem (by omega)
              have := ((relB2_spec hB hkop).2.2 j t hj).1 (by omega)
              apply this
              unfold dstAt at hk; rw [hkop] at hk; exact hk
            · exact g
            · exfalso
              have hjl : j < ops.size := by
                rcases Nat.lt_or_ge j ops.size with g | g
                · exact g
                · unfold dstAt at hj; rw [Array.getElem?_eq_none g] at hj; cases hj
              have hjop : ops[j]? = some ops[j] := Array.getElem?_eq_getElem hjl
              have := ((relB2_spec hB hjop).2.2 k t hk).1 (by omega)
              apply this
              unfold dstAt at hj; rw [hjop] at hj; exact hj
          rw [relAct_at hk hu i hki rfl, relAct_at hk hu ops.size (by omega) hkl]
        · have hno : ∀ j, dstAt ops j ≠ some t := fun j hj => hex ⟨j, hj⟩
          rw [relAct_free i (fun j _ _ => hno j), relAct_free ops.size (fun j _ _ => hno j)]
      refine wpOp_of_yield ho hst2 fun v W' ⟨hT, hRi⟩ => ?_
      rw [← hdi, put_relAct hli (fun j d hne hj => by
        intro hid
        rw [hdi] at hid
        exact (hb3 j d hj).1 hne hid) ops.size hlt]
      have hget : ∀ j, (listed.setIfInBounds i true).getD j false = if j = i then true else listed.getD j false := by
        intro j
        by_cases e : j = i
        · subst e
          rw [if_pos rfl]
          simp [show j < listed.size by omega]
        · rw [if_neg e]
          have hne : i ≠ j := fun h => e h.symm
          simp only [Array.getD_eq_getD_getElem?, Array.getElem?_setIfInBounds_ne hne]
      have hcg := relAct_congr (ops := ops) (a0 := a0) (L := fun j => if j = i then true else listed.getD j false) (L' := fun j => (listed.setIfInBounds i true).getD j false) (vals := fun j => if j = i then v else vals j) (vals' := fun j => if j = i then v else vals j) ops.size (fun j _ => ⟨(hget j).symm, fun _ => rfl⟩)
      rw [hcg]
      refine ih _ _ W' (by simpa using hs) ?_ ?_ (hC i W W' hCW hT) ?_ ?_
      · have := count_set listed i hli?
        omega
      · intro j oj hj hlj e he hb
        rw [hget]
        by_cases ee : e.on = i
        · rw [if_pos ee]
        · rw [if_neg ee]
          rw [hget] at hlj
          by_cases ej : j = i
          · subst ej
            rw [ho] at hj
            cases hj
            exact hall e he hb
          · rw [if_neg ej] at hlj
            exact hdown j oj hj hlj e he hb
      · intro j hlj hnk
        by_cases ej : j = i
        · subst ej
          exact hRi
        · rw [hget, if_neg ej] at hlj
          have hki := hnk i (by rw [hget, if_pos rfl])
          have hwf : waitsB ops j i = false := by
            cases hwt : waitsB ops j i
            · rfl
            · exfalso
              unfold waitsB at hwt
              cases hjo : ops[j]? with
              | none => rw [hjo] at hwt; cases hwt
              | some oj =>
                rw [hjo] at hwt
                simp only [] at hwt
                rw [Array.any_eq_true] at hwt
                obtain ⟨x, hx, h9⟩ := hwt
                simp only [Bool.and_eq_true, beq_iff_eq] at h9
                have := hdown j oj hjo hlj _ (Array.getElem_mem hx) h9.2
                rw [h9.1, hli] at this
                cases this
          refine hRc j vals i v W' (fun h => ej h.symm) hwf (hR i j _ W W' (fun h => ej h.symm) hki hwf hCW ?_ hT)
          refine hRW j hlj fun k hk => hnk k ?_
          rw [hget]
          split
          · rfl
          · exact hk
      · intro hnk
        have hki0 := hnk i (by rw [hget, if_pos rfl])
        refine hIst i W W' hki0 hCW (hIW fun k hk => hnk k ?_) hT
        rw [hget]
        split
        · rfl
        · exact hk
  refine wp_region_any hm ?_
  have h := main ops.size (Array.replicate ops.size false) (fun _ => undef) { w0 with drawn := w0.drawn + 1 } (by simp) (by simp) (fun j o _ hl => by rw [none_listed] at hl; cases hl) hC0 (fun j hl => by rw [none_listed] at hl; cases hl) (fun _ => hI0)
  have e : relAct ops a0 (fun j => (Array.replicate ops.size false).getD j false) (fun _ => undef) ops.size = a0 := by
    have : ∀ n, relAct ops a0 (fun j => (Array.replicate ops.size false).getD j false) (fun _ => undef) n = a0 := by
      intro n
      induction n with
      | zero => rfl
      | succ n ih =>
        unfold relAct
        rw [ih, if_neg (by rw [none_listed]; exact Bool.false_ne_true)]
    exact this _
  rw [e] at h
  exact h

end
end Go.Proofs.YtkeimgamjnpcbaaGreat

/- A region that draws its order: what is said of an operation may name the values of those that it waits for, and only what may still run can undo it. -/
namespace Go.Proofs.YtkeimgamjnpcbaaGreat
open Go.RowKit
set_option linter.unusedVariables false
/-- operation j waits for i, at once or by others -/
def waitsT (ops : Array Oper) : Nat → Nat → Nat → Bool
  | 0, _, _ => false
  | f + 1, j, i => match ops[j]? with
    | none => false
    | some o => o.after.any fun e => Region.binds .any e && (e.on == i || waitsT ops f e.on i)
theorem waitsT_listed {ops : Array Oper} {listed : Array Bool} (hdown : ∀ j o, ops[j]? = some o → listed.getD j false = true → ∀ e ∈ o.after, Region.binds .any e = true → listed.getD e.on false = true) :
    ∀ (f j i : Nat), listed.getD j false = true → waitsT ops f j i = true → listed.getD i false = true
  | 0, _, _, _, h => by cases h
  | f + 1, j, i, hj, h => by
    unfold waitsT at h
    cases ho : ops[j]? with
    | none => rw [ho] at h; cases h
    | some o =>
      rw [ho] at h
      simp only [] at h
      rw [Array.any_eq_true] at h
      obtain ⟨x, hx, h9⟩ := h
      simp only [Bool.and_eq_true, Bool.or_eq_true, beq_iff_eq] at h9
      have he := hdown j o ho hj _ (Array.getElem_mem hx) h9.1
      rcases h9.2 with h9 | h9
      · rw [← h9]; exact he
      · exact waitsT_listed hdown f _ i he h9
/-- an edge along which a value is handed on, or calls stand in order -/
def bindC (e : Edge) : Bool := Region.binds .any e && (rdB e || match e.ground with | .chain => true | _ => false)
theorem bindC_binds {e : Edge} (h : bindC e = true) : Region.binds .any e = true := by unfold bindC at h; rw [Bool.and_eq_true] at h; exact h.1
/-- who waits for what is undone has run, or undoes it -/
def killsX (bd : Edge → Bool) (ops : Array Oper) (kills : Nat → Nat → Bool) : Bool := (List.range ops.size).all fun i => (List.range ops.size).all fun j => !kills i j || (List.range ops.size).all fun k => match ops[k]? with
  | none => true
  | some o => k == i || waitsT ops ops.size i k || o.after.all fun e => !(bd e) || e.on != j
section
variable {P : Program} {ops : Array Oper}
/-- WHATEVER THE ORDER -/
theorem wp_region_t {id : Nat} {Q : Exit → Act → World → Prop} {a0 : Act} {w0 : World} (bd : Edge → Bool) (hbd : ∀ e, bd e = true → Region.binds .any e = true) (hm : P.follows .mixedOrders = true) (hB : relB2 ops = true)
    (kills : Nat → Nat → Bool) (hkB : killsX bd ops kills = true) (T : Nat → World → World → Prop) (C : World → Prop) (R : Nat → (Nat → Value) → World → Prop) (hRc : ∀ j vals i v W, i ≠ j → waitsT ops ops.size j i = false → R j vals W → R j (fun k => if k = i then v else vals k) W)
    (I0 : World → Prop) (kills0 : Nat → Bool) (hI0 : I0 { w0 with drawn := w0.drawn + 1 }) (hIst : ∀ i W W', kills0 i = false → C W → I0 W → T i W W' → I0 W')
    (hC0 : C { w0 with drawn := w0.drawn + 1 }) (hC : ∀ i W W', C W → T i W W' → C W')
    (hR : ∀ i j v W W', i ≠ j → kills i j = false → waitsT ops ops.size j i = false → C W → R j v W → T i W W' → R j v W')
    (step : ∀ i o, ops[i]? = some o → ∀ vals W, C W → (∀ e ∈ o.after, bd e = true → R e.on vals W) → ((∀ k, k < ops.size → kills0 k = true → k = i ∨ waitsT ops ops.size k i = true) → I0 W) →
      opYield P ops o (relAct ops a0 (fun _ => true) vals i) W (fun v W' => T i W W' ∧ R i (fun k => if k = i then v else vals k) W'))
    (hend : ∀ vals W, C W → (∀ j, j < ops.size → (∀ i, i < ops.size → kills i j = false) → R j vals W) → Q .normal (relAct ops a0 (fun _ => true) vals ops.size) W) :
    (Code.region id ops true).wp P Q a0 w0 := by
  have main : ∀ (fuel : Nat) (listed : Array Bool) (vals : Nat → Value) (W : World), listed.size = ops.size → listed.toList.count false ≤ fuel →
      (∀ j o, ops[j]? = some o → listed.getD j false = true → ∀ e ∈ o.after, Region.binds .any e = true → listed.getD e.on false = true) → C W →
      (∀ j, listed.getD j false = true → (∀ i, listed.getD i false = true → kills i j = false) → R j vals W) → ((∀ k, listed.getD k false = true → kills0 k = false) → I0 W) →
      wpAny P .any ops Q fuel listed (relAct ops a0 (fun j => listed.getD j false) vals ops.size) W := by
    intro fuel
    have fin : ∀ (listed : Array Bool) (vals : Nat → Value) (W : World), listed.size = ops.size → Region.ready .any ops listed = [] → C W →
        (∀ j, listed.getD j false = true → (∀ i, listed.getD i false = true → kills i j = false) → R j vals W) → Q .normal (relAct ops a0 (fun j => listed.getD j false) vals ops.size) W := by
      intro listed vals W hs hr hCW hRW
      have all : ∀ n, ∀ j, j < n → j < ops.size → listed.getD j false = true := by
        intro n
        induction n with
        | zero => intro j h; omega
        | succ n ih =>
          intro j hj hlt
          cases hl : listed.getD j false
          · exfalso
            have hop : ops[j]? = some ops[j] := Array.getElem?_eq_getElem hlt
            obtain ⟨_, hb2, _⟩ := relB2_spec hB hop
            have : j ∈ Region.ready .any ops listed := by
              rw [mem_ready]
              refine ⟨?_, ops[j], hop, fun e he hb => ih e.on (by have := hb2 e he hb; omega) (by have := hb2 e he hb; omega)⟩
              have hjs : j < listed.size := by omega
              simp [hjs] at hl ⊢
              exact hl
            rw [hr] at this
            cases this
          · rfl
      have e := relAct_congr (ops := ops) (a0 := a0) (L := fun j => listed.getD j false) (L' := fun _ => true) (vals := vals) (vals' := vals) ops.size (fun j hj => ⟨all (j + 1) j (by omega) hj, fun _ => rfl⟩)
      rw [e]
      refine hend vals W hCW fun j hj hk => hRW j (all (j + 1) j (by omega) hj) fun i hi => ?_
      refine hk i ?_
      rcases Nat.lt_or_ge i ops.size with g | g
      · exact g
      · have : listed.getD i false = false := by simp [Array.getElem?_eq_none (show listed.size ≤ i by omega)]
        rw [this] at hi; cases hi
    induction fuel with
    | zero =>
      intro listed vals W hs hcount hdown hCW hRW hIW
      have hr : Region.ready .any ops listed = [] := by
        rw [List.eq_nil_iff_forall_not_mem]
        intro j hj
        have h0 := (mem_ready.1 hj).1
        obtain ⟨_, o, ho, _⟩ := mem_ready.1 hj
        have hjs : j < listed.size := by have := (Array.getElem?_eq_some_iff.1 ho).1; omega
        have hmem : false ∈ listed.toList := by
          have : listed[j] = false := by simpa [hjs] using h0
          rw [← this]
          simp
        have := List.count_pos_iff.2 hmem
        omega
      exact ⟨hr, fin listed vals W hs hr hCW hRW⟩
    | succ fuel ih =>
      intro listed vals W hs hcount hdown hCW hRW hIW
      refine ⟨fun hr => fin listed vals W hs hr hCW hRW, fun i hi => ?_⟩
      obtain ⟨h0, o, ho, hall⟩ := mem_ready.1 hi
      have hlt : i < ops.size := (Array.getElem?_eq_some_iff.1 ho).1
      have hli : listed.getD i false = false := by simpa [show i < listed.size by omega] using h0
      have hli? : listed[i]? = some false := by
        rw [Array.getElem?_eq_getElem (show i < listed.size by omega)]
        simpa [show i < listed.size by omega] using hli
      obtain ⟨hsel, hb2, hb3⟩ := relB2_spec hB ho
      have hdi : dstAt ops i = o.dst := by unfold dstAt; rw [ho]; rfl
      have notkilled : ∀ e ∈ o.after, bd e = true → ∀ k, listed.getD k false = true → kills k e.on = false := by
        intro e he hb k hk
        cases hkk : kills k e.on
        · rfl
        · exfalso
          have hkl : k < ops.size := by
            rcases Nat.lt_or_ge k ops.size with g | g
            · exact g
            · have : listed.getD k false = false := by simp [Array.getElem?_eq_none (show listed.size ≤ k by omega)]
              rw [this] at hk; cases hk
          have h1 := List.all_eq_true.1 hkB k (List.mem_range.2 hkl)
          have heo : e.on < ops.size := by have := hb2 e he (hbd e hb); omega
          have h2 := List.all_eq_true.1 h1 e.on (List.mem_range.2 heo)
          rw [hkk] at h2
          simp only [Bool.not_true, Bool.false_or] at h2
          have h3 := List.all_eq_true.1 h2 i (List.mem_range.2 hlt)
          rw [ho] at h3
          simp only [Bool.or_eq_true, beq_iff_eq] at h3
          rcases h3 with (h3 | h3) | h3
          · subst h3; rw [hli] at hk; cases hk
          · rw [waitsT_listed hdown _ k i hk h3] at hli; cases hli
          · have h4 := (Array.all_eq_true_iff_forall_mem.1 h3) e he
            rw [hb] at h4
            simp at h4
      have hst := step i o ho vals W hCW (fun e he hb => hRW e.on (hall e he (hbd e hb)) (notkilled e he hb)) (fun hw => hIW fun k hk => by
        cases hkk : kills0 k
        · rfl
        · exfalso
          have hkl : k < ops.size := by
            rcases Nat.lt_or_ge k ops.size with g | g
            · exact g
            · have : listed.getD k false = false := by simp [Array.getElem?_eq_none (show listed.size ≤ k by omega)]
              rw [this] at hk; cases hk
          rcases hw k hkl hkk with rfl | hwt
          · rw [hli] at hk; cases hk
          · rw [waitsT_listed hdown _ k i hk hwt] at hli; cases hli)
      have hst2 : opYield P ops o (relAct ops a0 (fun j => listed.getD j false) vals ops.size) W (fun v W' => T i W W' ∧ R i (fun k => if k = i then v else vals k) W') := by
        refine opYield_congr hsel ?_ hst
        intro t ht
        by_cases hex : ∃ k, dstAt ops k = some t
        · obtain ⟨k, hk⟩ := hex
          rcases (hb3 k t hk).2 ht with ⟨hki, e, he, heq, hbe⟩ | hkw
          rotate_left
          · obtain ⟨ok, hok, e, he, heq, hbe⟩ := waitsB_elim hkw
            have hik : i < k := by have := (relB2_spec hB hok).2.1 e he hbe; omega
            have hlk : listed.getD k false = false := by
              cases hlk : listed.getD k false
              · rfl
              · have := hdown k ok hok hlk e he hbe
                rw [heq, hli] at this
                cases this
            have hu : ∀ j, dstAt ops j = some t → j = k := by
              intro j hj
              have hjl : j < ops.size := by
                rcases Nat.lt_or_ge j ops.size with g | g
                · exact g
                · unfold dstAt at hj; rw [Array.getElem?_eq_none g] at hj; cases hj
              rcases Nat.lt_trichotomy j k with g | g | g
              · exfalso
                have := ((relB2_spec hB hok).2.2 j t hj).1 (by omega)
                apply this
                unfold dstAt at hk; rw [hok] at hk; exact hk
              · exact g
              · exfalso
                have hjop : ops[j]? = some ops[j] := Array.getElem?_eq_getElem hjl
                have := ((relB2_spec hB hjop).2.2 k t hk).1 (by omega)
                apply this
                unfold dstAt at hj; rw [hjop] at hj; exact hj
            rw [relAct_free i (fun j hj _ h => by have := hu j h; omega), relAct_free ops.size (fun j _ hl h => by
              have := hu j h
              rw [this, hlk] at hl
              cases hl)]
          have hkl : listed.getD k false = true := by rw [← heq]; exact hall e he hbe
          have hu : ∀ j, dstAt ops j = some t → j = k := by
            intro j hj
            rcases Nat.lt_trichotomy j k with g | g | g
            · exfalso
              have hkop : ops[k]? = some ops[k] := Array.getElem?_eq_getElem (by omega)
              have := ((relB2_spec hB hkop).2.2 j t hj).1 (by omega)
              apply this
              unfold dstAt at hk; rw [hkop] at hk; exact hk
            · exact g
            · exfalso
              have hjl : j < ops.size := by
                rcases Nat.lt_or_ge j ops.size with g | g
                · exact g
                · unfold dstAt at hj; rw [Array.getElem?_eq_none g] at hj; cases hj
              have hjop : ops[j]? = some ops[j] := Array.getElem?_eq_getElem hjl
              have := ((relB2_spec hB hjop).2.2 k t hk).1 (by omega)
              apply this
              unfold dstAt at hj; rw [hjop] at hj; exact hj
          rw [relAct_at hk hu i hki rfl, relAct_at hk hu ops.size (by omega) hkl]
        · have hno : ∀ j, dstAt ops j ≠ some t := fun j hj => hex ⟨j, hj⟩
          rw [relAct_free i (fun j _ _ => hno j), relAct_free ops.size (fun j _ _ => hno j)]
      refine wpOp_of_yield ho hst2 fun v W' ⟨hT, hRi⟩ => ?_
      rw [← hdi, put_relAct hli (fun j d hne hj => by
        intro hid
        rw [hdi] at hid
        exact (hb3 j d hj).1 hne hid) ops.size hlt]
      have hget : ∀ j, (listed.setIfInBounds i true).getD j false = if j = i then true else listed.getD j false := by
        intro j
        by_cases e : j = i
        · subst e
          rw [if_pos rfl]
          simp [show j < listed.size by omega]
        · rw [if_neg e]
          have hne : i ≠ j := fun h => e h.symm
          simp only [Array.getD_eq_getD_getElem?, Array.getElem?_setIfInBounds_ne hne]
      have hcg := relAct_congr (ops := ops) (a0 := a0) (L := fun j => if j = i then true else listed.getD j false) (L' := fun j => (listed.setIfInBounds i true).getD j false) (vals := fun j => if j = i then v else vals j) (vals' := fun j => if j = i then v else vals j) ops.size (fun j _ => ⟨(hget j).symm, fun _ => rfl⟩)
      rw [hcg]
      refine ih _ _ W' (by simpa using hs) ?_ ?_ (hC i W W' hCW hT) ?_ ?_
      · have := count_set listed i hli?
        omega
      · intro j oj hj hlj e he hb
        rw [hget]
        by_cases ee : e.on = i
        · rw [if_pos ee]
        · rw [if_neg ee]
          rw [hget] at hlj
          by_cases ej : j = i
          · subst ej
            rw [ho] at hj
            cases hj
            exact hall e he hb
          · rw [if_neg ej] at hlj
            exact hdown j oj hj hlj e he hb
      · intro j hlj hnk
        by_cases ej : j = i
        · subst ej
          exact hRi
        · rw [hget, if_neg ej] at hlj
          have hki := hnk i (by rw [hget, if_pos rfl])
          have hwf : waitsT ops ops.size j i = false := by
            cases hwt : waitsT ops ops.size j i
            · rfl
            · rw [waitsT_listed hdown _ j i hlj hwt] at hli; cases hli
          refine hRc j vals i v W' (fun h => ej h.symm) hwf (hR i j _ W W' (fun h => ej h.symm) hki hwf hCW ?_ hT)
          refine hRW j hlj fun k hk => hnk k ?_
          rw [hget]
          split
          · rfl
          · exact hk
      · intro hnk
        have hki0 := hnk i (by rw [hget, if_pos rfl])
        refine hIst i W W' hki0 hCW (hIW fun k hk => hnk k ?_) hT
        rw [hget]
        split
        · rfl
        · exact hk
  refine wp_region_any hm ?_
  have h := main ops.size (Array.replicate ops.size false) (fun _ => undef) { w0 with drawn := w0.drawn + 1 } (by simp) (by simp) (fun j o _ hl => by rw [none_listed] at hl; cases hl) hC0 (fun j hl => by rw [none_listed] at hl; cases hl) (fun _ => hI0)
  have e : relAct ops a0 (fun j => (Array.replicate ops.size false).getD j false) (fun _ => undef) ops.size = a0 := by
    have : ∀ n, relAct ops a0 (fun j => (Array.replicate ops.size false).getD j false) (fun _ => undef) n = a0 := by
      intro n
      induction n with
      | zero => rfl
      | succ n ih =>
        unfold relAct
        rw [ih, if_neg (by rw [none_listed]; exact Bool.false_ne_true)]
    exact this _
  rw [e] at h
  exact h


theorem opYield_mono {o : Oper} {a : Act} {W : World} {R R' : Value → World → Prop} (h : ∀ v W', R v W' → R' v W') (k : opYield P ops o a W R) : opYield P ops o a W R' := by
  rw [opYield_def] at k ⊢
  split
  · rename_i hw
    rw [if_pos hw] at k
    generalize (execOp a.eval o).run P W = r at *
    cases r with
    | ok n w' =>
      cases n <;> simp only [yieldUpon] at k ⊢
      case value u => exact h _ _ k
      case skip => exact h _ _ k
      case enter f args => exact k.mono fun e w'' ⟨v, he, hr⟩ => ⟨v, he, h _ _ hr⟩
    | halt x w' => simp only [yieldUpon] at k
  · rename_i hw
    rw [if_neg hw] at k
    exact h _ _ k
/-- a fact that may name the values of operations that it waits for -/
structure DF where
  ws : List Nat
  f : (Nat → Value) → Fact
def DF.at (d : DF) (vals : Nat → Value) : Fact := d.f (fun k => if k ∈ d.ws then vals k else undef)
/-- of no other's value -/
def DF.c (f : Fact) : DF := ⟨[], fun _ => f⟩
/-- of the values of those -/
def DF.d (ws : List Nat) (f : (Nat → Value) → Fact) : DF := ⟨ws, f⟩
@[simp] theorem DF.c_at (f : Fact) (vals : Nat → Value) : (DF.c f).at vals = f := rfl
theorem DF.d_at (ws : List Nat) (f : (Nat → Value) → Fact) (vals : Nat → Value) : (DF.d ws f).at vals = f (fun k => if k ∈ ws then vals k else undef) := rfl
def dfAt (fs : List DF) (j : Nat) : DF := fs.getD j (DF.c Fact.any)
def wsB (ops : Array Oper) (fs : List DF) : Bool := (List.range fs.length).all fun j => (dfAt fs j).ws.all fun k => waitsT ops ops.size j k
theorem df_at_congr {d : DF} {vals vals' : Nat → Value} (h : ∀ k ∈ d.ws, vals k = vals' k) : d.at vals = d.at vals' := by
  unfold DF.at
  congr 1
  funext k
  split
  · exact h k ‹_›
  · rfl
def kindX (B N : Nat) : Nat → World → World → Prop
  | 0, W, W' => Ext W W'
  | 1, W, W' => Kept (fun b => B ≤ b ∧ b < N) W W'
  | 2, W, W' => Below N W W'
  | _, W, W' => Below B W W'
def hurtsB : Nat → Nat → Bool
  | 0, _ => false
  | 1, f => decide (2 ≤ f)
  | 2, f => f == 1 || decide (3 ≤ f)
  | _, f => decide (1 ≤ f)
def killF (ops : Array Oper) (kd fk : Nat → Nat) (i j : Nat) : Bool := hurtsB (kd i) (fk j) && i != j && !waitsT ops ops.size j i
def keepX (ops : Array Oper) (kd fk : Nat → Nat) (j : Nat) : Bool := (List.range ops.size).all fun i => !killF ops kd fk i j
/-- WHATEVER THE ORDER: operations of four kinds (0: new memory; 1: they write what was there from B on; 2: what is new; 3: whatever lies from B on), facts of four kinds (0: of no world; 1: they bear kind 1; 2: they bear kind 2; 3: new memory alone); I0: what holds when the region begins, till an operation of kinds 1, 3 -/
theorem wp_region_x {id : Nat} {Q : Exit → Act → World → Prop} {a0 : Act} {w0 : World} (hm : P.follows .mixedOrders = true) (hB : relB2 ops = true) (B : Nat) (hBs : B ≤ w0.heap.size) (fs : List DF) (hw : wsB ops fs = true)
    (kd fk : Nat → Nat) (hk : killsX bindD ops (killF ops kd fk) = true) (hf : ∀ j vals, kindF w0.heap.size (fk j) ((dfAt fs j).at vals))
    (I0 : World → Prop) (hI0 : I0 w0.drew) (hI1 : ∀ W W', Ext W W' → I0 W → I0 W') (hI2 : ∀ W W', Below w0.heap.size W W' → I0 W → I0 W')
    (step : ∀ i o, ops[i]? = some o → ∀ vals W, Below B w0 W → (∀ e ∈ o.after, bindD e = true → ((dfAt fs e.on).at vals).p (vals e.on) W) → ((∀ k, k < ops.size → (kd k == 1 || decide (3 ≤ kd k)) = true → k = i ∨ waitsT ops ops.size k i = true) → I0 W) →
      opYield P ops o (relAct ops a0 (fun _ => true) vals i) W (fun v W' => kindX B w0.heap.size (kd i) W W' ∧ ((dfAt fs i).at vals).p v W'))
    (hend : ∀ vals W, Below B w0 W → (∀ j, j < ops.size → keepX ops kd fk j = true → ((dfAt fs j).at vals).p (vals j) W) → Q .normal (relAct ops a0 (fun _ => true) vals ops.size) W) :
    (Code.region id ops true).wp P Q a0 w0 := by
  have hws : ∀ j k, k ∈ (dfAt fs j).ws → waitsT ops ops.size j k = true := by
    intro j k hk
    rcases Nat.lt_or_ge j fs.length with g | g
    · have := List.all_eq_true.1 hw j (List.mem_range.2 g)
      exact List.all_eq_true.1 this k hk
    · have e : dfAt fs j = DF.c Fact.any := by unfold dfAt; rw [List.getD_eq_getElem?_getD, List.getElem?_eq_none g]; rfl
      rw [e] at hk
      cases hk
  have hself : ∀ f j, waitsT ops f j j = false := by
    have hlt : ∀ f j i, waitsT ops f j i = true → i < j := by
      intro f
      induction f with
      | zero => intro j i h; cases h
      | succ f ih =>
        intro j i h
        unfold waitsT at h
        cases ho : ops[j]? with
        | none => rw [ho] at h; cases h
        | some o =>
          rw [ho] at h
          simp only [] at h
          rw [Array.any_eq_true] at h
          obtain ⟨x, hx, h9⟩ := h
          simp only [Bool.and_eq_true, Bool.or_eq_true, beq_iff_eq] at h9
          have h1 := (relB2_spec hB ho).2.1 _ (Array.getElem_mem hx) h9.1
          rcases h9.2 with h9 | h9
          · omega
          · have := ih _ _ h9; omega
    intro f j
    cases h : waitsT ops f j j
    · rfl
    · exact absurd (hlt f j j h) (Nat.lt_irrefl _)
  have hcongr : ∀ j vals i v, waitsT ops ops.size j i = false → (dfAt fs j).at (fun k => if k = i then v else vals k) = (dfAt fs j).at vals := by
    intro j vals i v h
    refine df_at_congr fun k hk => ?_
    have : k ≠ i := fun e => by
      subst e
      rw [hws j k hk] at h
      cases h
    rw [if_neg this]
  refine wp_region_t bindD (fun _ h => bindD_binds h) hm hB (killF ops kd fk) hk (fun i W W' => kindX B w0.heap.size (kd i) W W') (fun W => Below B w0 W) (fun j vals W => ((dfAt fs j).at vals).p (vals j) W) ?_ I0 (fun i => kd i == 1 || decide (3 ≤ kd i)) hI0 ?_ ?_ ?_ ?_ ?_ ?_
  · intro j vals i v W hij hwt h
    rw [hcongr j vals i v hwt]
    show ((dfAt fs j).at vals).p (if j = i then v else vals j) W
    rw [if_neg (Ne.symm hij)]
    exact h
  · intro i W W' hk0 hC h1 h2
    generalize kd i = c at *
    match c, h2 with
    | 0, h2 => exact hI1 _ _ h2 h1
    | 1, _ => cases hk0
    | 2, h2 => exact hI2 _ _ h2 h1
    | c + 3, _ => simp at hk0
  · exact ⟨rfl, rfl, rfl, Nat.le_refl _, fun _ _ => rfl⟩
  · intro i W W' h1 h2
    refine h1.trans ?_
    have hs := h1.size
    generalize kd i = c at *
    match c, h2 with
    | 0, h2 => exact Below.mono h2 (by omega)
    | 1, h2 => exact Kept.below h2 (by omega) (fun k hk h => by omega)
    | 2, h2 => exact Below.mono h2 hBs
    | c + 3, h2 => exact h2
  · intro i j vals W W' hij hki hwt hC h1 h2
    have hs := hC.size
    have hfj := hf j vals
    unfold killF at hki
    rw [hwt] at hki
    have hne : (i != j) = true := by simpa using hij
    rw [hne] at hki
    simp only [Bool.not_false, Bool.and_true] at hki
    generalize kd i = c at *
    generalize fk j = d at *
    generalize (dfAt fs j).at vals = f at *
    match c, h2 with
    | 0, h2 => exact f.st _ _ _ h2 h1
    | 1, h2 =>
      match d, hfj with
      | 0, hfj => exact hfj _ _ _ h1
      | 1, hfj => exact hfj _ _ _ (Kept.mono h2 (fun k _ h => h.2)) h1
      | d + 2, _ => simp [hurtsB] at hki
    | 2, h2 =>
      match d, hfj with
      | 0, hfj => exact hfj _ _ _ h1
      | 1, _ => simp [hurtsB] at hki
      | 2, hfj => exact hfj _ _ _ h2 h1
      | d + 3, _ => simp [hurtsB] at hki
    | c + 3, h2 =>
      match d, hfj with
      | 0, hfj => exact hfj _ _ _ h1
      | d + 1, _ => simp [hurtsB] at hki
  · intro i o ho vals W hE h hI
    refine opYield_mono ?_ (step i o ho vals W hE h hI)
    rintro v W' ⟨h1, h2⟩
    refine ⟨h1, ?_⟩
    rw [hcongr i vals i v (hself _ _)]
    show ((dfAt fs i).at vals).p (if i = i then v else vals i) W'
    rw [if_pos rfl]
    exact h2
  · intro vals W hE h
    refine hend vals W hE fun j hj hkj => h j hj fun i hi => ?_
    have := List.all_eq_true.1 hkj i (List.mem_range.2 hi)
    simpa only [Bool.not_eq_true'] using this
end
end Go.Proofs.YtkeimgamjnpcbaaGreat

/- slices.Sort at uint16, whatever the row holds: it comes to an end, and the row holds numbers still: what a drawing region keeps; insertionSortOrdered. -/
namespace Go.Proofs.YtkeimgamjnpcbaaGreat
open Go.RowKit
set_option linter.unusedVariables false
set_option linter.unusedSimpArgs false
namespace Nm
theorem kills_none (bd : Edge → Bool) (ops : Array Oper) : killsX bd ops (fun _ _ => false) = true := by
  unfold killsX
  simp
/-- a region that draws: what holds of the world throughout (C), and of each operation's value (F, which says nothing of the world) -/
theorem wp_region_c {P : Program} {ops : Array Oper} {id : Nat} {Q : Exit → Act → World → Prop} {a0 : Act} {w0 : World} (hm : P.follows .mixedOrders = true) (hB : relB2 ops = true) (C : World → Prop) (hC0 : C { w0 with drawn := w0.drawn + 1 }) (fs : List (Value → Prop))
    (step : ∀ i o, ops[i]? = some o → ∀ vals W, C W → (∀ e ∈ o.after, bindD e = true → (fs.getD e.on fun _ => True) (vals e.on)) →
      opYield P ops o (relAct ops a0 (fun _ => true) vals i) W (fun v W' => C W' ∧ (fs.getD i fun _ => True) v))
    (hend : ∀ vals W a, C W → (∀ j, j < ops.size → (fs.getD j fun _ => True) (vals j)) → a = relAct ops a0 (fun _ => true) vals ops.size → Q .normal a W) :
    (Code.region id ops true).wp P Q a0 w0 := by
  refine wp_region_t bindD (fun e h => bindD_binds h) hm hB (fun _ _ => false) (kills_none _ _) (fun _ _ W' => C W') C (fun j vals _ => (fs.getD j fun _ => True) (vals j)) (fun j vals i v W hij _ h => ?_) (fun _ => True) (fun _ => false) trivial (fun _ _ _ _ _ _ _ => trivial) hC0 (fun _ _ _ _ h => h) (fun i j v W W' _ _ _ _ h _ => h) ?_ ?_
  · simp only
    rw [if_neg (fun h => hij h.symm)]
    exact h
  · intro i o hio vals W hC haf _
    refine opYield_mono ?_ (step i o hio vals W hC haf)
    intro v W' h
    simpa using h
  · intro vals W hC hR
    exact hend vals W _ hC (fun j hj => hR j hj (fun _ _ => rfl)) rfl
def isU (v : Value) : Prop := ∃ x : Nat, v = .int .u16 x ∧ x < 65536
def Row16 (w : World) (g n : Nat) : Prop := ∃ cs, w.heap[g]? = some (.cells cs 24 (0, 0)) ∧ ∀ i, i < n → ∃ v, cs[i]? = some v ∧ isU v
theorem Row16.cell {w : World} {g n : Nat} (h : Row16 w g n) (i : Nat) (hi : i < n) : ∃ x : Nat, w.cell? ⟨g, i, none⟩ = some (.int .u16 x) ∧ x < 65536 := by
  obtain ⟨cs, h1, h2⟩ := h
  obtain ⟨v, hv, x, rfl, hx⟩ := h2 i hi
  exact ⟨x, (cell_of_row w g i _ _ _ h1).trans hv, hx⟩
theorem Row16.frozen {w : World} {g n : Nat} (h : Row16 w g n) (i : Nat) : w.frozen? ⟨g, i, none⟩ = false := by
  obtain ⟨cs, h1, h2⟩ := h
  simp [World.frozen?, h1]
theorem Row16.set {w : World} {g n : Nat} (h : Row16 w g n) (i x : Nat) (hx : x < 65536) : Row16 (w.setCell ⟨g, i, none⟩ (.int .u16 x)) g n := by
  obtain ⟨cs, h1, h2⟩ := h
  refine ⟨cs.setIfInBounds i (.int .u16 x), by simp [World.setCell, Array.getElem?_modify, h1], fun k hk => ?_⟩
  obtain ⟨v, hv, hu⟩ := h2 k hk
  by_cases hki : i = k
  · subst hki
    exact ⟨_, by rw [Array.getElem?_setIfInBounds]; simp [(Array.getElem?_eq_some_iff.1 hv).1], x, rfl, hx⟩
  · exact ⟨v, by rw [Array.getElem?_setIfInBounds, if_neg hki]; exact hv, hu⟩
/-- what the sort's functions keep: only the row is written, and it holds numbers -/
def CW (w : World) (g n : Nat) (W : World) : Prop := Kept (fun b => b = g) w W ∧ Row16 W g n
theorem CW.refl {w : World} {g n : Nat} (h : Row16 w g n) : CW w g n w := ⟨Kept.refl _ _, h⟩
theorem CW.trans {w W W' : World} {g n : Nat} (h : CW w g n W) (k : CW W g n W') : CW w g n W' := ⟨h.1.trans k.1, k.2⟩
theorem CW.set {w W : World} {g n : Nat} (h : CW w g n W) (i x : Nat) (hx : x < 65536) : CW w g n (W.setCell ⟨g, i, none⟩ (.int .u16 x)) := ⟨h.1.setCell (p := ⟨g, i, none⟩) (fun _ => rfl) _, h.2.set i x hx⟩
theorem CW.drew {w W : World} {g n : Nat} (h : CW w g n W) : CW w g n { W with drawn := W.drawn + 1 } := ⟨h.1.drew, h.2⟩
def isB (v : Value) : Prop := ∃ b : Bool, v = .bool b
theorem isU_mk (x : Nat) (h : x < 65536) : isU (.int .u16 x) := ⟨x, rfl, h⟩
theorem isB_mk (b : Bool) : isB (.bool b) := ⟨b, rfl⟩
theorem less16 (x y : Nat) (w : World) : Calls Tryz.prog 206 #[.int .u16 x, .int .u16 y] w fun e w' => e = .returned (.bool (decide (x < y))) ∧ w' = w := by
  go_enter Tryz.func206, Tryz.ntmps206
  go_wp2
  go_ret
  exact ⟨rfl, rfl⟩
def InsR (w : World) (g n b : Nat) (i : Value) (W : World) : Prop := ∃ k : Nat, i = .int .i64 k ∧ k ≤ b ∧ 1 ≤ k ∧ CW w g n W
def InsI (w : World) (g n i : Nat) (j : Value) (W : World) : Prop := ∃ k : Nat, j = .int .i64 k ∧ k ≤ i ∧ CW w g n W
set_option maxRecDepth 100000 in
set_option maxHeartbeats 20000000 in
theorem ins16 (g n c a b : Nat) (w : World) (h : Row16 w g n) (hc : n ≤ c) (hb : b ≤ n) (hab : a < b) (hn : n ≤ 1000000000) :
    Calls Tryz.prog 200 #[.slice (some ⟨g, 0, none⟩) n c, .int .i64 a, .int .i64 b] w fun e w' => e = .returned (.tuple #[]) ∧ CW w g n w' := by
  go_enter Tryz.func200, Tryz.ntmps200
  go_wp2_with fail
  go_loopw [6] (InsR w g n b) (fun i _ => b - (intOf i).toNat)
  case atStart => exact ⟨a + 1, by go_num, by omega, by omega, CW.refl h⟩
  case round =>
    obtain ⟨i, rfl, hi1, hi2, hw⟩ := hrel
    by_cases hlt : i < b
    · go_wp2_with fail
      go_loopw [7] (InsI w g n i) (fun j _ => (intOf j).toNat)
      case atStart => exact ⟨i, rfl, Nat.le_refl _, hw⟩
      case round =>
        obtain ⟨j, rfl, hj, hw2⟩ := hrel
        have hwD := hw2.drew
        by_cases hja : a < j
        · obtain ⟨k, rfl⟩ : ∃ k, j = k + 1 := ⟨j - 1, by omega⟩
          refine wp_seq ?_
          refine wp_seq ?_
          refine wp_region_c mixed0 (by kernel_rfl) (CW w g n) hwD [(· = .int .i64 (k + 1 : Nat)), (· = .int .i64 (a)), (· = .bool true), (· = .bool true), (· = .slice (some ⟨g, 0, none⟩) n c), (· = .int .i64 (k + 1 : Nat)), (· = .pointer (some ⟨g, k + 1, none⟩)), isU, (· = .slice (some ⟨g, 0, none⟩) n c), (· = .int .i64 (k + 1 : Nat)), (· = .int .i64 (k)), (· = .pointer (some ⟨g, k, none⟩)), isU, isB, isB] ?_ ?_
          · intro i q hio vals W hC haf
            obtain ⟨x0, q0, hx0⟩ := hC.2.cell (k + 1) (by omega)
            have f0 := hC.2.frozen (k + 1)
            have t0 : isU (.int .u16 x0) := isU_mk _ hx0
            obtain ⟨x1, q1, hx1⟩ := hC.2.cell (k) (by omega)
            have f1 := hC.2.frozen (k)
            have t1 : isU (.int .u16 x1) := isU_mk _ hx1
            have r0 : (a : Int) < (k : Int) + 1 := by first | omega | exact IntWalk.i64_in _ (by omega) | go_num
            have r1 : a < k + 1 := by first | omega | exact IntWalk.i64_in _ (by omega) | go_num
            have r2 : (0 : Int) ≤ (k : Int) + 1 ∧ (k : Int) + 1 < (n : Int) := by first | omega | exact IntWalk.i64_in _ (by omega) | go_num
            have r3 : k < n := by first | omega | exact IntWalk.i64_in _ (by omega) | go_num
            have r4 : IntKind.i64.wrap (k : Int) = k := by first | omega | exact IntWalk.i64_in _ (by omega) | go_num
            rcases i with _ | _ | _ | _ | _ | _ | _ | _ | _ | _ | _ | _ | _ | _ | _ | i
            · simp at hio; subst hio; simp [bindD, rdB, Region.binds] at haf; simp [opYield_def, yieldUpon, yielded, relAct, dstAt, Act.put, Region.wanted, go_sem, hC, isU_mk, isB_mk, *]
            · simp at hio; subst hio; simp [bindD, rdB, Region.binds] at haf; simp [opYield_def, yieldUpon, yielded, relAct, dstAt, Act.put, Region.wanted, go_sem, hC, isU_mk, isB_mk, *]
            · simp at hio; subst hio; simp [bindD, rdB, Region.binds] at haf; simp [opYield_def, yieldUpon, yielded, relAct, dstAt, Act.put, Region.wanted, go_sem, hC, isU_mk, isB_mk, *]
            · simp at hio; subst hio; simp [bindD, rdB, Region.binds] at haf; simp [opYield_def, yieldUpon, yielded, relAct, dstAt, Act.put, Region.wanted, go_sem, hC, isU_mk, isB_mk, *]
            · simp at hio; subst hio; simp [bindD, rdB, Region.binds] at haf; simp [opYield_def, yieldUpon, yielded, relAct, dstAt, Act.put, Region.wanted, go_sem, hC, isU_mk, isB_mk, *]
            · simp at hio; subst hio; simp [bindD, rdB, Region.binds] at haf; simp [opYield_def, yieldUpon, yielded, relAct, dstAt, Act.put, Region.wanted, go_sem, hC, isU_mk, isB_mk, *]
            · simp at hio; subst hio; simp [bindD, rdB, Region.binds] at haf; simp [opYield_def, yieldUpon, yielded, relAct, dstAt, Act.put, Region.wanted, go_sem, hC, isU_mk, isB_mk, *]
            · simp at hio; subst hio; simp [bindD, rdB, Region.binds] at haf; simp [opYield_def, yieldUpon, yielded, relAct, dstAt, Act.put, Region.wanted, go_sem, hC, isU_mk, isB_mk, *]
            · simp at hio; subst hio; simp [bindD, rdB, Region.binds] at haf; simp [opYield_def, yieldUpon, yielded, relAct, dstAt, Act.put, Region.wanted, go_sem, hC, isU_mk, isB_mk, *]
            · simp at hio; subst hio; simp [bindD, rdB, Region.binds] at haf; simp [opYield_def, yieldUpon, yielded, relAct, dstAt, Act.put, Region.wanted, go_sem, hC, isU_mk, isB_mk, *]
            · simp at hio; subst hio; simp [bindD, rdB, Region.binds] at haf; simp [opYield_def, yieldUpon, yielded, relAct, dstAt, Act.put, Region.wanted, go_sem, hC, isU_mk, isB_mk, *]
            · simp at hio; subst hio; simp [bindD, rdB, Region.binds] at haf; simp [opYield_def, yieldUpon, yielded, relAct, dstAt, Act.put, Region.wanted, go_sem, hC, isU_mk, isB_mk, *]
            · simp at hio; subst hio; simp [bindD, rdB, Region.binds] at haf; simp [opYield_def, yieldUpon, yielded, relAct, dstAt, Act.put, Region.wanted, go_sem, hC, isU_mk, isB_mk, *]
            · simp at hio; subst hio; simp [bindD, rdB, Region.binds] at haf; first | (obtain ⟨⟨y1, e1, l1⟩, ⟨y2, e2, l2⟩, e3⟩ := haf; simp [opYield_def, yieldUpon, yielded, relAct, dstAt, Act.put, Region.wanted, go_sem, hC, isU_mk, isB_mk, *]; exact (less16 y1 y2 W).mono fun e w' ⟨h1, h2⟩ => ⟨_, h1, by rw [h2]; exact hC, _, rfl⟩) | (obtain ⟨⟨y1, e1, l1⟩, ⟨y2, e2, l2⟩⟩ := haf; simp [opYield_def, yieldUpon, yielded, relAct, dstAt, Act.put, Region.wanted, go_sem, hC, isU_mk, isB_mk, *]; exact (less16 y1 y2 W).mono fun e w' ⟨h1, h2⟩ => ⟨_, h1, by rw [h2]; exact hC, _, rfl⟩)
            · simp at hio; subst hio; simp [bindD, rdB, Region.binds] at haf; first | (simp [opYield_def, yieldUpon, yielded, relAct, dstAt, Act.put, Region.wanted, go_sem, hC, isU_mk, isB_mk, *]; done) | (obtain ⟨y, e1⟩ := haf; simp [opYield_def, yieldUpon, yielded, relAct, dstAt, Act.put, Region.wanted, go_sem, hC, isU_mk, isB_mk, *]; done) | (obtain ⟨⟨y, e1⟩, e2⟩ := haf; simp [opYield_def, yieldUpon, yielded, relAct, dstAt, Act.put, Region.wanted, go_sem, hC, isU_mk, isB_mk, *]; done) | (obtain ⟨e2, ⟨y, e1⟩⟩ := haf; simp [opYield_def, yieldUpon, yielded, relAct, dstAt, Act.put, Region.wanted, go_sem, hC, isU_mk, isB_mk, *]; done)
            · exfalso; simp at hio
          · intro vals W ac hC hF hac
            obtain ⟨o, ho⟩ : isB (vals 14) := hF 14 (by show 14 < 15; omega)
            simp [relAct, dstAt, Act.put] at hac
            rw [ho] at hac
            subst hac
            clear hF
            have hwD := hC.drew
            have hwD := hC.drew
            cases o
            · go_wp2_with fail
              exact ⟨⟨i + 1, by go_num, by omega, by omega, hC⟩, by simp [intOf]; omega⟩
            · go_upto_region 6 with fail
              refine wp_region_c mixed0 (by kernel_rfl) (CW w g n) hwD [(· = .slice (some ⟨g, 0, none⟩) n c), (· = .int .i64 (k + 1 : Nat)), (· = .slice (some ⟨g, 0, none⟩) n c), (· = .int .i64 (k + 1 : Nat)), (· = .int .i64 (k)), (· = .slice (some ⟨g, 0, none⟩) n c), (· = .int .i64 (k + 1 : Nat)), (· = .int .i64 (k)), (· = .pointer (some ⟨g, k, none⟩)), isU, (· = .slice (some ⟨g, 0, none⟩) n c), (· = .int .i64 (k + 1 : Nat)), (· = .pointer (some ⟨g, k + 1, none⟩)), isU, (· = .pointer (some ⟨g, k + 1, none⟩)), fun _ => True, (· = .pointer (some ⟨g, k, none⟩)), fun _ => True] ?_ ?_
              · intro i q hio vals W hC haf
                obtain ⟨x0, q0, hx0⟩ := hC.2.cell (k + 1) (by omega)
                have f0 := hC.2.frozen (k + 1)
                have t0 : isU (.int .u16 x0) := isU_mk _ hx0
                obtain ⟨x1, q1, hx1⟩ := hC.2.cell (k) (by omega)
                have f1 := hC.2.frozen (k)
                have t1 : isU (.int .u16 x1) := isU_mk _ hx1
                have r0 : (a : Int) < (k : Int) + 1 := by first | omega | exact IntWalk.i64_in _ (by omega) | go_num
                have r1 : a < k + 1 := by first | omega | exact IntWalk.i64_in _ (by omega) | go_num
                have r2 : (0 : Int) ≤ (k : Int) + 1 ∧ (k : Int) + 1 < (n : Int) := by first | omega | exact IntWalk.i64_in _ (by omega) | go_num
                have r3 : k < n := by first | omega | exact IntWalk.i64_in _ (by omega) | go_num
                have r4 : IntKind.i64.wrap (k : Int) = k := by first | omega | exact IntWalk.i64_in _ (by omega) | go_num
                rcases i with _ | _ | _ | _ | _ | _ | _ | _ | _ | _ | _ | _ | _ | _ | _ | _ | _ | _ | i
                · simp at hio; subst hio; simp [bindD, rdB, Region.binds] at haf; simp [opYield_def, yieldUpon, yielded, relAct, dstAt, Act.put, Region.wanted, go_sem, hC, isU_mk, isB_mk, *]
                · simp at hio; subst hio; simp [bindD, rdB, Region.binds] at haf; simp [opYield_def, yieldUpon, yielded, relAct, dstAt, Act.put, Region.wanted, go_sem, hC, isU_mk, isB_mk, *]
                · simp at hio; subst hio; simp [bindD, rdB, Region.binds] at haf; simp [opYield_def, yieldUpon, yielded, relAct, dstAt, Act.put, Region.wanted, go_sem, hC, isU_mk, isB_mk, *]
                · simp at hio; subst hio; simp [bindD, rdB, Region.binds] at haf; simp [opYield_def, yieldUpon, yielded, relAct, dstAt, Act.put, Region.wanted, go_sem, hC, isU_mk, isB_mk, *]
                · simp at hio; subst hio; simp [bindD, rdB, Region.binds] at haf; simp [opYield_def, yieldUpon, yielded, relAct, dstAt, Act.put, Region.wanted, go_sem, hC, isU_mk, isB_mk, *]
                · simp at hio; subst hio; simp [bindD, rdB, Region.binds] at haf; simp [opYield_def, yieldUpon, yielded, relAct, dstAt, Act.put, Region.wanted, go_sem, hC, isU_mk, isB_mk, *]
                · simp at hio; subst hio; simp [bindD, rdB, Region.binds] at haf; simp [opYield_def, yieldUpon, yielded, relAct, dstAt, Act.put, Region.wanted, go_sem, hC, isU_mk, isB_mk, *]
                · simp at hio; subst hio; simp [bindD, rdB, Region.binds] at haf; simp [opYield_def, yieldUpon, yielded, relAct, dstAt, Act.put, Region.wanted, go_sem, hC, isU_mk, isB_mk, *]
                · simp at hio; subst hio; simp [bindD, rdB, Region.binds] at haf; simp [opYield_def, yieldUpon, yielded, relAct, dstAt, Act.put, Region.wanted, go_sem, hC, isU_mk, isB_mk, *]
                · simp at hio; subst hio; simp [bindD, rdB, Region.binds] at haf; simp [opYield_def, yieldUpon, yielded, relAct, dstAt, Act.put, Region.wanted, go_sem, hC, isU_mk, isB_mk, *]
                · simp at hio; subst hio; simp [bindD, rdB, Region.binds] at haf; simp [opYield_def, yieldUpon, yielded, relAct, dstAt, Act.put, Region.wanted, go_sem, hC, isU_mk, isB_mk, *]
                · simp at hio; subst hio; simp [bindD, rdB, Region.binds] at haf; simp [opYield_def, yieldUpon, yielded, relAct, dstAt, Act.put, Region.wanted, go_sem, hC, isU_mk, isB_mk, *]
                · simp at hio; subst hio; simp [bindD, rdB, Region.binds] at haf; simp [opYield_def, yieldUpon, yielded, relAct, dstAt, Act.put, Region.wanted, go_sem, hC, isU_mk, isB_mk, *]
                · simp at hio; subst hio; simp [bindD, rdB, Region.binds] at haf; simp [opYield_def, yieldUpon, yielded, relAct, dstAt, Act.put, Region.wanted, go_sem, hC, isU_mk, isB_mk, *]
                · simp at hio; subst hio; simp [bindD, rdB, Region.binds] at haf; simp [opYield_def, yieldUpon, yielded, relAct, dstAt, Act.put, Region.wanted, go_sem, hC, isU_mk, isB_mk, *]
                · simp at hio; subst hio; simp [bindD, rdB, Region.binds] at haf; first | (obtain ⟨e1, y2, e2, l2⟩ := haf; simp [opYield_def, yieldUpon, yielded, relAct, dstAt, Act.put, Region.wanted, go_sem, hC, isU_mk, isB_mk, *]; exact hC.set _ _ l2) | (obtain ⟨⟨y2, e2, l2⟩, e1⟩ := haf; simp [opYield_def, yieldUpon, yielded, relAct, dstAt, Act.put, Region.wanted, go_sem, hC, isU_mk, isB_mk, *]; exact hC.set _ _ l2)
                · simp at hio; subst hio; simp [bindD, rdB, Region.binds] at haf; simp [opYield_def, yieldUpon, yielded, relAct, dstAt, Act.put, Region.wanted, go_sem, hC, isU_mk, isB_mk, *]
                · simp at hio; subst hio; simp [bindD, rdB, Region.binds] at haf; first | (obtain ⟨e1, y2, e2, l2⟩ := haf; simp [opYield_def, yieldUpon, yielded, relAct, dstAt, Act.put, Region.wanted, go_sem, hC, isU_mk, isB_mk, *]; exact hC.set _ _ l2) | (obtain ⟨⟨y2, e2, l2⟩, e1⟩ := haf; simp [opYield_def, yieldUpon, yielded, relAct, dstAt, Act.put, Region.wanted, go_sem, hC, isU_mk, isB_mk, *]; exact hC.set _ _ l2)
                · exfalso; simp at hio
              · intro vals W ac hC hF hac
                simp [relAct, dstAt, Act.put] at hac
                subst hac
                clear hF
                have hwD := hC.drew
                go_wp2_with fail
                exact ⟨⟨k, by go_num, by omega, hC⟩, by simp [intOf]⟩
        · refine wp_seq ?_
          refine wp_seq ?_
          refine wp_region_c mixed0 (by kernel_rfl) (CW w g n) hwD [(· = .int .i64 (j)), (· = .int .i64 (a)), (· = .bool false), (· = .bool false), fun _ => True, fun _ => True, fun _ => True, fun _ => True, fun _ => True, fun _ => True, fun _ => True, fun _ => True, fun _ => True, fun _ => True, (· = .bool false)] ?_ ?_
          · intro i q hio vals W hC haf
            have r0 : ¬ (a : Int) < (j : Int) := by first | omega | exact IntWalk.i64_in _ (by omega) | go_num
            rcases i with _ | _ | _ | _ | _ | _ | _ | _ | _ | _ | _ | _ | _ | _ | _ | i
            · simp at hio; subst hio; simp [bindD, rdB, Region.binds] at haf; simp [opYield_def, yieldUpon, yielded, relAct, dstAt, Act.put, Region.wanted, go_sem, hC, isU_mk, isB_mk, *]
            · simp at hio; subst hio; simp [bindD, rdB, Region.binds] at haf; simp [opYield_def, yieldUpon, yielded, relAct, dstAt, Act.put, Region.wanted, go_sem, hC, isU_mk, isB_mk, *]
            · simp at hio; subst hio; simp [bindD, rdB, Region.binds] at haf; simp [opYield_def, yieldUpon, yielded, relAct, dstAt, Act.put, Region.wanted, go_sem, hC, isU_mk, isB_mk, *]
            · simp at hio; subst hio; simp [bindD, rdB, Region.binds] at haf; simp [opYield_def, yieldUpon, yielded, relAct, dstAt, Act.put, Region.wanted, go_sem, hC, isU_mk, isB_mk, *]
            · simp at hio; subst hio; simp [bindD, rdB, Region.binds] at haf; simp [opYield_def, yieldUpon, yielded, relAct, dstAt, Act.put, Region.wanted, go_sem, hC, isU_mk, isB_mk, *]
            · simp at hio; subst hio; simp [bindD, rdB, Region.binds] at haf; simp [opYield_def, yieldUpon, yielded, relAct, dstAt, Act.put, Region.wanted, go_sem, hC, isU_mk, isB_mk, *]
            · simp at hio; subst hio; simp [bindD, rdB, Region.binds] at haf; simp [opYield_def, yieldUpon, yielded, relAct, dstAt, Act.put, Region.wanted, go_sem, hC, isU_mk, isB_mk, *]
            · simp at hio; subst hio; simp [bindD, rdB, Region.binds] at haf; simp [opYield_def, yieldUpon, yielded, relAct, dstAt, Act.put, Region.wanted, go_sem, hC, isU_mk, isB_mk, *]
            · simp at hio; subst hio; simp [bindD, rdB, Region.binds] at haf; simp [opYield_def, yieldUpon, yielded, relAct, dstAt, Act.put, Region.wanted, go_sem, hC, isU_mk, isB_mk, *]
            · simp at hio; subst hio; simp [bindD, rdB, Region.binds] at haf; simp [opYield_def, yieldUpon, yielded, relAct, dstAt, Act.put, Region.wanted, go_sem, hC, isU_mk, isB_mk, *]
            · simp at hio; subst hio; simp [bindD, rdB, Region.binds] at haf; simp [opYield_def, yieldUpon, yielded, relAct, dstAt, Act.put, Region.wanted, go_sem, hC, isU_mk, isB_mk, *]
            · simp at hio; subst hio; simp [bindD, rdB, Region.binds] at haf; simp [opYield_def, yieldUpon, yielded, relAct, dstAt, Act.put, Region.wanted, go_sem, hC, isU_mk, isB_mk, *]
            · simp at hio; subst hio; simp [bindD, rdB, Region.binds] at haf; simp [opYield_def, yieldUpon, yielded, relAct, dstAt, Act.put, Region.wanted, go_sem, hC, isU_mk, isB_mk, *]
            · simp at hio; subst hio; simp [bindD, rdB, Region.binds] at haf; simp [opYield_def, yieldUpon, yielded, relAct, dstAt, Act.put, Region.wanted, go_sem, hC, isU_mk, isB_mk, *]
            · simp at hio; subst hio; simp [bindD, rdB, Region.binds] at haf; first | (simp [opYield_def, yieldUpon, yielded, relAct, dstAt, Act.put, Region.wanted, go_sem, hC, isU_mk, isB_mk, *]; done) | (obtain ⟨y, e1⟩ := haf; simp [opYield_def, yieldUpon, yielded, relAct, dstAt, Act.put, Region.wanted, go_sem, hC, isU_mk, isB_mk, *]; done) | (obtain ⟨⟨y, e1⟩, e2⟩ := haf; simp [opYield_def, yieldUpon, yielded, relAct, dstAt, Act.put, Region.wanted, go_sem, hC, isU_mk, isB_mk, *]; done) | (obtain ⟨e2, ⟨y, e1⟩⟩ := haf; simp [opYield_def, yieldUpon, yielded, relAct, dstAt, Act.put, Region.wanted, go_sem, hC, isU_mk, isB_mk, *]; done)
            · exfalso; simp at hio
          · intro vals W ac hC hF hac
            have ho : vals 14 = .bool false := hF 14 (by show 14 < 15; omega)
            simp [relAct, dstAt, Act.put] at hac
            rw [ho] at hac
            subst hac
            clear hF
            have hwD := hC.drew
            go_wp2_with fail
            exact ⟨⟨i + 1, by go_num, by omega, by omega, hC⟩, by simp [intOf]; omega⟩
    · go_wp2_with fail
      refine bodyPost_end (results_none rfl _ _ _) rfl ?_
      exact ⟨rfl, hw⟩
end Nm
end Go.Proofs.YtkeimgamjnpcbaaGreat
