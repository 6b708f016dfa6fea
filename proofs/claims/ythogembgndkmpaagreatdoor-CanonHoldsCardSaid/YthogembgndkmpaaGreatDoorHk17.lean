/-
  Texts merged by a program (Nodes, Seat, Seat2, PutT, Rec, Seat3, Seat4).
-/
import Derived.Test.YthogembgndkmpaaGreatDoorHk1
import Derived.Test.YthogembgndkmpaaGreatDoorHk2
import Derived.Test.YthogembgndkmpaaGreatDoorHk3
import Derived.Test.YthogembgndkmpaaGreatDoorHk5
import Derived.Test.YthogembgndkmpaaGreatDoorHk8
import Derived.Test.YthogembgndkmpaaGreatDoorHk9
import Derived.Test.YthogembgndkmpaaGreatDoorHk13
set_option linter.unusedSimpArgs false
set_option linter.unusedVariables false
/- signetref7.Nodes, at height 2. -/
namespace Go.Proofs.YthogembgndkmpaaGreatDoor
open Go.RowKit
namespace W
/-- a level's first nodes -/
def nds (seed : List UInt8) (j k : Nat) : List UInt8 := (List.range k).flatMap (node ks0 seed j)
theorem nds_succ (seed : List UInt8) (j k : Nat) : nds seed j (k + 1) = nds seed j k ++ node ks0 seed j k := by
  unfold nds
  rw [List.range_succ, List.flatMap_append]
  simp
theorem nds_len (seed : List UInt8) (j : Nat) : ∀ k, (nds seed j k).length = 8 * k
  | 0 => rfl
  | k + 1 => by rw [nds_succ, List.length_append, nds_len seed j k, node_len]; omega
theorem info_a8 : (Tryz.prog.info? 23).map (fun i => (i.zero, i.size, i.bytes)) = some (some (.agg (List.replicate 8 (Value.int .u8 0)).toArray), 8, 8) := by kernel_rfl
set_option maxRecDepth 100000 in
set_option maxHeartbeats 4000000 in
theorem build8 (x : Operand) (ev : Operand → Value) (o : Oper) (ho : o.op = .buildSlice 37 1 #[(0, x)]) (l : List UInt8) (h : l.length = 8) (hx : ev x = .agg (l.map byteV).toArray) (w : World) :
    (execOp ev o).run Tryz.prog w = .ok (.value (.slice (some ⟨w.heap.size, 0, none⟩) 1 1)) (w.alloc (.cells (l.map byteV).toArray 23)) := by
  obtain ⟨x0, x1, x2, x3, x4, x5, x6, x7, rfl⟩ := eight l h
  unfold execOp
  simp [ho, hx, go_sem, byteV]
theorem wpList_build8 {ops : Array Oper} {rest : List Oper} {o : Oper} {a : Act} {w : World} {Q : Exit → Act → World → Prop} (hgd : o.guard = none) (x : Operand) (ho : o.op = .buildSlice 37 1 #[(0, x)]) {l : List UInt8} (hl : l.length = 8) (hx : a.eval x = .agg (l.map byteV).toArray)
    (h : wpList Tryz.prog ops Q rest (a.put o.dst (.slice (some ⟨w.heap.size, 0, none⟩) 1 1)) (w.alloc (.cells (l.map byteV).toArray 23))) : wpList Tryz.prog ops Q (o :: rest) a w := by
  refine wpList_plain hgd fun K hK => ?_
  unfold Oper.wp
  rw [build8 x a.eval o ho l hl hx w]
  exact hK _ _ h
theorem yield_build8 {ops : Array Oper} {o : Oper} {a : Act} {W : World} {R : Value → World → Prop} (hgd : o.guard = none) (x : Operand) (ho : o.op = .buildSlice 37 1 #[(0, x)]) {l : List UInt8} (hl : l.length = 8) (hx : a.eval x = .agg (l.map byteV).toArray)
    (h : R (.slice (some ⟨W.heap.size, 0, none⟩) 1 1) (W.alloc (.cells (l.map byteV).toArray 23))) : opYield Tryz.prog ops o a W R := by
  have hw : Region.wanted o (yielded ops a.tmps) = true := by simp [Region.wanted, hgd]
  rw [opYield_def, if_pos hw, build8 x a.eval o ho l hl hx W]
  exact h
theorem own_many {w : World} {B size : Nat} {e : TypeId} {v : Value} {n : Nat} {xs : List Value} (h : w.ownsRow B e size v n xs) (hn : 0 < n) : ∃ g c, v = .slice (some ⟨g, 0, none⟩) n c ∧ B ≤ g ∧ g < w.heap.size ∧ n ≤ c ∧ c ≤ maxLen ∧ Cs w (some ⟨g, 0, none⟩) xs := by
  obtain ⟨hl, h2⟩ := h
  rcases h2 with ⟨rfl, rfl⟩ | ⟨g, cap, cur, rfl, hg, hh, hn2, hcap, hsz, htake⟩
  · omega
  · refine ⟨g, cap, rfl, hg, lt_block hh, hn2, hcap, fun i u hu => ⟨g, 0, rfl, lt_block hh, ?_⟩⟩
    have hi : i < n * size := by
      rcases Nat.lt_or_ge i xs.length with h | h
      · omega
      · rw [List.getElem?_eq_none h] at hu; cases hu
    rw [Nat.zero_add, cell_of_row _ _ _ _ _ _ hh]
    rw [← htake, List.getElem?_take_of_lt hi] at hu
    simpa using hu
theorem yield_load_mid {P : Program} {ops : Array Oper} {o : Oper} {a : Act} {W : World} {R : Value → World → Prop} {ty : TypeId} {x : Operand} {b off : Nat} {cs : List Value} {d : TypeDesc} (hgd : o.guard = none) (ho : o.op = .load ty x) (hx : a.eval x = .pointer (some ⟨b, off, none⟩)) (hc : W.rangeAt b off cs)
    (hu : P.underlying ty = some d) (hd : d.isRow = true) (hi : (P.info? ty).map (·.size) = some cs.length) (h : R (.agg cs.toArray) W) : opYield P ops o a W R := by
  have hw : Region.wanted o (yielded ops a.tmps) = true := by simp [Region.wanted, hgd]
  rw [opYield_def, if_pos hw]
  unfold execOp
  simp only [ho, hx, Instr.loadAt, Instr.sureAddr, Sem.run_bind, Sem.run_pure, Result.andThen_ok, run_loadVar_mid W b off ty cs d hc hu hd hi]
  exact h
/-- append of one element of eight bytes, laid just before, in a region that draws -/
theorem yield_push8 {ops : Array Oper} {o : Oper} {a : Act} {W : World} {R : Value → World → Prop} (hgd : o.guard = none) (sl x : Operand) {t : TypeId} (ht : Tryz.prog.underlying t = some (.slice 23))
    (ho : o.op = .call { callee := .builtin .append, args := #[sl, x], argTypes := #[t, t] }) {B : Nat} {v : Value} {n : Nat} {xs us : List Value} (hs : a.eval sl = v) (hown : W.ownsRow B 23 8 v n xs) (hB : B ≤ W.heap.size)
    {b : Addr} {c : Nat} (hx : a.eval x = .slice (some b) 1 c) (hul : us.length = 8) (hcs : Cs W (some b) us) (h1 : ∀ u ∈ us, u.oneCell' = true) (hn : n ≤ 1000000)
    (h : ∀ v' W', W'.ownsRow B 23 8 v' (n + 1) (xs ++ us) → Below B W W' → R v' W') : opYield Tryz.prog ops o a W R := by
  obtain ⟨i0, hi, hz0, hz1, hz2⟩ := info_parts info_a8
  have hw : Region.wanted o (yielded ops a.tmps) = true := by simp [Region.wanted, hgd]
  rw [opYield_def, if_pos hw]
  obtain ⟨v', W', hr, h2, h3, _⟩ := run_append_own (P := Tryz.prog) W B t o.type 23 i0 _ 8 8 ht hi hz0 hz1 hz2 rfl (by decide) v n xs hown b 1 c us (by omega) hcs.cells h1 (by unfold maxLen; omega) (by omega) hB
  unfold execOp
  simp only [ho, resolve, invoke, builtin, Sem.run_bind, Sem.run_pure, Result.andThen_ok, List.map_toArray, List.map_cons, List.map_nil, hs, hx, hr]
  exact h v' W' h2 ((Below.refl _ _).grown h3 hB (fun k hk => (hown.lt k hk).1))
theorem nds_at (seed : List UInt8) (j : Nat) : ∀ n i, i < n → ((nds seed j n).drop (8 * i)).take 8 = node ks0 seed j i
  | 0, i, h => by omega
  | n + 1, i, h => by
    rw [nds_succ]
    have hl := nds_len seed j n
    have hn := node_len ks0 seed j n
    by_cases hin : i < n
    · rw [List.drop_append_of_le_length (by omega), List.take_append_of_le_length (by rw [List.length_drop]; omega), nds_at seed j n i hin]
    · obtain rfl : i = n := by omega
      rw [List.drop_append_of_le_length (by omega), List.drop_eq_nil_of_le (by omega), List.nil_append, List.take_of_length_le (by omega)]
theorem nds_range {w : World} {g : Nat} {seed : List UInt8} {j n i : Nat} (h : Cs w (some ⟨g, 0, none⟩) ((nds seed j n).map byteV)) (hi : i < n) : w.rangeAt g (8 * i) ((node ks0 seed j i).map byteV) := by
  have hl := nds_len seed j n
  have h1 := (h.drop' (8 * i) (8 * n + 1) (by rw [List.length_map]; omega)).take' 8
  rw [if_neg (by omega), Option.map_some, add_plain, ← List.map_drop, ← List.map_take, nds_at seed j n i hi, Nat.zero_add] at h1
  exact Cs.range h1
theorem node_up (seed : List UInt8) (j i : Nat) : node ks0 seed (j + 1) i = short ks0 4 [node ks0 seed j (2 * i), node ks0 seed j (2 * i + 1)] := rfl
def oneF (l : List UInt8) : Fact := ⟨fun v W => ∃ b, v = .slice (some ⟨b, 0, none⟩) 1 1 ∧ Cs W (some ⟨b, 0, none⟩) (l.map byteV), by
  intro v W W' hE h
  obtain ⟨b, h1, h2⟩ := h
  exact ⟨b, h1, h2.below hE⟩⟩
def InR (seed : List UInt8) (lev m B : Nat) (V : World) (v i : Value) (wr : World) : Prop := ∃ k : Nat, k ≤ m ∧ i = .int .i64 ((2 * k : Nat) : Int) ∧ wr.ownsRow B 23 8 v k ((nds seed lev k).map byteV) ∧ Below B V wr
theorem info_r8 : (Tryz.prog.info? 37).map (fun i => (i.zero, i.size, i.bytes)) = some (some (.slice none 0 0), 1, 24) := by kernel_rfl
def NdR (seed : List UInt8) (B : Nat) (V : World) (v i : Value) (wr : World) : Prop := ∃ k : Nat, k ≤ 4 ∧ i = .int .i64 (k : Int) ∧ wr.ownsRow B 23 8 v k ((nds seed 0 k).map byteV) ∧ Below B V wr
set_option maxRecDepth 100000 in
set_option maxHeartbeats 20000000 in
theorem NodesR (cs : Array Value) (seed : List UInt8) (Rs : Row8 cs seed) (w : World) :
    Calls Tryz.prog 6 #[.agg cs, .int .i64 2] w fun e w' => ∃ (A : Addr) (c g0 c0 g1 c1 g2 c2 : Nat), e = .returned (.slice (some A) 3 c) ∧ Cs w' (some A) [.slice (some ⟨g0, 0, none⟩) 4 c0, .slice (some ⟨g1, 0, none⟩) 2 c1, .slice (some ⟨g2, 0, none⟩) 1 c2] ∧
      Cs w' (some ⟨g0, 0, none⟩) ((nds seed 0 4).map byteV) ∧ Cs w' (some ⟨g1, 0, none⟩) ((nds seed 1 2).map byteV) ∧ Cs w' (some ⟨g2, 0, none⟩) ((nds seed 2 1).map byteV) ∧ Below w.heap.size w w' := by
  obtain ⟨i8, hi, hz0, hz1, hz2⟩ := info_parts info_a8
  obtain ⟨ir, ri, rz0, rz1, rz2⟩ := info_parts info_r8
  have hsa : (w.alloc (.cells cs 23)).heap[w.heap.size]? = some (.cells cs 23 (0, 0)) := heap_alloc_new w _
  have hb1 : Below w.heap.size w (w.alloc (.cells cs 23)) := (Below.refl _ _).alloc (Nat.le_refl _) _
  have hs2 : (w.alloc (.cells cs 23)).heap.size = w.heap.size + 1 := by simp
  go_enter Tryz.func6, Tryz.ntmps6
  go_wp2_with fail
  generalize w.alloc (.cells cs 23) = W1 at *
  have H1 := Lib.hid (And.intro hsa hb1)
  clear hsa hb1
  go_loopw [5, 6] (fun v i wr => NdR seed (w.heap.size + 1) W1 v i wr) (fun _ i _ => 4 - (intOf i).toNat)
  case atStart => exact ⟨0, Nat.zero_le _, rfl, World.ownsRow_nil _ _ _ _, Below.refl _ _⟩
  case round =>
    obtain ⟨k, hk, rfl, hown, hbel⟩ := hrel
    have hB0 : w.heap.size + 1 ≤ wr.heap.size := by have := hbel.size; omega
    by_cases hlt : k < 4
    · have hsd : wr.heap[w.heap.size]? = some (.cells cs 23 (0, 0)) := (hbel.block _ (by omega)).trans H1.out.1
      have HP : Hid (Calls Tryz.prog 21 #[.agg cs, .int .u32 (k : Int)] wr fun e w' => e = .returned (.agg ((node ks0 seed 0 k).map byteV).toArray) ∧ Below wr.heap.size wr w') := Lib.hid (PublicR cs seed Rs k (by omega) wr)
      have R1 : Row8 ((node ks0 seed 0 k).map byteV).toArray (node ks0 seed 0 k) := ⟨rfl, node_len _ _ _ _⟩
      have HS := Lib.hid (nds_succ seed 0 k)
      have HX := Lib.hid (And.intro hown hbel)
      clear hown hbel
      generalize node ks0 seed 0 k = nd at *
      have lk : ((k : Int) % 4294967296) = (k : Int) := by omega
      go_wp2_with (first
        | (refine wpList_load_row rfl 23 (.tmp 2) rfl w.heap.size rfl 23 cs (0, 0) _ hsd Tryz.underlying23 rfl Rs.info ?_))
      refine HP.out.mono ?_
      rintro e w1 ⟨rfl, hb1⟩
      have hown1 := own_below HX.out.1 hb1
      have hB1 := Nat.le_trans hB0 hb1.size
      go_wp2_with (first
        | (refine wpList_build8 rfl (.tmp 20) rfl R1.len rfl ?_)
        | (at_builtin; refine wpList_push3 hown1 hB1 (nd.map byteV) (by rw [List.length_map, R1.len]) (byteV_one nd) hi hz0 hz1 hz2 rfl (by decide) rfl (.tmp 16) (.tmp 21) 37 Tryz.underlying37 rfl rfl rfl (by unfold maxLen; omega) (by omega) ?_; intro v3 w3 hown3 hm3))
      refine ⟨⟨k + 1, by omega, by go_num, by rw [HS.out, List.map_append]; exact hown3, (HX.out.2.trans (hb1.mono hB0)).trans (hm3.below hown1 hB1)⟩, by simp [intOf]; omega⟩
    · have hk4 : k = 4 := by omega
      subst hk4
      generalize hwN : wr = wn at *
      clear hwN
      obtain ⟨g0, c0, rfl, hg0, hg0w, hc0, hc0m, hcs0⟩ := own_many hown (by omega)
      have hbw := H1.out.2.trans (hbel.mono (Nat.le_succ _))
      have HL0 := Lib.hid (And.intro hcs0 (And.intro hbw hg0w))
      clear hown hbel hcs0 hbw
      go_wp2_with fail
      refine wp_loop_rounds 3 ?_
      rw [rounds_succ]
      have hba : Below wn.heap.size wn (wn.alloc (.cells #[.slice (some ⟨g0, 0, none⟩) 4 c0] 37)) := (Below.refl _ _).alloc (Nat.le_refl _) _
      have hoa : (wn.alloc (.cells #[.slice (some ⟨g0, 0, none⟩) 4 c0] 37)).ownsRow wn.heap.size 37 1 (.slice (some ⟨wn.heap.size, 0, none⟩) 1 1) 1 [.slice (some ⟨g0, 0, none⟩) 4 c0] := Nm.own_rowC wn wn.heap.size 37 [.slice (some ⟨g0, 0, none⟩) 4 c0] (Nat.le_refl _) (by simp)
      have hza : (wn.alloc (.cells #[.slice (some ⟨g0, 0, none⟩) 4 c0] 37)).heap.size = wn.heap.size + 1 := by simp
      have HA := Lib.hid (And.intro hba (And.intro hoa (HL0.out.1.below hba)))
      go_wp2_with fail
      generalize wn.alloc (.cells #[.slice (some ⟨g0, 0, none⟩) 4 c0] 37) = Wa at *
      clear hba hoa
      have HG1 := Lib.hid HA.out.2.2
      have hgw : g0 < Wa.heap.size := by omega
      go_loopw [8, 9] (fun v i wq => InR seed 1 2 Wa.heap.size Wa v i wq) (fun _ i _ => 4 - (intOf i).toNat)
      case atStart => exact ⟨0, Nat.zero_le _, rfl, World.ownsRow_nil _ _ _ _, Below.refl _ _⟩
      case round =>
        obtain ⟨k, hk, rfl, hown, hbel⟩ := hrel
        generalize hqq : wr = wq at *
        clear hqq
        have hBq : Wa.heap.size ≤ wq.heap.size := hbel.size
        by_cases hlt : k < 2
        · have hcq := HG1.out.below hbel
          have r1 : wq.rangeAt g0 (8 * (2 * k)) ((node ks0 seed 0 (2 * k)).map byteV) := nds_range hcq (by omega)
          have r2 : wq.rangeAt g0 (8 * (2 * k + 1)) ((node ks0 seed 0 (2 * k + 1)).map byteV) := nds_range hcq (by omega)
          have HRG : Hid (∀ W, Below Wa.heap.size wq W → W.rangeAt g0 (8 * (2 * k)) ((node ks0 seed 0 (2 * k)).map byteV) ∧ W.rangeAt g0 (8 * (2 * k + 1)) ((node ks0 seed 0 (2 * k + 1)).map byteV)) := Lib.hid (fun W hW => by
            have hcW : Cs W (some ⟨g0, 0, none⟩) ((nds seed 0 4).map byteV) := HG1.out.below (hbel.trans hW)
            exact ⟨nds_range hcW (by omega), nds_range hcW (by omega)⟩)
          have Ra : Row8 ((node ks0 seed 0 (2 * k)).map byteV).toArray (node ks0 seed 0 (2 * k)) := ⟨rfl, node_len _ _ _ _⟩
          have Rb : Row8 ((node ks0 seed 0 (2 * k + 1)).map byteV).toArray (node ks0 seed 0 (2 * k + 1)) := ⟨rfl, node_len _ _ _ _⟩
          have HS : Hid ((nds seed 1 (k + 1)).map byteV = (nds seed 1 k).map byteV ++ (node ks0 seed 1 k).map byteV) := Lib.hid (by show _ = _; rw [nds_succ, List.map_append])
          have HU : Hid (∀ W, Calls Tryz.prog 22 #[.agg ((node ks0 seed 0 (2 * k)).map byteV).toArray, .agg ((node ks0 seed 0 (2 * k + 1)).map byteV).toArray] W fun e w' => e = .returned (.agg ((node ks0 seed 1 k).map byteV).toArray) ∧ Below W.heap.size W w') := Lib.hid (fun W => UpR _ _ _ _ Ra Rb W)
          have hln := node_len ks0 seed 1 k
          have hla : ((node ks0 seed 0 (2 * k)).map byteV).length = 8 := by rw [List.length_map, node_len]
          have hlb : ((node ks0 seed 0 (2 * k + 1)).map byteV).length = 8 := by rw [List.length_map, node_len]
          have HX := Lib.hid (And.intro hown hbel)
          clear hown hbel r1 r2 hcq Ra Rb
          generalize node ks0 seed 0 (2 * k) = na at *
          generalize node ks0 seed 0 (2 * k + 1) = nb at *
          generalize node ks0 seed 1 k = nu at *
          have e1 : ((2 * k : Nat) : Int) = 2 * (k : Int) := by omega
          have i1 : (2 * (k : Int)) < 4 := by omega
          have i2 : (2 * (k : Int)) + 1 < 4 := by omega
          have i0 : (0 : Int) ≤ 2 * (k : Int) := by omega
          have i0' : (0 : Int) ≤ 2 * (k : Int) + 1 := by omega
          have t1 : (2 * (k : Int)).toNat * 8 = 8 * (2 * k) := by omega
          have t2 : (2 * (k : Int) + 1).toNat * 8 = 8 * (2 * k + 1) := by omega
          have pw : IntKind.i64.wrap (2 * (k : Int) + 1) = 2 * (k : Int) + 1 := by rw [IntKind.wrap_i64]; omega
          have HQO : Hid (wq.ownsRow Wa.heap.size 23 8 u8 k ((nds seed 1 k).map byteV)) := Lib.hid HX.out.1
          go_wp2_with fail
          have h6 := HX.out.1
          refine wp_region_x (by kernel_rfl) (by kernel_rfl) Wa.heap.size hBq [.c (.is u8), .c (.is (.slice (some ⟨g0, 0, none⟩) 4 c0)), .c (.is (.int .i64 (2 * (k : Int)))), .c (.is (.pointer (some ⟨g0, 8 * (2 * k), none⟩))), .c (.is (.agg (na.map byteV).toArray)),
            .c (.is (.slice (some ⟨g0, 0, none⟩) 4 c0)), .c (.is (.int .i64 (2 * (k : Int)))), .c (.is (.int .i64 (2 * (k : Int) + 1))), .c (.is (.pointer (some ⟨g0, 8 * (2 * k + 1), none⟩))), .c (.is (.agg (nb.map byteV).toArray)), .c (.is (.agg (nu.map byteV).toArray)),
            .c (oneF nu), .c (.own Wa.heap.size 23 8 (k + 1) ((nds seed 1 k).map byteV ++ nu.map byteV)), .d [12] (fun vs => .is (vs 12))] (by kernel_rfl) (fun i => if i = 12 then 3 else 0) (fun j => if j = 11 ∨ j = 12 then 3 else 0) (by kernel_rfl) ?_
            (fun W' => W'.ownsRow Wa.heap.size 23 8 u8 k ((nds seed 1 k).map byteV)) h6 (fun W W' hE h => own_below h hE) (fun W' W'' hE h => Kept.row h (Kept.of_below hE) (fun b hb e => by have := (h6.lt b hb).2; omega)) ?_ ?_
          · intro j vals
            rcases j with _ | _ | _ | _ | _ | _ | _ | _ | _ | _ | _ | _ | _ | _ | j
            all_goals first
              | exact plain_is _
              | exact trivial
              | (rw [if_neg (by omega)]; exact plain_any)
          · intro i o hio vals W' hC haf hI0
            have hBW' := Nat.le_trans hBq hC.size
            obtain ⟨r1, r2⟩ := HRG.out W' hC
            rcases i with _ | _ | _ | _ | _ | _ | _ | _ | _ | _ | _ | _ | _ | _ | i
            all_goals first
              | (exfalso; simp at hio; done)
              | skip
            all_goals
              simp at hio
              subst hio
              simp [bindD, rdB, Region.binds, dfAt, DF.d_at] at haf
            all_goals first
              | (simp [opYield_def, yieldUpon, relAct, dstAt, Act.put, Region.wanted, go_sem, haf, i1, i2, i0, i0', t1, t2, pw, Ext.refl, dfAt, DF.d_at, kindX]; done)
              | skip
            · refine yield_load_mid (d := .array 8 5) (b := g0) (off := 8 * (2 * k)) (cs := na.map byteV) rfl rfl (by simp [relAct, dstAt, Act.put, Act.eval, haf]) r1 Tryz.underlying23 rfl (by rw [hla]; exact hi8) ?_
              exact ⟨Ext.refl _, rfl⟩
            · refine yield_load_mid (d := .array 8 5) (b := g0) (off := 8 * (2 * k + 1)) (cs := nb.map byteV) rfl rfl (by simp [relAct, dstAt, Act.put, Act.eval, haf]) r2 Tryz.underlying23 rfl (by rw [hlb]; exact hi8) ?_
              exact ⟨Ext.refl _, rfl⟩
            · simp [opYield_def, yieldUpon, relAct, dstAt, Act.put, Region.wanted, go_sem, haf, dfAt, DF.d_at, kindX]
              refine (HU.out W').mono fun e W'' h5 => ?_
              exact ⟨h5.1, h5.2⟩
            · refine yield_build8 rfl (.tmp 44) rfl hln (by simp [relAct, dstAt, Act.put, Act.eval, haf]) ?_
              have hal := heap_alloc_new W' (.cells (nu.map byteV).toArray 23)
              refine ⟨(Below.refl _ _).alloc (Nat.le_refl _) _, W'.heap.size, rfl, fun j v hj => ⟨_, _, rfl, lt_block hal, ?_⟩⟩
              rw [Nat.zero_add, cell_of_row _ _ _ _ _ _ hal]
              simpa using hj
            · obtain ⟨h0, h11⟩ := haf
              obtain ⟨b, hb, hcb⟩ := h11
              have hI := hI0 (fun k hk hk2 => by
                by_cases h12 : k = 12
                · exact .inl h12
                · exfalso; simp [h12] at hk2)
              refine yield_push8 rfl (.tmp 34) (.tmp 45) Tryz.underlying37 rfl (v := u8) (by simp [relAct, dstAt, Act.put, Act.eval, h0]) hI hBW' (b := ⟨b, 0, none⟩) (c := 1) (us := nu.map byteV) (by simp [relAct, dstAt, Act.put, Act.eval, hb]) (by rw [List.length_map, hln]) hcb (byteV_one nu) (by omega) ?_
              intro v' W'' q1 q2
              exact ⟨q2, q1⟩
          · intro vals W' hC hF
            have h12 := hF 12 (by show 12 < 14; omega) (by kernel_rfl)
            have h13 := hF 13 (by show 13 < 14; omega) (by kernel_rfl)
            simp only [dfAt, DF.d_at] at h12 h13
            have h12 : W'.ownsRow Wa.heap.size 23 8 (vals 12) (k + 1) ((nds seed 1 k).map byteV ++ nu.map byteV) := h12
            have h13 : vals 13 = vals 12 := by simpa [DF.d_at] using h13
            have hN : InR seed 1 2 Wa.heap.size Wa (vals 12) (.int .i64 (2 * (k : Int) + 2)) W' := ⟨k + 1, hlt, by congr 1, by rw [HS.out]; exact h12, HX.out.2.trans hC⟩
            simp [relAct, dstAt, Act.put]
            rw [h13]
            have HN := Lib.hid hN
            clear hF h12 h13 hN
            generalize vals 0 = y0 at *
            generalize vals 1 = y1 at *
            generalize vals 2 = y2 at *
            generalize vals 3 = y3 at *
            generalize vals 4 = y4 at *
            generalize vals 5 = y5 at *
            generalize vals 6 = y6 at *
            generalize vals 7 = y7 at *
            generalize vals 8 = y8 at *
            generalize vals 9 = y9 at *
            generalize vals 10 = y10 at *
            generalize vals 11 = y11 at *
            generalize vals 12 = y12 at *
            generalize vals 13 = y13 at *
            go_wp2_with fail
            refine ⟨?_, by simp [intOf]; omega⟩
            first
              | exact HN.out
              | ((repeat apply Exists.intro); exact ⟨HN.out, rfl⟩)
        · have hkM : k = 2 := by omega
          subst hkM
          obtain ⟨g1, c1, rfl, hg1, hg1w, hc1, hc1m, hcs1⟩ := own_many hown (by omega)
          have ho7 := own_below HA.out.2.1 hbel
          have hB7 : wn.heap.size ≤ wq.heap.size := by omega
          have HL1 := Lib.hid (And.intro hcs1 (And.intro hbel (HG1.out.below hbel)))
          clear hown hbel hcs1
          go_wp2_with (first
            | (at_builtin; refine wpList_push3 ho7 hB7 [.slice (some ⟨g1, 0, none⟩) 2 c1] rfl (by simp [Value.oneCell']) ri rz0 rz1 rz2 rfl (by decide) rfl (.tmp 47) (.tmp 49) 35 Tryz.underlying35 rfl rfl rfl (by unfold maxLen; omega) (by omega) ?_; intro vo1 wo1 howno1 hmo1))
          have hob1 : ∀ b, vo1.ownBlock = some b → b = wn.heap.size ∨ wq.heap.size ≤ b := fun b hb => by
            rcases hmo1.at_ b hb with h | h
            · cases h; exact .inl rfl
            · exact .inr h
          have hk0 := Kept.cs HL1.out.2.2 hmo1.kept (fun a ha _ e => by cases ha; have e2 : g0 = wn.heap.size := Option.some.inj e; omega)
          have hk1 := Kept.cs HL1.out.1 hmo1.kept (fun a ha _ e => by cases ha; have e2 : g1 = wn.heap.size := Option.some.inj e; omega)
          have hbo1 := (HL0.out.2.1.trans ((HA.out.1.trans (HL1.out.2.1.mono (show wn.heap.size ≤ Wa.heap.size by omega))).mono HL0.out.2.1.size)).trans (hmo1.below ho7 hB7 |>.mono HL0.out.2.1.size)
          have HO1 := Lib.hid (And.intro howno1 (And.intro hob1 (And.intro hk0 (And.intro hk1 hbo1))))
          have hzo1 : wq.heap.size ≤ wo1.heap.size := hmo1.kept.size
          have hzwq : Wa.heap.size ≤ wq.heap.size := hBq
          clear howno1 hob1 hk0 hk1 hbo1 hmo1 ho7 HG1 HL1 HA
          rw [rounds_succ]
          go_wp2_with fail
          have HG1 := Lib.hid HO1.out.2.2.2.1
          go_loopw [8, 9] (fun v i wq => InR seed 2 1 wo1.heap.size wo1 v i wq) (fun _ i _ => 2 - (intOf i).toNat)
          case atStart => exact ⟨0, Nat.zero_le _, rfl, World.ownsRow_nil _ _ _ _, Below.refl _ _⟩
          case round =>
            obtain ⟨k, hk, rfl, hown, hbel⟩ := hrel
            generalize hqq : wr = wq at *
            clear hqq
            have hBq : wo1.heap.size ≤ wq.heap.size := hbel.size
            by_cases hlt : k < 1
            · have hcq := HG1.out.below hbel
              have r1 : wq.rangeAt g1 (8 * (2 * k)) ((node ks0 seed 1 (2 * k)).map byteV) := nds_range hcq (by omega)
              have r2 : wq.rangeAt g1 (8 * (2 * k + 1)) ((node ks0 seed 1 (2 * k + 1)).map byteV) := nds_range hcq (by omega)
              have HRG : Hid (∀ W, Below wo1.heap.size wq W → W.rangeAt g1 (8 * (2 * k)) ((node ks0 seed 1 (2 * k)).map byteV) ∧ W.rangeAt g1 (8 * (2 * k + 1)) ((node ks0 seed 1 (2 * k + 1)).map byteV)) := Lib.hid (fun W hW => by
                have hcW : Cs W (some ⟨g1, 0, none⟩) ((nds seed 1 2).map byteV) := HG1.out.below (hbel.trans hW)
                exact ⟨nds_range hcW (by omega), nds_range hcW (by omega)⟩)
              have Ra : Row8 ((node ks0 seed 1 (2 * k)).map byteV).toArray (node ks0 seed 1 (2 * k)) := ⟨rfl, node_len _ _ _ _⟩
              have Rb : Row8 ((node ks0 seed 1 (2 * k + 1)).map byteV).toArray (node ks0 seed 1 (2 * k + 1)) := ⟨rfl, node_len _ _ _ _⟩
              have HS : Hid ((nds seed 2 (k + 1)).map byteV = (nds seed 2 k).map byteV ++ (node ks0 seed 2 k).map byteV) := Lib.hid (by show _ = _; rw [nds_succ, List.map_append])
              have HU : Hid (∀ W, Calls Tryz.prog 22 #[.agg ((node ks0 seed 1 (2 * k)).map byteV).toArray, .agg ((node ks0 seed 1 (2 * k + 1)).map byteV).toArray] W fun e w' => e = .returned (.agg ((node ks0 seed 2 k).map byteV).toArray) ∧ Below W.heap.size W w') := Lib.hid (fun W => UpR _ _ _ _ Ra Rb W)
              have hln := node_len ks0 seed 2 k
              have hla : ((node ks0 seed 1 (2 * k)).map byteV).length = 8 := by rw [List.length_map, node_len]
              have hlb : ((node ks0 seed 1 (2 * k + 1)).map byteV).length = 8 := by rw [List.length_map, node_len]
              have HX := Lib.hid (And.intro hown hbel)
              clear hown hbel r1 r2 hcq Ra Rb
              generalize node ks0 seed 1 (2 * k) = na at *
              generalize node ks0 seed 1 (2 * k + 1) = nb at *
              generalize node ks0 seed 2 k = nu at *
              have e1 : ((2 * k : Nat) : Int) = 2 * (k : Int) := by omega
              have i1 : (2 * (k : Int)) < 2 := by omega
              have i2 : (2 * (k : Int)) + 1 < 2 := by omega
              have i0 : (0 : Int) ≤ 2 * (k : Int) := by omega
              have i0' : (0 : Int) ≤ 2 * (k : Int) + 1 := by omega
              have t1 : (2 * (k : Int)).toNat * 8 = 8 * (2 * k) := by omega
              have t2 : (2 * (k : Int) + 1).toNat * 8 = 8 * (2 * k + 1) := by omega
              have pw : IntKind.i64.wrap (2 * (k : Int) + 1) = 2 * (k : Int) + 1 := by rw [IntKind.wrap_i64]; omega
              have HQO : Hid (wq.ownsRow wo1.heap.size 23 8 u8 k ((nds seed 2 k).map byteV)) := Lib.hid HX.out.1
              go_wp2_with fail
              have h6 := HX.out.1
              refine wp_region_x (by kernel_rfl) (by kernel_rfl) wo1.heap.size hBq [.c (.is u8), .c (.is (.slice (some ⟨g1, 0, none⟩) 2 c1)), .c (.is (.int .i64 (2 * (k : Int)))), .c (.is (.pointer (some ⟨g1, 8 * (2 * k), none⟩))), .c (.is (.agg (na.map byteV).toArray)),
                .c (.is (.slice (some ⟨g1, 0, none⟩) 2 c1)), .c (.is (.int .i64 (2 * (k : Int)))), .c (.is (.int .i64 (2 * (k : Int) + 1))), .c (.is (.pointer (some ⟨g1, 8 * (2 * k + 1), none⟩))), .c (.is (.agg (nb.map byteV).toArray)), .c (.is (.agg (nu.map byteV).toArray)),
                .c (oneF nu), .c (.own wo1.heap.size 23 8 (k + 1) ((nds seed 2 k).map byteV ++ nu.map byteV)), .d [12] (fun vs => .is (vs 12))] (by kernel_rfl) (fun i => if i = 12 then 3 else 0) (fun j => if j = 11 ∨ j = 12 then 3 else 0) (by kernel_rfl) ?_
                (fun W' => W'.ownsRow wo1.heap.size 23 8 u8 k ((nds seed 2 k).map byteV)) h6 (fun W W' hE h => own_below h hE) (fun W' W'' hE h => Kept.row h (Kept.of_below hE) (fun b hb e => by have := (h6.lt b hb).2; omega)) ?_ ?_
              · intro j vals
                rcases j with _ | _ | _ | _ | _ | _ | _ | _ | _ | _ | _ | _ | _ | _ | j
                all_goals first
                  | exact plain_is _
                  | exact trivial
                  | (rw [if_neg (by omega)]; exact plain_any)
              · intro i o hio vals W' hC haf hI0
                have hBW' := Nat.le_trans hBq hC.size
                obtain ⟨r1, r2⟩ := HRG.out W' hC
                rcases i with _ | _ | _ | _ | _ | _ | _ | _ | _ | _ | _ | _ | _ | _ | i
                all_goals first
                  | (exfalso; simp at hio; done)
                  | skip
                all_goals
                  simp at hio
                  subst hio
                  simp [bindD, rdB, Region.binds, dfAt, DF.d_at] at haf
                all_goals first
                  | (simp [opYield_def, yieldUpon, relAct, dstAt, Act.put, Region.wanted, go_sem, haf, i1, i2, i0, i0', t1, t2, pw, Ext.refl, dfAt, DF.d_at, kindX]; done)
                  | skip
                · refine yield_load_mid (d := .array 8 5) (b := g1) (off := 8 * (2 * k)) (cs := na.map byteV) rfl rfl (by simp [relAct, dstAt, Act.put, Act.eval, haf]) r1 Tryz.underlying23 rfl (by rw [hla]; exact hi8) ?_
                  exact ⟨Ext.refl _, rfl⟩
                · refine yield_load_mid (d := .array 8 5) (b := g1) (off := 8 * (2 * k + 1)) (cs := nb.map byteV) rfl rfl (by simp [relAct, dstAt, Act.put, Act.eval, haf]) r2 Tryz.underlying23 rfl (by rw [hlb]; exact hi8) ?_
                  exact ⟨Ext.refl _, rfl⟩
                · simp [opYield_def, yieldUpon, relAct, dstAt, Act.put, Region.wanted, go_sem, haf, dfAt, DF.d_at, kindX]
                  refine (HU.out W').mono fun e W'' h5 => ?_
                  exact ⟨h5.1, h5.2⟩
                · refine yield_build8 rfl (.tmp 44) rfl hln (by simp [relAct, dstAt, Act.put, Act.eval, haf]) ?_
                  have hal := heap_alloc_new W' (.cells (nu.map byteV).toArray 23)
                  refine ⟨(Below.refl _ _).alloc (Nat.le_refl _) _, W'.heap.size, rfl, fun j v hj => ⟨_, _, rfl, lt_block hal, ?_⟩⟩
                  rw [Nat.zero_add, cell_of_row _ _ _ _ _ _ hal]
                  simpa using hj
                · obtain ⟨h0, h11⟩ := haf
                  obtain ⟨b, hb, hcb⟩ := h11
                  have hI := hI0 (fun k hk hk2 => by
                    by_cases h12 : k = 12
                    · exact .inl h12
                    · exfalso; simp [h12] at hk2)
                  refine yield_push8 rfl (.tmp 34) (.tmp 45) Tryz.underlying37 rfl (v := u8) (by simp [relAct, dstAt, Act.put, Act.eval, h0]) hI hBW' (b := ⟨b, 0, none⟩) (c := 1) (us := nu.map byteV) (by simp [relAct, dstAt, Act.put, Act.eval, hb]) (by rw [List.length_map, hln]) hcb (byteV_one nu) (by omega) ?_
                  intro v' W'' q1 q2
                  exact ⟨q2, q1⟩
              · intro vals W' hC hF
                have h12 := hF 12 (by show 12 < 14; omega) (by kernel_rfl)
                have h13 := hF 13 (by show 13 < 14; omega) (by kernel_rfl)
                simp only [dfAt, DF.d_at] at h12 h13
                have h12 : W'.ownsRow wo1.heap.size 23 8 (vals 12) (k + 1) ((nds seed 2 k).map byteV ++ nu.map byteV) := h12
                have h13 : vals 13 = vals 12 := by simpa [DF.d_at] using h13
                have hN : InR seed 2 1 wo1.heap.size wo1 (vals 12) (.int .i64 (2 * (k : Int) + 2)) W' := ⟨k + 1, hlt, by congr 1, by rw [HS.out]; exact h12, HX.out.2.trans hC⟩
                simp [relAct, dstAt, Act.put]
                rw [h13]
                have HN := Lib.hid hN
                clear hF h12 h13 hN
                generalize vals 0 = y0 at *
                generalize vals 1 = y1 at *
                generalize vals 2 = y2 at *
                generalize vals 3 = y3 at *
                generalize vals 4 = y4 at *
                generalize vals 5 = y5 at *
                generalize vals 6 = y6 at *
                generalize vals 7 = y7 at *
                generalize vals 8 = y8 at *
                generalize vals 9 = y9 at *
                generalize vals 10 = y10 at *
                generalize vals 11 = y11 at *
                generalize vals 12 = y12 at *
                generalize vals 13 = y13 at *
                go_wp2_with fail
                refine ⟨?_, by simp [intOf]; omega⟩
                first
                  | exact HN.out
                  | ((repeat apply Exists.intro); exact ⟨HN.out, rfl⟩)
            · have hkM : k = 1 := by omega
              subst hkM
              obtain ⟨g2, c2, rfl, hg2, hg2w, hc2, hc2m, hcs2⟩ := own_many hown (by omega)
              have ho8 := own_below HO1.out.1 hbel
              have hB8 : wn.heap.size ≤ wq.heap.size := by omega
              have HL2 := Lib.hid (And.intro hcs2 (And.intro hbel (And.intro (HG1.out.below hbel) (HO1.out.2.2.1.below hbel))))
              clear hown hbel hcs2
              go_wp2_with (first
                | (at_builtin; refine wpList_push3 ho8 hB8 [.slice (some ⟨g2, 0, none⟩) 1 c2] rfl (by simp [Value.oneCell']) ri rz0 rz1 rz2 rfl (by decide) rfl (.tmp 47) (.tmp 49) 35 Tryz.underlying35 rfl rfl rfl (by unfold maxLen; omega) (by omega) ?_; intro vo2 wo2 howno2 hmo2))
              have hk0 : Cs wo2 (some ⟨g0, 0, none⟩) ((nds seed 0 4).map byteV) := Kept.cs HL2.out.2.2.2 hmo2.kept (fun a ha _ e => by
                cases ha
                rcases HO1.out.2.1 g0 e.symm with h | h <;> omega)
              have hk1 : Cs wo2 (some ⟨g1, 0, none⟩) ((nds seed 1 2).map byteV) := Kept.cs HL2.out.2.2.1 hmo2.kept (fun a ha _ e => by
                cases ha
                rcases HO1.out.2.1 g1 e.symm with h | h <;> omega)
              have hk2 : Cs wo2 (some ⟨g2, 0, none⟩) ((nds seed 2 1).map byteV) := Kept.cs HL2.out.1 hmo2.kept (fun a ha _ e => by
                cases ha
                have := (HO1.out.1.lt g2 e.symm).2
                omega)
              have hbo2 := (HO1.out.2.2.2.2.trans (HL2.out.2.1.mono HO1.out.2.2.2.2.size)).trans (hmo2.below ho8 hB8 |>.mono HL0.out.2.1.size)
              obtain ⟨A, c, rfl, _, hcA⟩ := Cs.of_own howno2
              have hAne := own_caps howno2 (by omega)
              obtain ⟨a, rfl⟩ : ∃ a, A = some a := by cases A with | none => exact absurd rfl hAne.2.2 | some a => exact ⟨a, rfl⟩
              have HFin := Lib.hid (And.intro hcA (And.intro hk0 (And.intro hk1 (And.intro hk2 hbo2))))
              clear hcA hk0 hk1 hk2 hbo2 howno2 hmo2 ho8 HL2 HO1 HG1 hAne
              rw [rounds_succ]
              go_wp2_with fail
              go_ret
              exact ⟨a, c, g0, c0, g1, c1, g2, c2, rfl, HFin.out⟩
end W
end Go.Proofs.YthogembgndkmpaaGreatDoor

/- Contracts of the laws' settings: Apex, Owner. -/
namespace Go.Proofs.YthogembgndkmpaaGreatDoor
open Go.RowKit
namespace Nm
def exL : Lab := [101, 120, 97, 109, 112, 108, 101]
theorem own_row (w : World) (B : Nat) (e : TypeId) (xs : List Value) (hB : B ≤ w.heap.size) (hl : xs.length ≤ 1000) : (w.alloc (.cells xs.toArray e)).ownsRow B e 1 (.slice (some ⟨w.heap.size, 0, none⟩) xs.length xs.length) xs.length xs :=
  ⟨by simp, .inr ⟨w.heap.size, xs.length, xs.toArray, rfl, hB, heap_alloc_new w _, Nat.le_refl _, by unfold maxLen; omega, by simp, by simp⟩⟩
theorem Apex (w : World) : Calls Tryz.prog 10 #[] w fun e w' => ∃ v, e = .returned v ∧ w'.ownsRow w.heap.size 9 1 v 1 ([exL].map strV) ∧ Below w.heap.size w w' := by
  go_enter Tryz.func10, Tryz.ntmps10
  go_wp2_with fail
  go_ret
  exact ⟨_, rfl, own_row w w.heap.size 9 ([exL].map strV) (Nat.le_refl _) (by simp), (Below.refl _ _).alloc (Nat.le_refl _) _⟩
/-- the owners of few numbers -/
def ownL : Nat → List Lab
  | 0 => []
  | 1 => [[97]]
  | 2 => [[98]]
  | 3 => [[99], [98]]
  | 4 => [[42], [119]]
  | 5 => [[120], [119]]
  | 6 => [[101], [102], [103]]
  | 7 => [[115, 117, 98]]
  | 8 => [[110, 115], [115, 117, 98]]
  | 9 => [[65]]
  | 10 => [[100, 101, 101, 112], [120], [119]]
  | 11 => [[122]]
  | _ => [[42]]
theorem ownL_len (m : Nat) : (ownL m).length ≤ 3 := by unfold ownL; split <;> decide
def owner (k : Nat) : List Lab := ownL (k % 13) ++ [exL]
theorem allocs_below : ∀ (os : List Obj) (w : World), Below w.heap.size w (os.foldl World.alloc w) ∧ (os.foldl World.alloc w).heap.size = w.heap.size + os.length
  | [], w => ⟨Below.refl _ _, rfl⟩
  | o :: os, w => by
    obtain ⟨h1, h2⟩ := allocs_below os (w.alloc o)
    rw [World.size_alloc] at h1 h2
    exact ⟨((Below.refl _ _).alloc (Nat.le_refl _) o).trans (h1.mono (by omega)), by rw [List.foldl_cons, h2, List.length_cons]; omega⟩
theorem allocs_cs : ∀ (os : List Obj) (w : World) (i : Nat) (xs : List Value) (T : TypeId), os[i]? = some (.cells xs.toArray T) → Cs (os.foldl World.alloc w) (some ⟨w.heap.size + i, 0, none⟩) xs
  | [], w, i, xs, T, h => by simp at h
  | o :: os, w, 0, xs, T, h => by
    simp at h
    subst h
    have := cs_new w T xs (0, 0)
    exact this.below (allocs_below os _).1
  | o :: os, w, i + 1, xs, T, h => by
    have := allocs_cs os (w.alloc o) i xs T (by simpa using h)
    rw [World.size_alloc, Nat.add_assoc, Nat.add_comm 1 i] at this
    exact this
set_option maxRecDepth 100000 in
set_option maxHeartbeats 4000000 in
theorem Owner (k : Nat) (hk : k < 256) (w : World) : Calls Tryz.prog 14 #[.int .u8 k] w fun e w' => ∃ v, e = .returned v ∧ w'.ownsRow w.heap.size 9 1 v (owner k).length ((owner k).map strV) ∧ Below w.heap.size w w' := by
  unfold owner
  obtain ⟨m, hm, hm2⟩ : ∃ m, k % 13 = m ∧ m < 13 := ⟨_, rfl, Nat.mod_lt _ (by omega)⟩
  have hrem : ((k : Int).tmod 13) = m := by rw [Int.tmod_eq_emod_of_nonneg (by omega)]; omega
  rw [hm]
  have HM := Lib.hid hm
  clear hm
  have htab : ([Value.slice (some ⟨w.heap.size, 0, none⟩) 0 0, Value.slice (some ⟨w.heap.size + 1, 0, none⟩) 1 1, Value.slice (some ⟨w.heap.size + 1 + 1, 0, none⟩) 1 1, Value.slice (some ⟨w.heap.size + 1 + 1 + 1, 0, none⟩) 2 2, Value.slice (some ⟨w.heap.size + 1 + 1 + 1 + 1, 0, none⟩) 2 2, Value.slice (some ⟨w.heap.size + 1 + 1 + 1 + 1 + 1, 0, none⟩) 2 2, Value.slice (some ⟨w.heap.size + 1 + 1 + 1 + 1 + 1 + 1, 0, none⟩) 3 3, Value.slice (some ⟨w.heap.size + 1 + 1 + 1 + 1 + 1 + 1 + 1, 0, none⟩) 1 1, Value.slice (some ⟨w.heap.size + 1 + 1 + 1 + 1 + 1 + 1 + 1 + 1, 0, none⟩) 2 2, Value.slice (some ⟨w.heap.size + 1 + 1 + 1 + 1 + 1 + 1 + 1 + 1 + 1, 0, none⟩) 1 1, Value.slice (some ⟨w.heap.size + 1 + 1 + 1 + 1 + 1 + 1 + 1 + 1 + 1 + 1, 0, none⟩) 3 3, Value.slice (some ⟨w.heap.size + 1 + 1 + 1 + 1 + 1 + 1 + 1 + 1 + 1 + 1 + 1, 0, none⟩) 1 1, Value.slice (some ⟨w.heap.size + 1 + 1 + 1 + 1 + 1 + 1 + 1 + 1 + 1 + 1 + 1 + 1, 0, none⟩) 1 1] : List Value)[m]'(by simpa using hm2) = .slice (some ⟨w.heap.size + m, 0, none⟩) (ownL m).length (ownL m).length := by
    match m, hm2 with
    | 0, _ => rfl
    | 1, _ => rfl
    | 2, _ => rfl
    | 3, _ => rfl
    | 4, _ => rfl
    | 5, _ => rfl
    | 6, _ => rfl
    | 7, _ => rfl
    | 8, _ => rfl
    | 9, _ => rfl
    | 10, _ => rfl
    | 11, _ => rfl
    | 12, _ => rfl
  have hcs := allocs_cs [Obj.cells #[] 9, Obj.cells #[Value.string { data := #[97] }] 9, Obj.cells #[Value.string { data := #[98] }] 9, Obj.cells #[Value.string { data := #[99] }, Value.string { data := #[98] }] 9, Obj.cells #[Value.string { data := #[42] }, Value.string { data := #[119] }] 9, Obj.cells #[Value.string { data := #[120] }, Value.string { data := #[119] }] 9, Obj.cells #[Value.string { data := #[101] }, Value.string { data := #[102] }, Value.string { data := #[103] }] 9, Obj.cells #[Value.string { data := #[115, 117, 98] }] 9, Obj.cells #[Value.string { data := #[110, 115] }, Value.string { data := #[115, 117, 98] }] 9, Obj.cells #[Value.string { data := #[65] }] 9, Obj.cells #[Value.string { data := #[100, 101, 101, 112] }, Value.string { data := #[120] }, Value.string { data := #[119] }] 9, Obj.cells #[Value.string { data := #[122] }] 9, Obj.cells #[Value.string { data := #[42] }] 9, .cells #[Value.slice (some ⟨w.heap.size, 0, none⟩) 0 0, Value.slice (some ⟨w.heap.size + 1, 0, none⟩) 1 1, Value.slice (some ⟨w.heap.size + 1 + 1, 0, none⟩) 1 1, Value.slice (some ⟨w.heap.size + 1 + 1 + 1, 0, none⟩) 2 2, Value.slice (some ⟨w.heap.size + 1 + 1 + 1 + 1, 0, none⟩) 2 2, Value.slice (some ⟨w.heap.size + 1 + 1 + 1 + 1 + 1, 0, none⟩) 2 2, Value.slice (some ⟨w.heap.size + 1 + 1 + 1 + 1 + 1 + 1, 0, none⟩) 3 3, Value.slice (some ⟨w.heap.size + 1 + 1 + 1 + 1 + 1 + 1 + 1, 0, none⟩) 1 1, Value.slice (some ⟨w.heap.size + 1 + 1 + 1 + 1 + 1 + 1 + 1 + 1, 0, none⟩) 2 2, Value.slice (some ⟨w.heap.size + 1 + 1 + 1 + 1 + 1 + 1 + 1 + 1 + 1, 0, none⟩) 1 1, Value.slice (some ⟨w.heap.size + 1 + 1 + 1 + 1 + 1 + 1 + 1 + 1 + 1 + 1, 0, none⟩) 3 3, Value.slice (some ⟨w.heap.size + 1 + 1 + 1 + 1 + 1 + 1 + 1 + 1 + 1 + 1 + 1, 0, none⟩) 1 1, Value.slice (some ⟨w.heap.size + 1 + 1 + 1 + 1 + 1 + 1 + 1 + 1 + 1 + 1 + 1 + 1, 0, none⟩) 1 1] 26] w m ((ownL m).map strV) 9 (by
    match m, hm2 with
    | 0, _ => rfl
    | 1, _ => rfl
    | 2, _ => rfl
    | 3, _ => rfl
    | 4, _ => rfl
    | 5, _ => rfl
    | 6, _ => rfl
    | 7, _ => rfl
    | 8, _ => rfl
    | 9, _ => rfl
    | 10, _ => rfl
    | 11, _ => rfl
    | 12, _ => rfl)
  have hbw := allocs_below [Obj.cells #[] 9, Obj.cells #[Value.string { data := #[97] }] 9, Obj.cells #[Value.string { data := #[98] }] 9, Obj.cells #[Value.string { data := #[99] }, Value.string { data := #[98] }] 9, Obj.cells #[Value.string { data := #[42] }, Value.string { data := #[119] }] 9, Obj.cells #[Value.string { data := #[120] }, Value.string { data := #[119] }] 9, Obj.cells #[Value.string { data := #[101] }, Value.string { data := #[102] }, Value.string { data := #[103] }] 9, Obj.cells #[Value.string { data := #[115, 117, 98] }] 9, Obj.cells #[Value.string { data := #[110, 115] }, Value.string { data := #[115, 117, 98] }] 9, Obj.cells #[Value.string { data := #[65] }] 9, Obj.cells #[Value.string { data := #[100, 101, 101, 112] }, Value.string { data := #[120] }, Value.string { data := #[119] }] 9, Obj.cells #[Value.string { data := #[122] }] 9, Obj.cells #[Value.string { data := #[42] }] 9, .cells #[Value.slice (some ⟨w.heap.size, 0, none⟩) 0 0, Value.slice (some ⟨w.heap.size + 1, 0, none⟩) 1 1, Value.slice (some ⟨w.heap.size + 1 + 1, 0, none⟩) 1 1, Value.slice (some ⟨w.heap.size + 1 + 1 + 1, 0, none⟩) 2 2, Value.slice (some ⟨w.heap.size + 1 + 1 + 1 + 1, 0, none⟩) 2 2, Value.slice (some ⟨w.heap.size + 1 + 1 + 1 + 1 + 1, 0, none⟩) 2 2, Value.slice (some ⟨w.heap.size + 1 + 1 + 1 + 1 + 1 + 1, 0, none⟩) 3 3, Value.slice (some ⟨w.heap.size + 1 + 1 + 1 + 1 + 1 + 1 + 1, 0, none⟩) 1 1, Value.slice (some ⟨w.heap.size + 1 + 1 + 1 + 1 + 1 + 1 + 1 + 1, 0, none⟩) 2 2, Value.slice (some ⟨w.heap.size + 1 + 1 + 1 + 1 + 1 + 1 + 1 + 1 + 1, 0, none⟩) 1 1, Value.slice (some ⟨w.heap.size + 1 + 1 + 1 + 1 + 1 + 1 + 1 + 1 + 1 + 1, 0, none⟩) 3 3, Value.slice (some ⟨w.heap.size + 1 + 1 + 1 + 1 + 1 + 1 + 1 + 1 + 1 + 1 + 1, 0, none⟩) 1 1, Value.slice (some ⟨w.heap.size + 1 + 1 + 1 + 1 + 1 + 1 + 1 + 1 + 1 + 1 + 1 + 1, 0, none⟩) 1 1] 26] w
  simp only [List.foldl_cons, List.foldl_nil] at hcs hbw
  have hbw1 := hbw.1
  have hol := ownL_len m
  have HCS := Lib.hid hcs
  have HBW := Lib.hid hbw1
  have HBZ := Lib.hid hbw1.size
  clear hcs hbw hbw1
  have HAP : Hid (∀ W, Calls Tryz.prog 10 #[] W fun e w' => ∃ v, e = .returned v ∧ w'.ownsRow W.heap.size 9 1 v 1 ([exL].map strV) ∧ Below W.heap.size W w') := Lib.hid Apex
  go_enter Tryz.func14, Tryz.ntmps14
  go_wp2_with (first | (at_builtin; refine wpList_names (B := w.heap.size) (v := .slice none 0 0) (n := 0) (xs := []) (World.ownsRow_nil _ _ _ _) HBZ.out HCS.out rfl _ _ Tryz.underlying26 rfl rfl rfl (by omega) ?_; intro v1 w1 hown1 hb1))
  rw [Nat.zero_add, List.nil_append] at hown1
  have hbw1 := HBW.out.trans hb1
  clear htab HCS
  generalize hol2 : ownL m = l at *
  have HO := Lib.hid hol2
  clear hol2
  clear hb1 HBW HBZ
  refine (HAP.out _).mono ?_
  rintro e w2 ⟨v2, rfl, hown2, hb2⟩
  obtain ⟨A2, c2, rfl, _, hcs2⟩ := Cs.of_own hown2
  have hown12 := own_below hown1 hb2
  have hb12 := hbw1.trans (hb2.mono hbw1.size)
  have HC2 := Lib.hid hcs2
  clear hown2 hcs2 hown1
  go_wp2_with (first | (at_builtin; refine wpList_names hown12 hb12.size (s := [exL]) HC2.out rfl _ _ Tryz.underlying26 rfl rfl rfl (by simp; omega) ?_; intro v3 w3 hown3 hb3))
  go_ret
  refine ⟨_, rfl, ?_, hb12.trans hb3⟩
  rw [HO.out, List.length_append]
  exact hown3
end Nm
end Go.Proofs.YthogembgndkmpaaGreatDoor

/- Contracts of the laws' settings: Type, Data of type A. -/
namespace Go.Proofs.YthogembgndkmpaaGreatDoor
open Go.RowKit
namespace Nm
def typeK : Nat → Nat
  | 0 => 1
  | 1 => 1
  | 2 => 28
  | 3 => 15
  | 4 => 16
  | 5 => 2
  | 6 => 5
  | 7 => 43
  | 8 => 6
  | _ => 99
set_option maxRecDepth 100000 in
set_option maxHeartbeats 4000000 in
theorem TypeC (k : Nat) (hk : k < 256) (w : World) : Calls Tryz.prog 19 #[.int .u8 k] w fun e w' => e = .returned (.int .u16 (typeK (k % 10))) ∧ Below w.heap.size w w' := by
  obtain ⟨m, hm, hm2⟩ : ∃ m, k % 10 = m ∧ m < 10 := ⟨_, rfl, Nat.mod_lt _ (by omega)⟩
  have hrem : ((k : Int).tmod 10) = m := by rw [Int.tmod_eq_emod_of_nonneg (by omega)]; omega
  rw [hm]
  clear hm
  have hcase : m = 0 ∨ m = 1 ∨ m = 2 ∨ m = 3 ∨ m = 4 ∨ m = 5 ∨ m = 6 ∨ m = 7 ∨ m = 8 ∨ m = 9 := by omega
  rcases hcase with rfl | rfl | rfl | rfl | rfl | rfl | rfl | rfl | rfl | rfl
  all_goals
    go_enter Tryz.func19, Tryz.ntmps19
    go_wp2_with fail
    go_ret
    exact ⟨rfl, (Below.refl _ _).alloc (Nat.le_refl _) _⟩
def b8 (n : Nat) : UInt8 := UInt8.ofNat n
/-- data of the types that hold no name -/
def dataP : Nat → Nat → Lab
  | 1, k => [10, 0, 0, b8 (k % 4)]
  | 16, k => [2, 104, b8 (97 + k % 4)]
  | 43, k => [0, b8 (k % 3), 253, 2, 1, 2, 3]
  | _, k => [b8 k]
theorem byte8 {n : Nat} (h : n < 256) : byteV (b8 n) = .int .u8 n := byteV_lt h
set_option maxRecDepth 100000 in
set_option maxHeartbeats 4000000 in
theorem Data1 (k : Nat) (hk : k < 256) (w : World) : Calls Tryz.prog 20 #[.int .u16 1, .int .u8 k] w fun e w' => ∃ v, e = .returned v ∧ w'.ownsRow w.heap.size 5 1 v 4 ((dataP 1 k).map byteV) ∧ Below w.heap.size w w' := by
  obtain ⟨m, hm, hm2⟩ : ∃ m, k % 4 = m ∧ m < 4 := ⟨_, rfl, Nat.mod_lt _ (by omega)⟩
  have hrem : ((k : Int).tmod 4) = m := by rw [Int.tmod_eq_emod_of_nonneg (by omega)]; omega
  have HD : Hid ((dataP 1 k).map byteV = [.int .u8 10, .int .u8 0, .int .u8 0, .int .u8 m]) := Lib.hid (by
    show List.map byteV [10, 0, 0, b8 (k % 4)] = _
    rw [hm]
    have := byte8 (n := m) (by omega)
    simp only [List.map_cons, List.map_nil, this]
    rfl)
  clear hm
  go_enter Tryz.func20, Tryz.ntmps20
  go_wp2_with fail
  go_ret
  refine ⟨_, rfl, ?_, (Below.refl _ _).alloc (Nat.le_refl _) _⟩
  rw [HD.out]
  exact own_rowC w w.heap.size 5 _ (Nat.le_refl _) (by simp)
set_option maxRecDepth 100000 in
set_option maxHeartbeats 4000000 in
theorem Data16 (k : Nat) (hk : k < 256) (w : World) : Calls Tryz.prog 20 #[.int .u16 16, .int .u8 k] w fun e w' => ∃ v, e = .returned v ∧ w'.ownsRow w.heap.size 5 1 v 3 ((dataP 16 k).map byteV) ∧ Below w.heap.size w w' := by
  obtain ⟨m, hm, hm2⟩ : ∃ m, k % 4 = m ∧ m < 4 := ⟨_, rfl, Nat.mod_lt _ (by omega)⟩
  have hrem : ((k : Int).tmod 4) = m := by rw [Int.tmod_eq_emod_of_nonneg (by omega)]; omega
  have HD : Hid ((dataP 16 k).map byteV = [.int .u8 2, .int .u8 104, .int .u8 (97 + (m : Int))]) := Lib.hid (by
    show List.map byteV [2, 104, b8 (97 + k % 4)] = _
    rw [hm]
    have := byte8 (n := 97 + m) (by omega)
    simp only [List.map_cons, List.map_nil, this]
    rfl)
  clear hm
  go_enter Tryz.func20, Tryz.ntmps20
  go_wp2_with fail
  go_ret
  refine ⟨_, rfl, ?_, (Below.refl _ _).alloc (Nat.le_refl _) _⟩
  rw [HD.out]
  exact own_rowC w w.heap.size 5 _ (Nat.le_refl _) (by simp)
set_option maxRecDepth 100000 in
set_option maxHeartbeats 4000000 in
theorem Data43 (k : Nat) (hk : k < 256) (w : World) : Calls Tryz.prog 20 #[.int .u16 43, .int .u8 k] w fun e w' => ∃ v, e = .returned v ∧ w'.ownsRow w.heap.size 5 1 v 7 ((dataP 43 k).map byteV) ∧ Below w.heap.size w w' := by
  obtain ⟨m, hm, hm2⟩ : ∃ m, k % 3 = m ∧ m < 3 := ⟨_, rfl, Nat.mod_lt _ (by omega)⟩
  have hrem : ((k : Int).tmod 3) = m := by rw [Int.tmod_eq_emod_of_nonneg (by omega)]; omega
  have HD : Hid ((dataP 43 k).map byteV = [.int .u8 0, .int .u8 m, .int .u8 253, .int .u8 2, .int .u8 1, .int .u8 2, .int .u8 3]) := Lib.hid (by
    show List.map byteV [0, b8 (k % 3), 253, 2, 1, 2, 3] = _
    rw [hm]
    have := byte8 (n := m) (by omega)
    simp only [List.map_cons, List.map_nil, this]
    rfl)
  clear hm
  go_enter Tryz.func20, Tryz.ntmps20
  go_wp2_with fail
  go_ret
  refine ⟨_, rfl, ?_, (Below.refl _ _).alloc (Nat.le_refl _) _⟩
  rw [HD.out]
  exact own_rowC w w.heap.size 5 _ (Nat.le_refl _) (by simp)
set_option maxRecDepth 100000 in
set_option maxHeartbeats 4000000 in
theorem Data99 (k : Nat) (hk : k < 256) (w : World) : Calls Tryz.prog 20 #[.int .u16 99, .int .u8 k] w fun e w' => ∃ v, e = .returned v ∧ w'.ownsRow w.heap.size 5 1 v 1 ((dataP 99 k).map byteV) ∧ Below w.heap.size w w' := by
  have HD : Hid ((dataP 99 k).map byteV = [.int .u8 k]) := Lib.hid (by
    have := byte8 hk
    show [byteV (b8 k)] = _
    rw [this])
  go_enter Tryz.func20, Tryz.ntmps20
  go_wp2_with fail
  go_ret
  refine ⟨_, rfl, ?_, (Below.refl _ _).alloc (Nat.le_refl _) _⟩
  rw [HD.out]
  exact own_rowC w w.heap.size 5 _ (Nat.le_refl _) (by simp)
end Nm
end Go.Proofs.YthogembgndkmpaaGreatDoor

/- Contracts of package zone: Put, the record is there. -/
namespace Go.Proofs.YthogembgndkmpaaGreatDoor
open Go.RowKit
namespace Nm
theorem cells5 {w : World} {g : Nat} {T : TypeId} {c0 c1 c2 c3 c4 : Value} (h : w.heap[g]? = some (.cells #[c0, c1, c2, c3, c4] T (0, 0))) :
    w.cell? ⟨g, 0, none⟩ = some c0 ∧ w.cell? ⟨g, 1, none⟩ = some c1 ∧ w.cell? ⟨g, 2, none⟩ = some c2 ∧ w.cell? ⟨g, 3, none⟩ = some c3 ∧ w.cell? ⟨g, 4, none⟩ = some c4 ∧ ∀ i, w.frozen? ⟨g, i, none⟩ = false := by
  refine ⟨?_, ?_, ?_, ?_, ?_, fun i => by simp [World.frozen?, h]⟩ <;> (rw [cell_of_row w g _ _ _ _ h]; rfl)
theorem cells4 {w : World} {g : Nat} {T : TypeId} {c0 c1 c2 c3 : Value} (h : w.heap[g]? = some (.cells #[c0, c1, c2, c3] T (0, 0))) :
    w.cell? ⟨g, 0, none⟩ = some c0 ∧ w.cell? ⟨g, 1, none⟩ = some c1 ∧ w.cell? ⟨g, 2, none⟩ = some c2 ∧ w.cell? ⟨g, 3, none⟩ = some c3 ∧ ∀ i, w.frozen? ⟨g, i, none⟩ = false := by
  refine ⟨?_, ?_, ?_, ?_, fun i => by simp [World.frozen?, h]⟩ <;> (rw [cell_of_row w g _ _ _ _ h]; rfl)
theorem cells2 {w : World} {g : Nat} {T : TypeId} {c0 c1 : Value} (h : w.heap[g]? = some (.cells #[c0, c1] T (0, 0))) :
    w.cell? ⟨g, 0, none⟩ = some c0 ∧ w.cell? ⟨g, 1, none⟩ = some c1 ∧ ∀ i, w.frozen? ⟨g, i, none⟩ = false := by
  refine ⟨?_, ?_, fun i => by simp [World.frozen?, h]⟩ <;> (rw [cell_of_row w g _ _ _ _ h]; rfl)
theorem own_form {w : World} {B : Nat} {e : TypeId} {size : Nat} {v : Value} {n : Nat} {xs : List Value} (h : w.ownsRow B e size v n xs) : ∃ A c, v = .slice A n c ∧ n ≤ c ∧ c ≤ maxLen := by
  rcases h.2 with ⟨rfl, rfl⟩ | ⟨g, cap, cur, rfl, hg, hh, hc1, hc2, _⟩
  · exact ⟨none, 0, rfl, Nat.le_refl _, by unfold maxLen; omega⟩
  · exact ⟨_, cap, rfl, hc1, hc2⟩
end Nm
end Go.Proofs.YthogembgndkmpaaGreatDoor

/- Contracts of the laws' settings: Record. -/
namespace Go.Proofs.YthogembgndkmpaaGreatDoor
open Go.RowKit
namespace Nm
def ttlN : Nat → Nat
  | 0 => 30
  | 1 => 30
  | 2 => 60
  | _ => 5
def ttlK (k : Nat) : Nat := ttlN (k / 16777216 % 4)
theorem bits_and3 (a : Nat) (ha : a < 4294967296) : bits .and .u32 (a : Int) 3 = ((a % 4 : Nat) : Int) := by
  have h1 : (BitVec.ofInt 32 (a : Int)).toNat = a := by
    rw [BitVec.ofInt_natCast, BitVec.toNat_ofNat]; exact Nat.mod_eq_of_lt (by omega)
  show IntKind.u32.wrap ((BitVec.ofInt 32 (a : Int) &&& BitVec.ofInt 32 3).toNat : Int) = _
  rw [BitVec.toNat_and, h1, show (BitVec.ofInt 32 3).toNat = 2 ^ 2 - 1 from by decide, Nat.and_two_pow_sub_one_eq_mod]
  simp [IntKind.wrap, IntKind.signed, IntKind.bits]
  omega
theorem wrap8 (a : Int) : IntKind.u8.wrap a = a % 256 := by simp [IntKind.wrap, IntKind.signed, IntKind.bits]
/-- a record's value -/
def RecV (w : World) (B : Nat) (v : Value) (n : List Lab) (t : Nat) (ttl : Nat) (d : Lab) : Prop :=
  ∃ An cn Ad cd, v = .agg #[.slice An n.length cn, .int .u16 t, .int .u16 1, .int .u32 ttl, .slice Ad d.length cd] ∧ w.ownsRow B 9 1 (.slice An n.length cn) n.length (n.map strV) ∧ w.ownsRow B 5 1 (.slice Ad d.length cd) d.length (d.map byteV)
set_option maxRecDepth 100000 in
set_option maxHeartbeats 20000000 in
theorem RecordG (k : Nat) (hk : k < 4294967296) (d : Lab) (w : World) (hD : ∀ W, Below w.heap.size w W → Calls Tryz.prog 20 #[.int .u16 (typeK (k / 256 % 256 % 10)), .int .u8 ((k / 65536 % 256 : Nat) : Int)] W fun e w' => ∃ v, e = .returned v ∧ w'.ownsRow W.heap.size 5 1 v d.length (d.map byteV) ∧ Below W.heap.size W w') :
    Calls Tryz.prog 5 #[.int .u32 k] w fun e w' => ∃ v, e = .returned v ∧ RecV w' w.heap.size v (owner (k % 256)) (typeK (k / 256 % 256 % 10)) (ttlK k) d ∧ Below w.heap.size w w' := by
  have HD := Lib.hid hD
  clear hD
  have HT : Hid (∀ W, Calls Tryz.prog 19 #[.int .u8 ((k / 256 % 256 : Nat) : Int)] W fun e w' => e = .returned (.int .u16 (typeK (k / 256 % 256 % 10))) ∧ Below W.heap.size W w') := Lib.hid fun W => TypeC (k / 256 % 256) (Nat.mod_lt _ (by omega)) W
  have HO : Hid (∀ W, Calls Tryz.prog 14 #[.int .u8 ((k % 256 : Nat) : Int)] W fun e w' => ∃ v, e = .returned v ∧ w'.ownsRow W.heap.size 9 1 v (owner (k % 256)).length ((owner (k % 256)).map strV) ∧ Below W.heap.size W w') := Lib.hid fun W => Owner (k % 256) (Nat.mod_lt _ (by omega)) W
  have e1 : ((k / 256 % 256 : Nat) : Int) = (k : Int) / 256 % 256 := by omega
  have e2 : ((k % 256 : Nat) : Int) = (k : Int) % 256 := by omega
  have e3 : ((k / 65536 % 256 : Nat) : Int) = (k : Int) / 65536 % 256 := by omega
  rw [e1] at HT
  rw [e2] at HO
  rw [e3] at HD
  generalize typeK (k / 256 % 256 % 10) = t at *
  have hkm : ttlK k = ttlN (k / 16777216 % 4) := rfl
  obtain ⟨m, hm, hm4⟩ : ∃ m, k / 16777216 % 4 = m ∧ m < 4 := ⟨_, rfl, Nat.mod_lt _ (by omega)⟩
  rw [hm] at hkm
  rw [hkm]
  have HM := Lib.hid hm
  clear hkm hm
  have hb1 : Below w.heap.size w (w.alloc (.cells #[.slice none 0 0, .int .u16 0, .int .u16 0, .int .u32 0, .slice none 0 0] 30)) := (Below.refl _ _).alloc (Nat.le_refl _) _
  have hR1 := heap_alloc_new w (.cells #[.slice none 0 0, .int .u16 0, .int .u16 0, .int .u32 0, .slice none 0 0] 30)
  clear e1 e2 e3
  go_enter Tryz.func5, Tryz.ntmps5
  go_wp2_with fail
  generalize w.alloc (.cells #[.slice none 0 0, .int .u16 0, .int .u16 0, .int .u32 0, .slice none 0 0] 30) = w1 at *
  refine (HT.out w1).mono ?_
  rintro e w2 ⟨rfl, hb2⟩
  have hE2 := hb1.trans (hb2.mono hb1.size)
  have hR2 := (hb2.block _ (lt_block hR1)).trans hR1
  clear hb2 hb1 hR1 HT
  go_wp2_with fail
  have hs2 := hE2.size
  have hr2 := lt_block hR2
  refine wp_region_dep mixed0 (by kernel_rfl) (fun i j => i == 16 && j == 100) (by kernel_rfl)
    (fun i W W' => if i = 16 then Kept (fun k => k = w.heap.size) W W' else Ext W W')
    (fun W => Kept (fun k => k = w.heap.size) w2 W)
    (fun i vals W => match i with
      | 0 => vals 0 = .int .u32 k
      | 1 => vals 1 = .int .u8 ((k : Int) % 256)
      | 2 => ∃ A c, vals 2 = .slice A (owner (k % 256)).length c ∧ W.ownsRow w2.heap.size 9 1 (.slice A (owner (k % 256)).length c) (owner (k % 256)).length ((owner (k % 256)).map strV)
      | 3 => vals 3 = .int .u16 t
      | 4 => ∃ q, vals 4 = .slice (some ⟨q, 0, none⟩) 4 4 ∧ w2.heap.size ≤ q ∧ W.heap[q]? = some (.cells #[.int .u32 30, .int .u32 30, .int .u32 60, .int .u32 5] 22 (0, 0))
      | 5 => vals 5 = .int .u32 k
      | 6 => vals 6 = .int .u32 ((k : Int) / 16777216)
      | 7 => vals 7 = .int .u32 (m : Int)
      | 8 => ∃ q, vals 8 = .pointer (some ⟨q, m, none⟩) ∧ w2.heap.size ≤ q ∧ W.heap[q]? = some (.cells #[.int .u32 30, .int .u32 30, .int .u32 60, .int .u32 5] 22 (0, 0))
      | 9 => vals 9 = .int .u32 (ttlN m)
      | 10 => vals 10 = .int .u16 t
      | 11 => vals 11 = .int .u32 k
      | 12 => vals 12 = .int .u32 ((k : Int) / 65536)
      | 13 => vals 13 = .int .u8 ((k : Int) / 65536 % 256)
      | 14 => ∃ A c, vals 14 = .slice A d.length c ∧ W.ownsRow w2.heap.size 5 1 (.slice A d.length c) d.length (d.map byteV)
      | 15 => ∃ A c A' c', vals 15 = .agg #[.slice A (owner (k % 256)).length c, .int .u16 t, .int .u16 1, .int .u32 (ttlN m), .slice A' d.length c'] ∧ W.ownsRow w2.heap.size 9 1 (.slice A (owner (k % 256)).length c) (owner (k % 256)).length ((owner (k % 256)).map strV) ∧ W.ownsRow w2.heap.size 5 1 (.slice A' d.length c') d.length (d.map byteV)
      | 16 => ∃ A c A' c', W.heap[w.heap.size]? = some (.cells #[.slice A (owner (k % 256)).length c, .int .u16 t, .int .u16 1, .int .u32 (ttlN m), .slice A' d.length c'] 30 (0, 0)) ∧ W.ownsRow w2.heap.size 9 1 (.slice A (owner (k % 256)).length c) (owner (k % 256)).length ((owner (k % 256)).map strV) ∧ W.ownsRow w2.heap.size 5 1 (.slice A' d.length c') d.length (d.map byteV)
      | _ => True) ?_ (fun W => W.heap[w.heap.size]? = some (.cells #[.slice none 0 0, .int .u16 0, .int .u16 0, .int .u32 0, .slice none 0 0] 30 (0, 0))) (fun i => i == 16) hR2 ?_ ?_ ?_ ?_ ?_ ?_
  · intro j vals i v W hij hw hR
    rcases j with _ | _ | _ | _ | _ | _ | _ | _ | _ | _ | _ | _ | _ | _ | _ | _ | _ | j
    all_goals first
      | exact trivial
      | exact hR
      | (simpa [hij, Ne.symm hij] using hR)
  · intro i W W' hk hC hI hT
    by_cases h : i = 16
    · subst h; cases hk
    · simp only [h, if_false] at hT
      exact (hT.block _ (lt_block hI)).trans hI
  · exact (Kept.refl _ w2).drew
  · intro i W W' hC hT
    by_cases h : i = 16
    · simp only [h, if_true] at hT
      exact hC.trans hT
    · simp only [h, if_false] at hT
      exact hC.trans (Kept.mono (Kept.of_ext hT) (fun _ _ h => h.elim))
  · intro i j vals W W' hij hk hw hC hR hT
    have hKR : (∀ {e : TypeId} {size : Nat} {u : Value} {m : Nat} {xs : List Value}, W.ownsRow w2.heap.size e size u m xs → W'.ownsRow w2.heap.size e size u m xs) ∧ (∀ q o, w2.heap.size ≤ q → W.heap[q]? = some o → W'.heap[q]? = some o) ∧ (i ≠ 16 → W.heap[w.heap.size]? = W'.heap[w.heap.size]?) := by
      by_cases h : i = 16
      · simp only [h, if_true] at hT
        exact ⟨fun hr => Kept.row hr hT (fun k hk2 e => by have := (hr.lt k hk2).1; omega), fun q o hq ho => (hT.block q (lt_block ho) (by omega)).trans ho, fun h2 => absurd h h2⟩
      · simp only [h, if_false] at hT
        exact ⟨fun hr => own_below hr hT, fun q o hq ho => (hT.block q (lt_block ho)).trans ho, fun _ => (hT.block _ (by have := hC.size; omega)).symm⟩
    obtain ⟨hK1, hK2, hK3⟩ := hKR
    rcases j with _ | _ | _ | _ | _ | _ | _ | _ | _ | _ | _ | _ | _ | _ | _ | _ | _ | j
    all_goals first
      | exact trivial
      | exact hR
      | skip
    · obtain ⟨A, c, h1, h2⟩ := hR
      exact ⟨A, c, h1, hK1 h2⟩
    · obtain ⟨q, h1, h2, h3⟩ := hR
      exact ⟨q, h1, h2, hK2 _ _ h2 h3⟩
    · obtain ⟨q, h1, h2, h3⟩ := hR
      exact ⟨q, h1, h2, hK2 _ _ h2 h3⟩
    · obtain ⟨A, c, h1, h2⟩ := hR
      exact ⟨A, c, h1, hK1 h2⟩
    · obtain ⟨A, c, A', c', h1, h2, h3⟩ := hR
      exact ⟨A, c, A', c', h1, hK1 h2, hK1 h3⟩
    · obtain ⟨A, c, A', c', h1, h2, h3⟩ := hR
      exact ⟨A, c, A', c', (hK3 hij) ▸ h1, hK1 h2, hK1 h3⟩
  · intro i o hio vals W hC haf hI0
    rcases i with _ | _ | _ | _ | _ | _ | _ | _ | _ | _ | _ | _ | _ | _ | _ | _ | _ | i
    all_goals first
      | (exfalso; simp at hio; done)
      | skip
    all_goals
      simp at hio
      subst hio
      simp [bindD, rdB, Region.binds] at haf
    all_goals first
      | (simp [opYield_def, yieldUpon, relAct, dstAt, Act.put, Region.wanted, go_sem, haf, Ext.refl]; done)
      | skip
    · simp [opYield_def, yieldUpon, relAct, dstAt, Act.put, Region.wanted, go_sem, haf, Ext.refl]
      exact wrap8 _
    · simp [opYield_def, yieldUpon, relAct, dstAt, Act.put, Region.wanted, go_sem, haf]
      refine (HO.out W).mono fun e W' h => ?_
      obtain ⟨v, he, ho, hb⟩ := h
      obtain ⟨A, c, rfl, _⟩ := own_form ho
      exact ⟨_, he, hb, A, c, rfl, own_base ho hC.size⟩
    · simp [opYield_def, yieldUpon, relAct, dstAt, Act.put, Region.wanted, go_sem]
      exact ⟨(Below.refl _ _).alloc (Nat.le_refl _) _, hC.size, by simp only [World.alloc, Array.getElem_push_eq]⟩
    · simp [opYield_def, yieldUpon, relAct, dstAt, Act.put, Region.wanted, go_sem, haf, Ext.refl]
      have hb := bits_and3 (k / 16777216) (by omega)
      rw [HM.out, show ((k / 16777216 : Nat) : Int) = (k : Int) / 16777216 from by omega] at hb
      exact hb
    · obtain ⟨⟨q, h1, h2, h3⟩, h7⟩ := haf
      have hc : (0 : Int) ≤ (m : Int) ∧ (m : Int) < 4 := by omega
      simp [opYield_def, yieldUpon, relAct, dstAt, Act.put, Region.wanted, go_sem, h1, h7, hm4, hc, Ext.refl]
      exact ⟨h2, h3⟩
    · obtain ⟨q, h1, h2, h3⟩ := haf
      have hc : W.cell? ⟨q, m, none⟩ = some (.int .u32 (ttlN m)) := by
        rw [cell_of_row _ _ _ _ _ _ h3]
        have h : m = 0 ∨ m = 1 ∨ m = 2 ∨ m = 3 := by omega
        rcases h with rfl | rfl | rfl | rfl <;> rfl
      simp [opYield_def, yieldUpon, relAct, dstAt, Act.put, Region.wanted, go_sem, h1, hc, Ext.refl]
    · simp [opYield_def, yieldUpon, relAct, dstAt, Act.put, Region.wanted, go_sem, haf, Ext.refl]
      exact wrap8 _
    · simp [opYield_def, yieldUpon, relAct, dstAt, Act.put, Region.wanted, go_sem, haf]
      refine (HD.out W (hE2.trans (hC.below hs2 (fun k hk e => by omega)))).mono fun e W' h => ?_
      obtain ⟨v, he, ho, hb⟩ := h
      obtain ⟨A, c, rfl, _⟩ := own_form ho
      exact ⟨_, he, hb, A, c, rfl, own_base ho hC.size⟩
    · obtain ⟨⟨A, c, h2, h2r⟩, h3, h9, A', c', h14, h14r⟩ := haf
      simp [opYield_def, yieldUpon, relAct, dstAt, Act.put, Region.wanted, go_sem, h2, h3, h9, h14, Ext.refl]
      exact ⟨A, c, A', c', ⟨⟨rfl, rfl⟩, rfl, rfl⟩, h2r, h14r⟩
    · obtain ⟨A, c, A', c', h15, h15a, h15b⟩ := haf
      have hI := hI0 (fun k hk hk2 => .inl (by simpa using hk2))
      refine yield_store (g := w.heap.size) (cells := #[.slice A (owner (k % 256)).length c, .int .u16 t, .int .u16 1, .int .u32 (ttlN m), .slice A' d.length c']) rfl rfl (by simp [relAct, dstAt, Act.put, Act.eval]) (by simp [relAct, dstAt, Act.put, Act.eval, h15]) hI (by kernel_rfl) rfl (by simp [Value.oneCell']) ?_
      have hblk := setRow_block W w.heap.size #[.slice A (owner (k % 256)).length c, .int .u16 t, .int .u16 1, .int .u32 (ttlN m), .slice A' d.length c'] _ _ _ hI
      have hgr := setRow_grown W w.heap.size #[.slice A (owner (k % 256)).length c, .int .u16 t, .int .u16 1, .int .u32 (ttlN m), .slice A' d.length c']
      have hkk : Kept (fun k => k = w.heap.size) W (W.setRow w.heap.size #[.slice A (owner (k % 256)).length c, .int .u16 t, .int .u16 1, .int .u32 (ttlN m), .slice A' d.length c']) := (Kept.of_grown hgr).mono (fun k _ h => by cases h; rfl)
      exact ⟨hkk, A, c, A', c', hblk, Kept.row h15a hkk (fun k hk2 e => by have := (h15a.lt k hk2).1; omega), Kept.row h15b hkk (fun k hk2 e => by have := (h15b.lt k hk2).1; omega)⟩
  · intro vals W hC hR
    have h16 := hR 16 (by show 16 < 17; omega) (fun i _ => by simp)
    obtain ⟨A, c, A', c', g1, g2, g3⟩ := h16
    obtain ⟨f0, f1, f2, f3, f4, _⟩ := cells5 g1
    have hbW := hE2.trans (hC.below hs2 (fun k hk e => by omega))
    simp [relAct, dstAt, Act.put]
    go_wp2_with fail
    refine bodyPost_ret (v := .agg #[.slice A (owner (k % 256)).length c, .int .u16 t, .int .u16 1, .int .u32 (ttlN m), .slice A' d.length c']) ?_ rfl ⟨_, rfl, ⟨A, c, A', c', rfl, own_base g2 hs2, own_base g3 hs2⟩, hbW⟩
    simp [results, Tryz.results5, go_sem, f0, f1, f2, f3, f4]
end Nm
end Go.Proofs.YthogembgndkmpaaGreatDoor

/- Contracts of the laws' settings: under, Data of the types that hold names. -/
namespace Go.Proofs.YthogembgndkmpaaGreatDoor
open Go.RowKit
namespace Nm
def farL : List Lab := [[102, 97, 114], [110, 101, 116]]
def underL (k : Nat) : List Lab := if k % 7 = 6 then farL else owner k
theorem owner_small (k : Nat) : Small (owner k) := by
  have h : ∀ m, m < 13 → Small (ownL m ++ [exL]) := by
    unfold Small
    decide
  exact h (k % 13) (Nat.mod_lt _ (by omega))
theorem far_small : Small farL := by unfold Small; decide
theorem under_small (k : Nat) : Small (underL k) := by
  unfold underL
  split
  · exact far_small
  · exact owner_small k
set_option maxRecDepth 100000 in
set_option maxHeartbeats 4000000 in
theorem Under (k : Nat) (hk : k < 256) (w : World) : Calls Tryz.prog 47 #[.int .u8 k] w fun e w' => ∃ v, e = .returned v ∧ w'.ownsRow w.heap.size 9 1 v (underL k).length ((underL k).map strV) ∧ Below w.heap.size w w' := by
  have hrem : ((k : Int).tmod 7) = ((k % 7 : Nat) : Int) := by rw [Int.tmod_eq_emod_of_nonneg (by omega)]; omega
  by_cases h6 : k % 7 = 6
  · have hu : underL k = farL := by unfold underL; rw [if_pos h6]
    rw [h6] at hrem
    rw [hu]
    clear hu h6
    go_enter Tryz.func47, Tryz.ntmps47
    go_wp2_with fail
    go_ret
    exact ⟨_, rfl, own_row w w.heap.size 9 (farL.map strV) (Nat.le_refl _) (by simp [farL]), (Below.refl _ _).alloc (Nat.le_refl _) _⟩
  · have hu : underL k = owner k := by unfold underL; rw [if_neg h6]
    have hd2 : (((k : Int) % 7) == 6) = false := by simp; omega
    rw [hu]
    clear hu h6 hrem
    have HO := Lib.hid (Owner k hk w)
    go_enter Tryz.func47, Tryz.ntmps47
    go_wp2_with fail
    refine HO.out.mono ?_
    rintro e w1 ⟨v, rfl, h1, h2⟩
    go_wp2_with fail
    go_ret
    exact ⟨_, rfl, h1, h2⟩
def nsL : Nat → List Lab
  | 0 => owner 8
  | 1 => owner 1
  | _ => farL
def dataN : Nat → Nat → Lab
  | 28, k => List.replicate 15 0 ++ [b8 (k % 3)]
  | 15, k => [0, b8 (k % 3)] ++ wire (underL k)
  | 2, k => wire (nsL (k % 3))
  | 5, k => wire (underL k)
  | 6, k => SoaM.bytes ⟨owner 1, owner 2, k * 16777216, 1, 2, 3, 10 + k % 4 * 20⟩
  | t, k => dataP t k
set_option maxRecDepth 100000 in
set_option maxHeartbeats 4000000 in
theorem Data5 (k : Nat) (hk : k < 256) (w : World) : Calls Tryz.prog 20 #[.int .u16 5, .int .u8 k] w fun e w' => ∃ v, e = .returned v ∧ w'.ownsRow w.heap.size 5 1 v (dataN 5 k).length ((dataN 5 k).map byteV) ∧ Below w.heap.size w w' := by
  have HU := Lib.hid (Under k hk w)
  have HS := Lib.hid (under_small k)
  show Calls _ _ _ _ fun e w' => ∃ v, e = .returned v ∧ w'.ownsRow w.heap.size 5 1 v (wire (underL k)).length ((wire (underL k)).map byteV) ∧ Below w.heap.size w w'
  generalize underL k = u at *
  go_enter Tryz.func20, Tryz.ntmps20
  go_wp2_with fail
  refine HU.out.mono ?_
  rintro e w1 ⟨v1, rfl, h1, hb1⟩
  obtain ⟨A1, c1, rfl, _, hc1⟩ := Cs.of_own h1
  have HW := Lib.hid (RWire A1 u c1 w1 hc1 HS.out)
  clear h1 hc1
  go_wp2_with fail
  refine HW.out.mono ?_
  rintro e w2 ⟨v2, rfl, h2, hb2⟩
  have hb12 := hb1.trans (hb2.mono hb1.size)
  have h2 := own_base h2 hb1.size
  go_wp2_with fail
  go_ret
  exact ⟨_, rfl, h2, hb12⟩
set_option maxRecDepth 100000 in
set_option maxHeartbeats 4000000 in
theorem Data15 (k : Nat) (hk : k < 256) (w : World) : Calls Tryz.prog 20 #[.int .u16 15, .int .u8 k] w fun e w' => ∃ v, e = .returned v ∧ w'.ownsRow w.heap.size 5 1 v (dataN 15 k).length ((dataN 15 k).map byteV) ∧ Below w.heap.size w w' := by
  obtain ⟨m, hm, hm2⟩ : ∃ m, k % 3 = m ∧ m < 3 := ⟨_, rfl, Nat.mod_lt _ (by omega)⟩
  have hrem : ((k : Int).tmod 3) = m := by rw [Int.tmod_eq_emod_of_nonneg (by omega)]; omega
  have HU : Hid (∀ W, Calls Tryz.prog 47 #[.int .u8 k] W fun e w' => ∃ v, e = .returned v ∧ w'.ownsRow W.heap.size 9 1 v (underL k).length ((underL k).map strV) ∧ Below W.heap.size W w') := Lib.hid fun W => Under k hk W
  have hus := under_small k
  have hwl := wire_len_few hus
  have HS := Lib.hid hus
  have HD : Hid (dataN 15 k = [0, b8 m] ++ wire (underL k)) := Lib.hid (by rw [← hm]; rfl)
  have HB : Hid (([0, b8 m] : Lab).map byteV = [.int .u8 0, .int .u8 m]) := Lib.hid (by
    have := byte8 (n := m) (by omega)
    simp only [List.map_cons, List.map_nil, this]
    rfl)
  clear hm hus
  generalize underL k = u at *
  go_enter Tryz.func20, Tryz.ntmps20
  go_wp2_with fail
  have h0 : (w.alloc (.cells #[.int .u8 0, .int .u8 m] 5)).ownsRow w.heap.size 5 1 (.slice (some ⟨w.heap.size, 0, none⟩) 2 2) 2 (([0, b8 m] : Lab).map byteV) := by
    rw [HB.out]
    exact own_row w w.heap.size 5 [.int .u8 0, .int .u8 m] (Nat.le_refl _) (by simp)
  have hb0 : Below w.heap.size w (w.alloc (.cells #[.int .u8 0, .int .u8 m] 5)) := (Below.refl _ _).alloc (Nat.le_refl _) _
  generalize w.alloc (.cells #[.int .u8 0, .int .u8 m] 5) = w0 at *
  refine (HU.out w0).mono ?_
  rintro e w1 ⟨v1, rfl, h1, hb1⟩
  obtain ⟨A1, c1, rfl, _, hc1⟩ := Cs.of_own h1
  have h01 := own_below h0 hb1
  have hb01 := hb0.trans (hb1.mono hb0.size)
  have HW := Lib.hid (RWire A1 u c1 w1 hc1 HS.out)
  clear h1 hc1 h0 hb1 hb0
  go_wp2_with fail
  refine HW.out.mono ?_
  rintro e w2 ⟨v2, rfl, h2, hb2⟩
  obtain ⟨A2, c2, rfl, _, hc2⟩ := Cs.of_own h2
  have h02 := own_below h01 hb2
  have hb02 := hb01.trans (hb2.mono hb01.size)
  clear h01 hb01 hb2 h2
  generalize wire u = wu at *
  go_wp2_with (first | (at_builtin; refine wpList_bytes h02 hb02.size hc2 rfl _ _ Tryz.underlying28 rfl rfl rfl (by omega) ?_; intro v3 w3 hown3 hb3; have hb03 := hb02.trans hb3))
  go_ret
  refine ⟨v3, rfl, ?_, hb03⟩
  rw [HD.out, List.length_append]
  exact hown3
set_option maxRecDepth 100000 in
set_option maxHeartbeats 4000000 in
theorem Data28 (k : Nat) (hk : k < 256) (w : World) : Calls Tryz.prog 20 #[.int .u16 28, .int .u8 k] w fun e w' => ∃ v, e = .returned v ∧ w'.ownsRow w.heap.size 5 1 v (dataN 28 k).length ((dataN 28 k).map byteV) ∧ Below w.heap.size w w' := by
  obtain ⟨m, hm, hm2⟩ : ∃ m, k % 3 = m ∧ m < 3 := ⟨_, rfl, Nat.mod_lt _ (by omega)⟩
  have hrem : ((k : Int).tmod 3) = m := by rw [Int.tmod_eq_emod_of_nonneg (by omega)]; omega
  have HD : Hid (dataN 28 k = List.replicate 15 0 ++ [b8 m]) := Lib.hid (by rw [← hm]; rfl)
  have hmk : ∀ w, (Instr.makeSlice 28 (.int .i64 15) (.int .i64 15)).run Tryz.prog w = .ok (.slice (some ⟨w.heap.size, 0, none⟩) 15 15) (w.alloc (.cells #[.int .u8 0, .int .u8 0, .int .u8 0, .int .u8 0, .int .u8 0, .int .u8 0, .int .u8 0, .int .u8 0, .int .u8 0, .int .u8 0, .int .u8 0, .int .u8 0, .int .u8 0, .int .u8 0, .int .u8 0] 5)) := fun _ => by kernel_rfl
  have HB : Hid ([b8 m].map byteV = [.int .u8 m]) := Lib.hid (by
    have := byte8 (n := m) (by omega)
    simp only [List.map_cons, List.map_nil, this])
  obtain ⟨i0, hi, hz0, hz1, hz2⟩ := info_parts info_u8
  clear hm
  have h0 : (w.alloc (.cells #[.int .u8 0, .int .u8 0, .int .u8 0, .int .u8 0, .int .u8 0, .int .u8 0, .int .u8 0, .int .u8 0, .int .u8 0, .int .u8 0, .int .u8 0, .int .u8 0, .int .u8 0, .int .u8 0, .int .u8 0] 5)).ownsRow w.heap.size 5 1 (.slice (some ⟨w.heap.size, 0, none⟩) 15 15) 15 ((List.replicate 15 0 : Lab).map byteV) := own_row w w.heap.size 5 [.int .u8 0, .int .u8 0, .int .u8 0, .int .u8 0, .int .u8 0, .int .u8 0, .int .u8 0, .int .u8 0, .int .u8 0, .int .u8 0, .int .u8 0, .int .u8 0, .int .u8 0, .int .u8 0, .int .u8 0] (Nat.le_refl _) (by simp)
  have hb0 : Below w.heap.size w (w.alloc (.cells #[.int .u8 0, .int .u8 0, .int .u8 0, .int .u8 0, .int .u8 0, .int .u8 0, .int .u8 0, .int .u8 0, .int .u8 0, .int .u8 0, .int .u8 0, .int .u8 0, .int .u8 0, .int .u8 0, .int .u8 0] 5)) := (Below.refl _ _).alloc (Nat.le_refl _) _
  go_enter Tryz.func20, Tryz.ntmps20
  go_wp2_with (first | (at_builtin; refine wpList_push2 h0 hb0.size [.int .u8 m] rfl (by simp [Value.oneCell']) hi hz0 hz1 hz2 rfl (by decide) rfl (.tmp 13) (.tmp 16) 28 Tryz.underlying28 rfl rfl (by simp [Act.eval]) (by unfold maxLen; omega) (by omega) ?_; intro v3 w3 hown3 hb3; have hb03 := hb0.trans hb3))
  go_ret
  refine ⟨v3, rfl, ?_, hb03⟩
  rw [HD.out, List.length_append, List.map_append, HB.out]
  exact hown3
set_option maxRecDepth 100000 in
set_option maxHeartbeats 4000000 in
theorem Data6 (k : Nat) (hk : k < 256) (w : World) : Calls Tryz.prog 20 #[.int .u16 6, .int .u8 k] w fun e w' => ∃ v, e = .returned v ∧ w'.ownsRow w.heap.size 5 1 v (dataN 6 k).length ((dataN 6 k).map byteV) ∧ Below w.heap.size w w' := by
  obtain ⟨m, hm, hm2⟩ : ∃ m, k % 4 = m ∧ m < 4 := ⟨_, rfl, Nat.mod_lt _ (by omega)⟩
  have hrem : ((k : Int).tmod 4) = m := by rw [Int.tmod_eq_emod_of_nonneg (by omega)]; omega
  have HD : Hid (dataN 6 k = SoaM.bytes ⟨owner 1, owner 2, k * 16777216, 1, 2, 3, 10 + m * 20⟩) := Lib.hid (by rw [← hm]; rfl)
  have hl1 : (owner 1).length = 2 := rfl
  have hl2 : (owner 2).length = 2 := rfl
  clear hm
  go_enter Tryz.func20, Tryz.ntmps20
  go_wp2_with fail
  refine (Owner 1 (by omega) w).mono ?_
  rintro e w1 ⟨v1, rfl, h1, hb1⟩
  obtain ⟨A1, c1, rfl, _, hc1⟩ := Cs.of_own h1
  go_wp2_with fail
  refine (Owner 2 (by omega) w1).mono ?_
  rintro e w2 ⟨v2, rfl, h2, hb2⟩
  obtain ⟨A2, c2, rfl, _, hc2⟩ := Cs.of_own h2
  have hc12 := hc1.below hb2
  have hb12 := hb1.trans (hb2.mono hb1.size)
  clear h1 h2 hc1
  go_wp2_with fail
  refine (RSoaBytes ⟨owner 1, owner 2, k * 16777216, 1, 2, 3, 10 + m * 20⟩ ⟨owner_small 1, owner_small 2, by show k * 16777216 < _; omega, by show 1 < _; omega, by show 2 < _; omega, by show 3 < _; omega, by show 10 + m * 20 < _; omega⟩ A1 A2 c1 c2 w2 hc12 hc2).mono ?_
  rintro e w3 ⟨v3, rfl, h3, hb3⟩
  have hb13 := hb12.trans (hb3.mono hb12.size)
  have h3 := own_base h3 hb12.size
  rw [← HD.out] at h3
  go_wp2_with fail
  go_ret
  exact ⟨_, rfl, h3, hb13⟩
set_option maxRecDepth 100000 in
set_option maxHeartbeats 4000000 in
theorem Data2 (k : Nat) (hk : k < 256) (w : World) : Calls Tryz.prog 20 #[.int .u16 2, .int .u8 k] w fun e w' => ∃ v, e = .returned v ∧ w'.ownsRow w.heap.size 5 1 v (dataN 2 k).length ((dataN 2 k).map byteV) ∧ Below w.heap.size w w' := by
  obtain ⟨m, hm, hm2⟩ : ∃ m, k % 3 = m ∧ m < 3 := ⟨_, rfl, Nat.mod_lt _ (by omega)⟩
  have hrem : ((k : Int).tmod 3) = m := by rw [Int.tmod_eq_emod_of_nonneg (by omega)]; omega
  have HD : Hid (dataN 2 k = wire (nsL m)) := Lib.hid (by rw [← hm]; rfl)
  have hl1 : (owner 1).length = 2 := rfl
  have hl2 : (owner 8).length = 3 := rfl
  clear hm
  go_enter Tryz.func20, Tryz.ntmps20
  go_wp2_with fail
  refine (Owner 8 (by omega) w).mono ?_
  rintro e w1 ⟨v1, rfl, h1, hb1⟩
  obtain ⟨A1, c1, rfl, _, hc1⟩ := Cs.of_own h1
  go_wp2_with fail
  refine (Owner 1 (by omega) w1).mono ?_
  rintro e w2 ⟨v2, rfl, h2, hb2⟩
  obtain ⟨A2, c2, rfl, _, hc2⟩ := Cs.of_own h2
  have hc12 := hc1.below hb2
  have hb12 := hb1.trans (hb2.mono hb1.size)
  clear h1 h2 hc1
  have hcf : Cs (w2.alloc (.cells #[.string ⟨#[102, 97, 114]⟩, .string ⟨#[110, 101, 116]⟩] 9)) (some ⟨w2.heap.size, 0, none⟩) (farL.map strV) := cs_new w2 9 [.string ⟨#[102, 97, 114]⟩, .string ⟨#[110, 101, 116]⟩] (0, 0)
  have hbf : Below w2.heap.size w2 (w2.alloc (.cells #[.string ⟨#[102, 97, 114]⟩, .string ⟨#[110, 101, 116]⟩] 9)) := (Below.refl _ _).alloc (Nat.le_refl _) _
  have hsf : (w2.alloc (.cells #[.string ⟨#[102, 97, 114]⟩, .string ⟨#[110, 101, 116]⟩] 9)).heap.size = w2.heap.size + 1 := by simp
  have hm3 : m = 0 ∨ m = 1 ∨ m = 2 := by omega
  rcases hm3 with rfl | rfl | rfl
  all_goals
    go_wp2_with fail
    generalize w2.alloc (.cells #[.string ⟨#[102, 97, 114]⟩, .string ⟨#[110, 101, 116]⟩] 9) = wf at *
    have hba : Below wf.heap.size wf (wf.alloc (.cells #[.slice A1 3 c1, .slice A2 2 c2, .slice (some ⟨w2.heap.size, 0, none⟩) 2 2] 26)) := (Below.refl _ _).alloc (Nat.le_refl _) _
    have hb2a := hbf.trans (hba.mono (by omega))
    have hb0a := hb12.trans (hb2a.mono hb12.size)
    have hc1a := hc12.below hb2a
    have hc2a := hc2.below hb2a
    have hcfa := hcf.below hba
    clear hc12 hc2 hcf hba hbf
    generalize wf.alloc (.cells #[.slice A1 3 c1, .slice A2 2 c2, .slice (some ⟨w2.heap.size, 0, none⟩) 2 2] 26) = wa at *
  · refine (RWire A1 (owner 8) c1 wa hc1a (owner_small 8)).mono ?_
    rintro e w3 ⟨v3, rfl, h3, hb3⟩
    have hb13 := hb0a.trans (hb3.mono hb0a.size)
    have h3 := own_base h3 hb0a.size
    rw [← show dataN 2 k = wire (owner 8) from HD.out] at h3
    go_wp2_with fail
    go_ret
    exact ⟨_, rfl, h3, hb13⟩
  · refine (RWire A2 (owner 1) c2 wa hc2a (owner_small 1)).mono ?_
    rintro e w3 ⟨v3, rfl, h3, hb3⟩
    have hb13 := hb0a.trans (hb3.mono hb0a.size)
    have h3 := own_base h3 hb0a.size
    rw [← show dataN 2 k = wire (owner 1) from HD.out] at h3
    go_wp2_with fail
    go_ret
    exact ⟨_, rfl, h3, hb13⟩
  · refine (RWire _ farL 2 wa hcfa far_small).mono ?_
    rintro e w3 ⟨v3, rfl, h3, hb3⟩
    have hb13 := hb0a.trans (hb3.mono hb0a.size)
    have h3 := own_base h3 hb0a.size
    rw [← show dataN 2 k = wire farL from HD.out] at h3
    go_wp2_with fail
    go_ret
    exact ⟨_, rfl, h3, hb13⟩
end Nm
end Go.Proofs.YthogembgndkmpaaGreatDoor

/- Contracts of the laws' settings: Record of every number. -/
namespace Go.Proofs.YthogembgndkmpaaGreatDoor
open Go.RowKit
namespace Nm
theorem DataAll (m k : Nat) (hm : m < 10) (hk : k < 256) (W : World) : Calls Tryz.prog 20 #[.int .u16 (typeK m), .int .u8 k] W fun e w' => ∃ v, e = .returned v ∧ w'.ownsRow W.heap.size 5 1 v (dataN (typeK m) k).length ((dataN (typeK m) k).map byteV) ∧ Below W.heap.size W w' := by
  have h : m = 0 ∨ m = 1 ∨ m = 2 ∨ m = 3 ∨ m = 4 ∨ m = 5 ∨ m = 6 ∨ m = 7 ∨ m = 8 ∨ m = 9 := by omega
  rcases h with rfl | rfl | rfl | rfl | rfl | rfl | rfl | rfl | rfl | rfl
  · exact Data1 k hk W
  · exact Data1 k hk W
  · exact Data28 k hk W
  · exact Data15 k hk W
  · exact Data16 k hk W
  · exact Data2 k hk W
  · exact Data5 k hk W
  · exact Data43 k hk W
  · exact Data6 k hk W
  · exact Data99 k hk W
/-- a number's record -/
def recN (k : Nat) : List Lab := owner (k % 256)
def recT (k : Nat) : Nat := typeK (k / 256 % 256 % 10)
def recD (k : Nat) : Lab := dataN (recT k) (k / 65536 % 256)
theorem RecordA (k : Nat) (hk : k < 4294967296) (w : World) : Calls Tryz.prog 5 #[.int .u32 k] w fun e w' => ∃ v, e = .returned v ∧ RecV w' w.heap.size v (recN k) (recT k) (ttlK k) (recD k) ∧ Below w.heap.size w w' :=
  RecordG k hk (recD k) w (fun W _ => DataAll (k / 256 % 256 % 10) (k / 65536 % 256) (Nat.mod_lt _ (by omega)) (Nat.mod_lt _ (by omega)) W)
set_option maxRecDepth 1000000 in
theorem chk_all : ∀ m, m < 10 → ∀ k, k < 256 → chk (typeK m) (dataN (typeK m) k) = true := by
  decide +kernel
set_option maxRecDepth 1000000 in
theorem len_all : ∀ m, m < 10 → ∀ k, k < 256 → (dataN (typeK m) k).length ≤ 100 := by
  decide +kernel
end Nm
end Go.Proofs.YthogembgndkmpaaGreatDoor
