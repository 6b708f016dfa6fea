/-
  The statement Rows.CanonHoldsCardSaid ('signet/signetlaw19.CanonHolds'): for every input the law returns true, and the input reads as it did; the table signet/hash.rounds is tied to the program's text. No condition.
  The frame was written by a program; the walk is in the texts imported.
-/
import Derived.Test.YthogembgndkmpaaGreatDoorRows
import Derived.Test.YthogembgndkmpaaGreatDoorTie
import Derived.Test.YthogembgndkmpaaGreatDoorCards
import Derived.Test.YthogembgndkmpaaGreatDoorHk19
import Derived.Deep.DeepHandedRow
import Derived.Lib.LaidIn
import Derived.Lib.LaidTab
import Derived.LaidLaws
import Derived.MakeChecks
import Derived.SevenTiedAt
import Derived.JoinedCond
import Derived.SizedLaws
import Derived.WalkKit
import Derived.ProofKit
import Derived.OpenShut
import Derived.ShutString
import Derived.ChangeOld
import Derived.Below
namespace Go.Proofs.YthogembgndkmpaaGreatDoor.canonHolds
open Go.ChangeShapes Go.WideShapes Go.ChangeAt Go.RowKit
open Go.ChangeMaps (open_string shut_string)
set_option linter.unusedVariables false

theorem own : ownKnob Tryz.prog.godebug = none := by kernel_rfl
theorem laidOut : laidOutB Tryz.prog = true := by kernel_rfl

theorem gR : Tryz.prog.globalNamed "signet/hash.rounds" = some 1 := by kernel_rfl
theorem gRt : (Tryz.prog.globals[1]?).map (·.type) = some 100 := by kernel_rfl
theorem cells5 : Tryz.prog.cellsOf 5 = 1 := by kernel_rfl
theorem cells22 : Tryz.prog.cellsOf 22 = 1 := by kernel_rfl
theorem cells23 : Tryz.prog.cellsOf 23 = 8 := by kernel_rfl
theorem cells100 : Tryz.prog.cellsOf 100 = 64 := by kernel_rfl
def tab : List Int := W.ks0.map fun k => (k.toNat : Int)
theorem tab_laid : (Rows.laid_signet_hash_rounds : DataW Unit) = Lib.tabData .u32 tab := by kernel_rfl
/-- what the condition and the world's shape give the walk: the table's block -/
theorem rounds_at {V : World} (h : laidMetH Tryz.prog Rows.canonHoldsRow.laid V) (hs : V.ShapedOpen Tryz.prog) : W.ArrU V 1 100 W.ks0 := by
  rw [MakeChecks.laidMetH_plain _ _ _ (by kernel_rfl)] at h
  have h' : laidMet Tryz.prog [("signet/hash.rounds", Rows.laid_signet_hash_rounds)] V := h
  rw [tab_laid] at h'
  have ht := Lib.tabIs_of_head gR gRt Tryz.underlying100 Tryz.underlying22 cells22 cells100 h'
  have h0 : (((begin Tryz.prog (fun _ _ => 0) default).world.heap[1]?).bind Obj.row?).map (·.2) = some 100 := by kernel_rfl
  obtain ⟨⟨zero, t⟩, hz, hzt⟩ := Option.map_eq_some_iff.1 h0
  simp only at hzt
  subst hzt
  obtain ⟨cs, hc, _⟩ := hs.1 1 zero 100 (by rw [show Tryz.prog.globals.size = 2 from by kernel_rfl]; omega) hz
  have hv : V.var? Tryz.prog "signet/hash.rounds" = some (tab.map fun z => Value.int .u32 z).toArray := ht
  unfold World.var? at hv
  rw [gR] at hv
  simp only [Option.bind_some, hc, Option.some.injEq] at hv
  unfold W.ArrU
  rw [hc, hv]
  have e : (tab.map fun z => Value.int .u32 z) = W.ks0.map W.uv := by
    unfold tab
    rw [List.map_map]
    rfl
  rw [e]
theorem nat_of {k : Int} {m : Int} (h : 0 ≤ k ∧ k ≤ m) : ∃ n : Nat, k = n ∧ (n : Int) ≤ m := ⟨k.toNat, by omega, by omega⟩
theorem bytes_of : ∀ L : List Value, (∀ i, i < L.length → ∃ c : UInt8, L[i]? = some (byteV c)) → ∃ l : List UInt8, L = l.map byteV
  | [], _ => ⟨[], rfl⟩
  | v :: L, h => by
    obtain ⟨c, hc⟩ := h 0 (by simp)
    obtain ⟨l, hl⟩ := bytes_of L fun i hi => by
      obtain ⟨c', hc'⟩ := h (i + 1) (by simp; omega)
      exact ⟨c', by simpa using hc'⟩
    have hv : v = byteV c := by simpa using hc
    exact ⟨c :: l, by rw [List.map_cons, ← hv, ← hl]⟩
set_option maxRecDepth 100000 in
/-- a parameter of eight bytes -/
theorem openRow8 {H : Type} {enc : TypeId × Value → H} {V : World} {base b0 : Nat} {sp : Nat → Bool} {held : Bool} {v : Value} {d : DataW H} {p : List MemPlace} (hok : Value.okWide Tryz.prog V .any b0 23 v) (h : DataW.Trod enc Tryz.prog V base sp held 23 v d p) :
    ∃ cs l, v = .agg cs ∧ W.Row8 cs l := by
  simp only [Value.okWide, Tryz.underlying23] at hok
  obtain ⟨cs, rfl, h2, _⟩ := hok
  obtain ⟨fuel, hf⟩ := h
  obtain ⟨xs, m, _, hx, hlen, hn, hel⟩ := DataW.trod_array Tryz.underlying23 hf
  rw [cells5] at hel
  rw [cells23] at hlen
  have hlen' : cs.toList.length = 8 := by simpa [Value.cells] using hlen
  obtain ⟨l, hl⟩ := bytes_of cs.toList fun i hi => by
    have h1 := hel i (by omega)
    have hxi : xs[i]? = some (xs[i]'(by omega)) := List.getElem?_eq_getElem (by omega)
    rw [hxi] at h1
    obtain ⟨k, e1, _, hw⟩ := DataW.trod_int Tryz.underlying5 h1
    have hk : cs.toList[i]? = some (.int .u8 k) := by
      have := congrArg (fun l => l[0]?) e1
      simpa [Value.cells, List.getElem?_take, List.getElem?_drop] using this
    have hb := bounds_u8 hw
    obtain ⟨n, rfl⟩ : ∃ n : Nat, k = (n : Int) := ⟨k.toNat, by omega⟩
    exact ⟨UInt8.ofNat n, by rw [hk, Nm.byteV_lt (by omega)]⟩
  refine ⟨cs, l, rfl, ?_, ?_⟩
  · rw [← hl]
  · have := congrArg List.length hl
    rw [List.length_map] at this
    omega
/-- a world that meets the condition -/
noncomputable def laidWorld (os : Os) : World :=
  let w0 := World.holding Tryz.prog os ⟨#[], #[], []⟩
  { w0 with heap := w0.heap.modify 1 fun
      | .cells _ t frozen => .cells (tab.map fun z => Value.int .u32 z).toArray t frozen
      | o => o }
theorem laid_met (os : Os) (args : Array Value) : laidMet Tryz.prog Rows.canonHoldsRow.laid ((laidWorld os).forCall (fun _ _ => 0) ⟨#[], args, []⟩).memory :=
  (LaidIn.of_run [1] 8 (by kernel_rfl) (by kernel_rfl) (by kernel_rfl) (by kernel_rfl)).met
theorem witness_row (os : Os) {H : Type} (enc : TypeId × Value → H) :
    (OpenSpec.ofChange Rows.canonHoldsSpec).preRow enc Tryz.prog Tryz.f3 Rows.canonHoldsRow.domain false Rows.canonHoldsRow.laid ((laidWorld os).forCall (fun _ _ => 0) ⟨#[], #[.int .u32 0, .agg #[.int .u8 0, .int .u8 0, .int .u8 0, .int .u8 0, .int .u8 0, .int .u8 0, .int .u8 0, .int .u8 0], .int .u8 0, .int .u32 0, .int .u32 0, .int .u32 0, .int .u8 0, .int .u8 0], []⟩).memory #[.int .u32 0, .agg #[.int .u8 0, .int .u8 0, .int .u8 0, .int .u8 0, .int .u8 0, .int .u8 0, .int .u8 0, .int .u8 0], .int .u8 0, .int .u32 0, .int .u32 0, .int .u32 0, .int .u8 0, .int .u8 0] := by
  have hw : (DataW.whole enc Tryz.prog ((laidWorld os).forCall (fun _ _ => 0) ⟨#[], #[.int .u32 0, .agg #[.int .u8 0, .int .u8 0, .int .u8 0, .int .u8 0, .int .u8 0, .int .u8 0, .int .u8 0, .int .u8 0], .int .u8 0, .int .u32 0, .int .u32 0, .int .u32 0, .int .u8 0, .int .u8 0], []⟩).memory Tryz.f3.params.toList (OpenSpec.ofChange Rows.canonHoldsSpec).vars false (#[.int .u32 0, .agg #[.int .u8 0, .int .u8 0, .int .u8 0, .int .u8 0, .int .u8 0, .int .u8 0, .int .u8 0, .int .u8 0], .int .u8 0, .int .u32 0, .int .u32 0, .int .u32 0, .int .u8 0, .int .u8 0] : Array Value).toList 8).map (fun x => (x.1, x.2.1)) =
      some ([.lit (.int .u32 0), .agg [.lit (.int .u8 0), .lit (.int .u8 0), .lit (.int .u8 0), .lit (.int .u8 0), .lit (.int .u8 0), .lit (.int .u8 0), .lit (.int .u8 0), .lit (.int .u8 0)], .lit (.int .u8 0), .lit (.int .u32 0), .lit (.int .u32 0), .lit (.int .u32 0), .lit (.int .u8 0), .lit (.int .u8 0)], []) := by kernel_rfl
  obtain ⟨⟨x1, x2, x3⟩, hx, hx1⟩ := Option.map_eq_some_iff.1 hw
  simp only [Prod.mk.injEq] at hx1
  obtain ⟨rfl, rfl⟩ := hx1
  exact OpenSpec.preRow_of_cond 8 hx (by kernel_rfl) (fun k hk => by cases hk) (by kernel_rfl) (laid_met os _)
set_option maxRecDepth 100000 in
theorem lifted (os : Os) (started : os.Started) (H : Type) (enc : TypeId × Value → H) (F : Stop.Interp) :
    ReturnsInHanded {} Tryz.checked os 3 .any ((OpenSpec.ofChange Rows.canonHoldsSpec).preRow enc Tryz.prog Tryz.f3 Rows.canonHoldsRow.domain false Rows.canonHoldsRow.laid) (((OpenSpec.ofChange Rows.canonHoldsSpec).at F).post enc Tryz.prog Tryz.f3 false true false false) := by
  refine returnsInHanded_of_row (C := Tryz.checked) (s := OpenSpec.ofChange Rows.canonHoldsSpec) own started (by kernel_rfl) Tryz.func3
    (witness_row_at (enc := enc) (C := Tryz.checked) false (laidWorld os) #[.int .u32 0, .agg #[.int .u8 0, .int .u8 0, .int .u8 0, .int .u8 0, .int .u8 0, .int .u8 0, .int .u8 0, .int .u8 0], .int .u8 0, .int .u32 0, .int .u32 0, .int .u32 0, .int .u8 0, .int .u8 0] rfl (by kernel_rfl) (by kernel_rfl) (by kernel_rfl) (witness_row os enc)) ?_
  intro W base args ds gs before hval0 hW hcnd _ _ hL hsh _
  have hval : ∀ (j : Nat) t v, Tryz.f3.params[j]? = some t → args[j]? = some v → Value.okWide Tryz.prog W .any base t v := hval0
  have hW' := hW
  obtain ⟨p, q, hA0, hV, rfl, hfz, hnd⟩ := hW
  have hA : DataW.TrodAll enc Tryz.prog W 0 (fun _ => true) true Tryz.f3.params.toList args.toList ds p := hA0
  rw [Tryz.params3] at hA hval
  obtain ⟨v0, vs0, d0, ds0, p0, q0, hargs, rfl, rfl, h0, r0⟩ := trodAll_cons hA
  obtain ⟨v1, vs1, d1, ds1, p1, q1, rfl, rfl, rfl, h1, r1⟩ := trodAll_cons r0
  obtain ⟨v2, vs2, d2, ds2, p2, q2, rfl, rfl, rfl, h2, r2⟩ := trodAll_cons r1
  obtain ⟨v3, vs3, d3, ds3, p3, q3, rfl, rfl, rfl, h3, r3⟩ := trodAll_cons r2
  obtain ⟨v4, vs4, d4, ds4, p4, q4, rfl, rfl, rfl, h4, r4⟩ := trodAll_cons r3
  obtain ⟨v5, vs5, d5, ds5, p5, q5, rfl, rfl, rfl, h5, r5⟩ := trodAll_cons r4
  obtain ⟨v6, vs6, d6, ds6, p6, q6, rfl, rfl, rfl, h6, r6⟩ := trodAll_cons r5
  obtain ⟨v7, vs7, d7, ds7, p7, q7, rfl, rfl, rfl, h7, r7⟩ := trodAll_cons r6
  obtain ⟨rfl, rfl, rfl⟩ := trodAll_nil r7
  obtain rfl : args = #[v0, v1, v2, v3, v4, v5, v6, v7] := by cases args; simp_all
  obtain ⟨rfl, rfl⟩ := trodVars_none hV
  obtain ⟨a0, rfl, rfl, rfl, w0⟩ := open_int Tryz.underlying22 (hval 0 22 v0 rfl rfl) h0
  have k1 := h1
  have lt1 : ∀ x ∈ p1, x.block < W.heap.size := by obtain ⟨m, hm⟩ := k1; exact DataW.trod_lt m _ _ _ hm
  obtain ⟨a2, rfl, rfl, rfl, w2⟩ := open_int Tryz.underlying5 (hval 2 5 v2 rfl rfl) h2
  obtain ⟨a3, rfl, rfl, rfl, w3⟩ := open_int Tryz.underlying22 (hval 3 22 v3 rfl rfl) h3
  obtain ⟨a4, rfl, rfl, rfl, w4⟩ := open_int Tryz.underlying22 (hval 4 22 v4 rfl rfl) h4
  obtain ⟨a5, rfl, rfl, rfl, w5⟩ := open_int Tryz.underlying22 (hval 5 22 v5 rfl rfl) h5
  obtain ⟨a6, rfl, rfl, rfl, w6⟩ := open_int Tryz.underlying5 (hval 6 5 v6 rfl rfl) h6
  obtain ⟨a7, rfl, rfl, rfl, w7⟩ := open_int Tryz.underlying5 (hval 7 5 v7 rfl rfl) h7
  obtain ⟨cs, l1, rfl, R1⟩ := openRow8 (hval 1 23 v1 rfl rfl) h1
  have hk := rounds_at hL hsh
  obtain ⟨T0, rfl, b0⟩ := nat_of (bounds_u32 w0)
  obtain ⟨T2, rfl, b2⟩ := nat_of (bounds_u8 w2)
  obtain ⟨T3, rfl, b3⟩ := nat_of (bounds_u32 w3)
  obtain ⟨T4, rfl, b4⟩ := nat_of (bounds_u32 w4)
  obtain ⟨T5, rfl, b5⟩ := nat_of (bounds_u32 w5)
  obtain ⟨T6, rfl, b6⟩ := nat_of (bounds_u8 w6)
  obtain ⟨T7, rfl, b7⟩ := nat_of (bounds_u8 w7)
  clear hA0 hval0
  refine (Nm.Holds T0 T2 T3 T4 T5 T6 T7 (by omega) (by omega) (by omega) (by omega) (by omega) (by omega) (by omega) cs l1 R1 W hk).mono fun e W' ⟨he, bel⟩ => ?_
  subst he
  exact ⟨_, rfl, _, _, _, [], _, [], hW', trodAll_mk1 (shut_bool Tryz.underlying4 _), (trodAll_cons_mk (shut_int Tryz.underlying22 w0) (trodAll_cons_mk (Below.trod laidOut (by kernel_rfl) (of_decide_eq_true (by kernel_rfl)) k1 bel lt1) (trodAll_cons_mk (shut_int Tryz.underlying5 w2) (trodAll_cons_mk (shut_int Tryz.underlying22 w3) (trodAll_cons_mk (shut_int Tryz.underlying22 w4) (trodAll_cons_mk (shut_int Tryz.underlying22 w5) (trodAll_cons_mk (shut_int Tryz.underlying5 w6) (trodAll_cons_mk (shut_int Tryz.underlying5 w7) trodAll_mk0)))))))), rfl, bel.frame _, fun h => by cases h⟩

theorem over : Rows.canonHoldsRow.holds Tryz.pinned (OpenSpec.ofChange Rows.canonHoldsSpec) :=
  OpenClaim.holds_of_cond 3 Tryz.f3 rfl rfl rfl rfl rfl rfl rfl ⟨rfl, rfl, rfl, rfl, rfl⟩ rfl rfl rfl rfl rfl (by kernel_rfl) Tryz.func3 (by kernel_rfl)
    (of_decide_eq_true (by kernel_rfl)) (by unfold Func.isWrapper; first | (rw [if_pos (by decide +kernel)]; kernel_rfl) | (rw [if_neg (by decide +kernel)]; exact ⟨rfl, rfl⟩))
    (fun os started H enc _ F => by rw [OpenClaim.pre_eq_preRow]; exact lifted os started H enc F)

theorem proved : Rows.CanonHoldsCardSaid :=
  Claim7.holds_tied_plain_at .later [] [.data] true (true, "c59fedc2fef49dfdd821906aa818b13aed021fc9951f9825a892a7d83a72b7d1") true
    over (fun _ h => by cases h) (by kernel_rfl) (fun _ h => by cases h) canonHolds_row_tie rfl ⟨rfl, rfl⟩ (by kernel_rfl) rfl
    (fun f fn hf hfn => by
      obtain rfl : f = 3 := Option.some.inj ((show Tryz.prog.funcNamed "signet/signetlaw19.CanonHolds" = some 3 by kernel_rfl).symm.trans hf) |>.symm
      obtain rfl : fn = Tryz.f3 := (Option.some.inj (Tryz.func3.symm.trans hfn)).symm
      exact ⟨by kernel_rfl, fun j t ht => by
        rw [Tryz.params3] at ht
        have hm : t ∈ [22, 23, 5, 22, 22, 22, 5, 5] := by simpa using Array.mem_of_getElem? ht
        have hall : ([22, 23, 5, 22, 22, 22, 5, 5].all fun u => !Tryz.prog.wantsStandIn u) = true := by kernel_rfl
        exact (show Tryz.prog.wantsStandIn t = false by simpa using List.all_eq_true.1 hall t hm)⟩)
    (by kernel_rfl)
#print axioms proved
end Go.Proofs.YthogembgndkmpaaGreatDoor.canonHolds
