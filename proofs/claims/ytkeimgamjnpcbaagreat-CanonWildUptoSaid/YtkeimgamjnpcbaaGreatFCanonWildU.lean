/-
  The statement Rows.CanonWildUptoSaid ('signet/signetlaw19.CanonWild'): the law returns true, and the input reads as it did. The condition is the statement's own: what is read is of bulk at most 1048576.
  The frame was written by a program; the walk is in the texts imported.
-/
import Derived.Test.YtkeimgamjnpcbaaGreatRows
import Derived.Test.YtkeimgamjnpcbaaGreatCk19
import Derived.JoinedCond
import Derived.WalkKit
import Derived.ProofKit
import Derived.OpenShut
import Derived.ShutString
import Derived.ChangeOld
import Derived.Below
namespace Go.Proofs.YtkeimgamjnpcbaaGreat.canonWild
open Go.ChangeShapes Go.WideShapes Go.ChangeAt Go.RowKit
open Go.ChangeMaps (open_string shut_string)
set_option linter.unusedVariables false

theorem own : ownKnob Tryz.prog.godebug = none := by kernel_rfl
theorem laidOut : laidOutB Tryz.prog = true := by kernel_rfl

theorem bulk_one {H : Type} (d : DataW H) : 1 ≤ Rows.uptoBulk d := by
  cases d with
  | lit l => cases l <;> simp [Rows.uptoBulk]
  | nil => simp [Rows.uptoBulk]
  | ptr d => simp [Rows.uptoBulk]
  | slice es sp => simp [Rows.uptoBulk]
  | agg ps => simp [Rows.uptoBulk]
  | iface t d => simp [Rows.uptoBulk]
  | map es => simp [Rows.uptoBulk]
  | held x => simp [Rows.uptoBulk]
theorem bulk_all {H : Type} : ∀ l : List (DataW H), l.length ≤ Rows.uptoBulkAll l
  | [] => by simp
  | d :: r => by
    have h1 := bulk_one d
    have h2 := bulk_all r
    have e : Rows.uptoBulkAll (d :: r) = Rows.uptoBulk d + Rows.uptoBulkAll r := by rw [Rows.uptoBulkAll]
    rw [e, List.length_cons]
    omega
theorem bulk_slice {H : Type} (es sp : List (DataW H)) : es.length ≤ Rows.uptoBulk (.slice es sp) := by
  have h := bulk_all es
  have e : Rows.uptoBulk (.slice es sp) = Rows.uptoBulkAll es + Rows.uptoBulkAll sp + 1 := by rw [Rows.uptoBulk]
  omega
theorem bulk_head {H : Type} (d : DataW H) (r : List (DataW H)) : Rows.uptoBulk d ≤ Rows.uptoBulkAll (d :: r) := by
  have e : Rows.uptoBulkAll (d :: r) = Rows.uptoBulk d + Rows.uptoBulkAll r := by rw [Rows.uptoBulkAll]
  omega
set_option maxRecDepth 100000 in
theorem lifted (os : Os) (started : os.Started) (H : Type) (enc : TypeId × Value → H) (F : Stop.Interp) :
    ReturnsInHanded {} Tryz.checked os 5 .any ((Rows.OpenSpec.upto Rows.canonWildSpec).pre6 enc Tryz.prog Tryz.f5 Rows.canonWildUptoRow.domain false) (((Rows.OpenSpec.upto Rows.canonWildSpec).at F).post enc Tryz.prog Tryz.f5 false true false false) := by
  refine returnsInHanded_of_cond (C := Tryz.checked) (s := Rows.OpenSpec.upto Rows.canonWildSpec) (k := Rows.uptoSmall) rfl own started (by kernel_rfl) Tryz.func5
    (OpenSpec.witness (enc := enc) (C := Tryz.checked) (s := Rows.OpenSpec.upto Rows.canonWildSpec) (k := Rows.uptoSmall) rfl false ⟨#[], #[.slice none 0 0, .slice none 0 0, .int .u16 0, .agg #[.int .u16 0, .int .u8 0, .int .u8 0, .int .u32 0, .int .u32 0, .int .u32 0, .int .u16 0, .slice none 0 0, .slice none 0 0]], []⟩ 8 (by kernel_rfl) (by kernel_rfl) (by kernel_rfl)
      (x := ([.nil, .nil, .lit (.int .u16 0), .agg [.lit (.int .u16 0), .lit (.int .u8 0), .lit (.int .u8 0), .lit (.int .u32 0), .lit (.int .u32 0), .lit (.int .u32 0), .lit (.int .u16 0), .nil, .nil]], [], [])) (by kernel_rfl) rfl (by simp [Rows.uptoSmall, Rows.uptoBulkAll, Rows.uptoBulk])) ?_
  intro W base args ds gs before hval0 hW hcnd hkk _
  have hval : ∀ (j : Nat) t v, Tryz.f5.params[j]? = some t → args[j]? = some v → Value.okWide Tryz.prog W .any base t v := hval0
  have hW' := hW
  obtain ⟨p, q, hA0, hV, rfl, hfz, hnd⟩ := hW
  have hA : DataW.TrodAll enc Tryz.prog W 0 (fun _ => true) true Tryz.f5.params.toList args.toList ds p := hA0
  rw [Tryz.params5] at hA hval
  obtain ⟨v0, vs0, d0, ds0, p0, q0, hargs, rfl, rfl, h0, r0⟩ := trodAll_cons hA
  obtain ⟨v1, vs1, d1, ds1, p1, q1, rfl, rfl, rfl, h1, r1⟩ := trodAll_cons r0
  obtain ⟨v2, vs2, d2, ds2, p2, q2, rfl, rfl, rfl, h2, r2⟩ := trodAll_cons r1
  obtain ⟨v3, vs3, d3, ds3, p3, q3, rfl, rfl, rfl, h3, r3⟩ := trodAll_cons r2
  obtain ⟨rfl, rfl, rfl⟩ := trodAll_nil r3
  obtain rfl : args = #[v0, v1, v2, v3] := by cases args; simp_all
  obtain ⟨rfl, rfl⟩ := trodVars_none hV
  have k0 := h0
  have lt0 : ∀ x ∈ p0, x.block < W.heap.size := by obtain ⟨m, hm⟩ := k0; exact DataW.trod_lt m _ _ _ hm
  have k1 := h1
  have lt1 : ∀ x ∈ p1, x.block < W.heap.size := by obtain ⟨m, hm⟩ := k1; exact DataW.trod_lt m _ _ _ hm
  obtain ⟨a2, rfl, rfl, rfl, w2⟩ := open_int Tryz.underlying24 (hval 2 24 v2 rfl rfl) h2
  have k3 := h3
  have lt3 : ∀ x ∈ p3, x.block < W.heap.size := by obtain ⟨m, hm⟩ := k3; exact DataW.trod_lt m _ _ _ hm
  obtain ⟨fuel0, f0⟩ := h0
  obtain ⟨Ax, lx, cx, rfl⟩ := okWide_slice Tryz.underlying23 (hval 0 23 v0 rfl rfl)
  obtain ⟨A0, n0, cap0, e0, c0, q01, q02, q03, q04⟩ := openNameB Tryz.underlying23 Tryz.underlying9 (by kernel_rfl) f0
  simp [Value.cells] at e0
  obtain ⟨rfl, rfl, rfl⟩ := e0
  obtain ⟨fuel1, f1⟩ := h1
  obtain ⟨Ay, ly, cy, rfl⟩ := okWide_slice Tryz.underlying26 (hval 1 26 v1 rfl rfl)
  obtain ⟨A1, b1, cap1, e1, c1, bl1, q11, q12, q13⟩ := openBlobs Tryz.underlying26 (by kernel_rfl) Tryz.underlying31 Tryz.underlying5 (by kernel_rfl) f1
  simp [Value.cells] at e1
  obtain ⟨rfl, rfl, rfl⟩ := e1
  obtain ⟨T2, rfl, bT2⟩ := Nm.nat_of (bounds_u16 w2)
  obtain ⟨g3, A3, cap3, S3, sc3, rfl, gs3, gc3, gl1, gl2, gl3, gc4, gl4, gl5⟩ := Nm.openSig (hval 3 33 v3 rfl rfl) h3
  have hn0 : n0.length ≤ 1048576 := by
    have hb : Rows.uptoBulkAll _ ≤ 1048576 := of_decide_eq_true hkk
    rcases q04 with rfl | ⟨es, sp, hes, hle⟩
    · simp
    · have h5 := bulk_head d0 [d1, .lit (.int .u16 T2), d3]
      have h6 := bulk_slice es sp
      have h7 : d0 = .slice es sp := hes
      rw [h7] at h5
      have h8 : Rows.uptoBulkAll (.slice es sp :: [d1, .lit (.int .u16 T2), d3]) ≤ 1048576 := by
        rw [← h7]
        exact hb
      omega
  clear hA0 hval0
  refine (Nm.WWild _ n0 _ _ b1 _ T2 (by omega) g3 A3 S3 cap3 sc3 W c0 hn0 q03 q01 c1 bl1 (Nat.le_trans q11 q12) q13 gc3 gs3 (Nat.le_trans gl1 gl2) gl3 (Nat.le_trans gl4 gl5)).mono fun e W' ⟨he, bel⟩ => ?_
  subst he
  exact ⟨_, rfl, _, _, _, [], _, [], hW', trodAll_mk1 (shut_bool Tryz.underlying4 _), (trodAll_cons_mk (Below.trod laidOut (by kernel_rfl) (of_decide_eq_true (by kernel_rfl)) k0 bel lt0) (trodAll_cons_mk (Below.trod laidOut (by kernel_rfl) (of_decide_eq_true (by kernel_rfl)) k1 bel lt1) (trodAll_cons_mk (shut_int Tryz.underlying24 w2) (trodAll_cons_mk (Below.trod laidOut (by kernel_rfl) (of_decide_eq_true (by kernel_rfl)) k3 bel lt3) trodAll_mk0)))), rfl, bel.frame _, fun h => by cases h⟩

theorem over : Rows.canonWildUptoRow.holds Tryz.pinned (Rows.OpenSpec.upto Rows.canonWildSpec) :=
  OpenClaim.holds_of_cond 5 Tryz.f5 rfl rfl rfl rfl rfl rfl rfl ⟨rfl, rfl, rfl, rfl, rfl⟩ rfl rfl rfl rfl rfl (by kernel_rfl) Tryz.func5 (by kernel_rfl)
    (of_decide_eq_true (by kernel_rfl)) (by unfold Func.isWrapper; first | (rw [if_pos (by decide +kernel)]; kernel_rfl) | (rw [if_neg (by decide +kernel)]; exact ⟨rfl, rfl⟩))
    (fun os started H enc _ F => lifted os started H enc F)

theorem proved : Rows.CanonWildUptoSaid := over
#print axioms proved
end Go.Proofs.YtkeimgamjnpcbaaGreat.canonWild
