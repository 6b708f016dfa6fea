/-
  Texts merged by a program (Reg10, Fresh2, Help, HNames, RefLow, Ints, WZOrd).
-/
import Derived.Test.YtkeimgamjnpcbaaGreatPk1
import Derived.Test.YtkeimgamjnpcbaaGreatPk2
import Derived.Test.YtkeimgamjnpcbaaGreatPk9
import Derived.Test.YtkeimgamjnpcbaaGreatPk11
import Derived.Test.YtkeimgamjnpcbaaGreatPk12
import Derived.Test.YtkeimgamjnpcbaaGreatPk16
set_option linter.unusedSimpArgs false
set_option linter.unusedVariables false
/- ZoneOrder's two records: what holds of the operations that lay them, whatever their order. -/
namespace Go.Proofs.YtkeimgamjnpcbaaGreat
open Go.RowKit
set_option linter.unusedVariables false
set_option linter.unusedSimpArgs false
namespace Nm
/-- a record of that number, in a block of its own -/
def RecAt (W : World) (B g : Nat) (k ttl : Nat) : Prop := ∃ An cn Ad cd, W.heap[g]? = some (.cells #[.slice An (recN k).length cn, .int .u16 ((recT k : Nat) : Int), .int .u16 1, .int .u32 (ttl : Int), .slice Ad (recD k).length cd] 51 (0, 0)) ∧
  W.ownsRow B 9 1 (.slice An (recN k).length cn) (recN k).length ((recN k).map strV) ∧ W.ownsRow B 5 1 (.slice Ad (recD k).length cd) (recD k).length ((recD k).map byteV)
theorem RecAt.ext {W W' : World} {B g k ttl : Nat} (h : RecAt W B g k ttl) (hE : Ext W W') : RecAt W' B g k ttl := by
  obtain ⟨An, cn, Ad, cd, h1, h2, h3⟩ := h
  exact ⟨An, cn, Ad, cd, (Below.block hE g (lt_block h1)).trans h1, own_below h2 hE, own_below h3 hE⟩
/-- another record's block is written -/
theorem RecAt.other {W W' : World} {B g g2 k ttl : Nat} {cs : Array Value} (h : RecAt W B g k ttl) (h2 : W.heap[g2]? = some (.cells cs 51 (0, 0))) (hk : Kept (fun k => k = g2) W W') (hne : g ≠ g2) : RecAt W' B g k ttl := by
  obtain ⟨An, cn, Ad, cd, h1, h3, h4⟩ := h
  exact ⟨An, cn, Ad, cd, (hk.block g (lt_block h1) hne).trans h1, row_ty (by decide) h3 h2 hk, row_ty (by decide) h4 h2 hk⟩
theorem RecV.ext {W W' : World} {B : Nat} {v : Value} {n : List Lab} {t ttl : Nat} {d : Lab} (h : RecV W B v n t ttl d) (hE : Ext W W') : RecV W' B v n t ttl d := by
  obtain ⟨An, cn, Ad, cd, h1, h2, h3⟩ := h
  exact ⟨An, cn, Ad, cd, h1, own_below h2 hE, own_below h3 hE⟩
theorem RecV.other {W W' : World} {B g2 : Nat} {v : Value} {n : List Lab} {t ttl : Nat} {d : Lab} {cs : Array Value} (h : RecV W B v n t ttl d) (h2 : W.heap[g2]? = some (.cells cs 51 (0, 0))) (hk : Kept (fun k => k = g2) W W') : RecV W' B v n t ttl d := by
  obtain ⟨An, cn, Ad, cd, h1, h3, h4⟩ := h
  exact ⟨An, cn, Ad, cd, h1, row_ty (by decide) h3 h2 hk, row_ty (by decide) h4 h2 hk⟩
def upd {α : Type} (f : Nat → α) (i : Nat) (v : α) : Nat → α := fun k => if k = i then v else f k
structure Two where
  wS : World
  sl : Value
  b : Nat
  o : Nat
  n : Nat
  j : Nat
  k0 : Nat
  m : Nat
  kA : Nat
  kB : Nat
def Two.fact (T : Two) (i : Nat) (vals : Nat → Value) (W : World) : Prop := match i with
  | 0 => vals 0 = T.sl
  | 1 => vals 1 = .int .i64 T.j
  | 2 => vals 2 = .pointer (some ⟨T.b, T.o + T.j, none⟩)
  | 3 => vals 3 = .int .u32 (T.kA : Int)
  | 4 => RecV W T.wS.heap.size (vals 4) (recN T.kA) (recT T.kA) (ttlK T.kA) (recD T.kA)
  | 5 => vals 5 = T.sl
  | 6 => vals 6 = .int .i64 T.j
  | 7 => vals 7 = .int .i64 T.k0
  | 8 => vals 8 = .int .i64 ((T.j + T.k0 : Nat) : Int)
  | 9 => vals 9 = T.sl
  | 10 => vals 10 = .int .i64 T.n
  | 11 => vals 11 = .int .i64 T.m
  | 12 => vals 12 = .pointer (some ⟨T.b, T.o + T.m, none⟩)
  | 13 => vals 13 = .int .u32 (T.kB : Int)
  | 14 => RecV W T.wS.heap.size (vals 14) (recN T.kB) (recT T.kB) (ttlK T.kB) (recD T.kB)
  | 15 => ∃ g cs, vals 15 = .pointer (some ⟨g, 0, none⟩) ∧ T.wS.heap.size ≤ g ∧ W.heap[g]? = some (.cells cs 51 (0, 0)) ∧ cs.size = 5
  | 16 => ∃ g cs, vals 16 = .pointer (some ⟨g, 0, none⟩) ∧ T.wS.heap.size ≤ g ∧ W.heap[g]? = some (.cells cs 51 (0, 0)) ∧ cs.size = 5
  | 17 => ∃ g, vals 15 = .pointer (some ⟨g, 0, none⟩) ∧ T.wS.heap.size ≤ g ∧ RecAt W T.wS.heap.size g T.kA (ttlK T.kA)
  | 18 => ∃ g, vals 16 = .pointer (some ⟨g, 0, none⟩) ∧ T.wS.heap.size ≤ g ∧ RecAt W T.wS.heap.size g T.kB (ttlK T.kB)
  | _ => True
theorem upd_ne {α : Type} {f : Nat → α} {i k : Nat} {v : α} (h : k ≠ i) : upd f i v k = f k := if_neg h
theorem upd_eq {α : Type} {f : Nat → α} {i : Nat} {v : α} : upd f i v i = v := if_pos rfl
theorem Two.stable {T : Two} {i j : Nat} {v : Value} {vals : Nat → Value} {W W' : World} (hE : Ext W W') (hji : j ≠ i) (h15 : i = 15 → j ≠ 17) (h16 : i = 16 → j ≠ 18) (h : T.fact j vals W) : T.fact j (upd vals i v) W' := by
  have e : upd vals i v j = vals j := upd_ne hji
  rcases j with _ | _ | _ | _ | _ | _ | _ | _ | _ | _ | _ | _ | _ | _ | _ | _ | _ | _ | _ | j
  all_goals first
    | exact trivial
    | exact e.trans h
    | (unfold Two.fact at h ⊢; rw [e]; exact RecV.ext h hE)
    | skip
  · obtain ⟨g, cs, h1, h2, h3, h4⟩ := h
    exact ⟨g, cs, e.trans h1, h2, (Below.block hE g (lt_block h3)).trans h3, h4⟩
  · obtain ⟨g, cs, h1, h2, h3, h4⟩ := h
    exact ⟨g, cs, e.trans h1, h2, (Below.block hE g (lt_block h3)).trans h3, h4⟩
  · obtain ⟨g, h1, h2, h3⟩ := h
    exact ⟨g, (upd_ne (fun e => h15 e.symm rfl)).trans h1, h2, h3.ext hE⟩
  · obtain ⟨g, h1, h2, h3⟩ := h
    exact ⟨g, (upd_ne (fun e => h16 e.symm rfl)).trans h1, h2, h3.ext hE⟩
structure Two.J (T : Two) (L : Nat → Bool) (vals : Nat → Value) (W : World) : Prop where
  C : Below T.wS.heap.size T.wS W
  f : ∀ j, L j = true → T.fact j vals W
  ne : L 15 = true → L 16 = true → vals 15 ≠ vals 16
  w17 : L 17 = true → L 15 = true
  w18 : L 18 = true → L 16 = true
section
variable {T : Two} {L : Nat → Bool} {vals : Nat → Value} {W W' : World} {i : Nat} {v : Value}
theorem upd_true {k : Nat} (h : upd L i true k = true) : k = i ∨ L k = true := by
  unfold upd at h
  split at h
  · exact .inl (by assumption)
  · exact .inr h
/-- an operation that makes new memory alone -/
theorem Two.J.put (h : T.J L vals W) (hL : L i = false) (hE : Ext W W') (hi : i < 15) (hn : T.fact i (upd vals i v) W') : T.J (upd L i true) (upd vals i v) W' := by
  refine ⟨h.C.trans (Below.mono hE h.C.size), fun j hj => ?_, fun h15 h16 => ?_, fun h17 => ?_, fun h18 => ?_⟩
  · by_cases hji : j = i
    · subst hji; exact hn
    · rcases upd_true hj with e | e
      · exact absurd e hji
      · exact T.stable hE hji (fun e => by omega) (fun e => by omega) (h.f j e)
  · rw [upd_ne (show 15 ≠ i by omega), upd_ne (show 16 ≠ i by omega)]
    exact h.ne ((upd_ne (show 15 ≠ i by omega)).symm.trans h15) ((upd_ne (show 16 ≠ i by omega)).symm.trans h16)
  · rw [upd_ne (show 15 ≠ i by omega)]
    exact h.w17 ((upd_ne (show 17 ≠ i by omega)).symm.trans h17)
  · rw [upd_ne (show 16 ≠ i by omega)]
    exact h.w18 ((upd_ne (show 18 ≠ i by omega)).symm.trans h18)
/-- a record's block is made -/
theorem Two.J.alloc (h : T.J L vals W) (hL : L i = false) (hi : i = 15 ∨ i = 16) (cs : Array Value) (hcs : cs.size = 5) : T.J (upd L i true) (upd vals i (.pointer (some ⟨W.heap.size, 0, none⟩))) (W.alloc (.cells cs 51)) := by
  have hE : Ext W (W.alloc (.cells cs 51)) := (Below.refl _ _).alloc (Nat.le_refl _) _
  have hnew := heap_alloc_new W (.cells cs 51)
  have hs := h.C.size
  have h17n : i = 15 → L 17 = false := fun e => by
    cases hh : L 17
    · rfl
    · have := h.w17 hh; rw [← e, hL] at this; cases this
  have h18n : i = 16 → L 18 = false := fun e => by
    cases hh : L 18
    · rfl
    · have := h.w18 hh; rw [← e, hL] at this; cases this
  refine ⟨h.C.trans (Below.mono hE h.C.size), fun j hj => ?_, fun h15 h16 => ?_, fun h17 => ?_, fun h18 => ?_⟩
  · by_cases hji : j = i
    · subst hji
      rcases hi with rfl | rfl
      · exact ⟨_, cs, upd_eq, hs, hnew, hcs⟩
      · exact ⟨_, cs, upd_eq, hs, hnew, hcs⟩
    · rcases upd_true hj with e | e
      · exact absurd e hji
      · exact T.stable hE hji (fun e2 e3 => by rw [e3, h17n e2] at e; cases e) (fun e2 e3 => by rw [e3, h18n e2] at e; cases e) (h.f j e)
  · rcases hi with rfl | rfl
    · rw [upd_eq, upd_ne (by decide)]
      obtain ⟨g, cs', e1, _, e2, _⟩ := h.f 16 ((upd_ne (show 16 ≠ 15 by decide)).symm.trans h16)
      rw [e1]
      intro e
      injection e with e
      injection e with e
      injection e with e
      have := lt_block e2
      omega
    · rw [upd_eq, upd_ne (by decide)]
      obtain ⟨g, cs', e1, _, e2, _⟩ := h.f 15 ((upd_ne (show 15 ≠ 16 by decide)).symm.trans h15)
      rw [e1]
      intro e
      injection e with e
      injection e with e
      injection e with e
      have := lt_block e2
      omega
  · rcases upd_true h17 with e | e
    · rcases hi with rfl | rfl <;> cases e
    · have := h.w17 e
      unfold upd; split
      · rfl
      · exact this
  · rcases upd_true h18 with e | e
    · rcases hi with rfl | rfl <;> cases e
    · have := h.w18 e
      unfold upd; split
      · rfl
      · exact this
/-- the first record is stored -/
theorem Two.J.store17 (h : T.J L vals W) (hL15 : L 15 = true) {g : Nat} {cs0 : Array Value} (hg : vals 15 = .pointer (some ⟨g, 0, none⟩)) (hg0 : W.heap[g]? = some (.cells cs0 51 (0, 0))) (hgs : T.wS.heap.size ≤ g) (hk : Kept (fun k => k = g) W W') {cs1 : Array Value} (hg1 : W'.heap[g]? = some (.cells cs1 51 (0, 0))) (hc1 : cs1.size = 5) (hr : RecAt W' T.wS.heap.size g T.kA (ttlK T.kA)) : T.J (upd L 17 true) (upd vals 17 v) W' := by
  have hC : Below T.wS.heap.size T.wS W' := h.C.trans (hk.below h.C.size (fun k hk2 e => by omega))
  refine ⟨hC, fun j hj => ?_, fun h15 h16 => ?_, fun h17 => ?_, fun h18 => ?_⟩
  · by_cases hji : j = 17
    · subst hji
      exact ⟨g, (upd_ne (by decide)).trans hg, hgs, hr⟩
    · rcases upd_true hj with e | e
      · exact absurd e hji
      · have hf := h.f j e
        have e0 : upd vals 17 v j = vals j := upd_ne hji
        rcases j with _ | _ | _ | _ | _ | _ | _ | _ | _ | _ | _ | _ | _ | _ | _ | _ | _ | _ | _ | j
        all_goals first
          | exact trivial
          | exact e0.trans hf
          | (unfold Two.fact at hf ⊢; rw [e0]; exact RecV.other hf hg0 hk)
          | skip
        · exact ⟨g, cs1, (upd_ne (by decide)).trans hg, hgs, hg1, hc1⟩
        · obtain ⟨g', cs, h1, h2, h3, h4⟩ := hf
          have hne : g' ≠ g := fun e2 => h.ne hL15 e (by rw [hg, h1, e2])
          exact ⟨g', cs, (upd_ne (by decide)).trans h1, h2, (hk.block g' (lt_block h3) hne).trans h3, h4⟩
        · exact absurd rfl hji
        · obtain ⟨g', h1, h2, h3⟩ := hf
          have hne : g' ≠ g := fun e2 => h.ne hL15 (h.w18 e) (by rw [hg, h1, e2])
          exact ⟨g', (upd_ne (by decide)).trans h1, h2, h3.other hg0 hk hne⟩
  · rw [upd_ne (by decide), upd_ne (by decide)]
    exact h.ne hL15 ((upd_ne (show 16 ≠ 17 by decide)).symm.trans h16)
  · rw [upd_ne (by decide)]; exact hL15
  · rw [upd_ne (by decide)]
    exact h.w18 ((upd_ne (show 18 ≠ 17 by decide)).symm.trans h18)
/-- the second record is stored -/
theorem Two.J.store18 (h : T.J L vals W) (hL16 : L 16 = true) {g : Nat} {cs0 : Array Value} (hg : vals 16 = .pointer (some ⟨g, 0, none⟩)) (hg0 : W.heap[g]? = some (.cells cs0 51 (0, 0))) (hgs : T.wS.heap.size ≤ g) (hk : Kept (fun k => k = g) W W') {cs1 : Array Value} (hg1 : W'.heap[g]? = some (.cells cs1 51 (0, 0))) (hc1 : cs1.size = 5) (hr : RecAt W' T.wS.heap.size g T.kB (ttlK T.kB)) : T.J (upd L 18 true) (upd vals 18 v) W' := by
  have hC : Below T.wS.heap.size T.wS W' := h.C.trans (hk.below h.C.size (fun k hk2 e => by omega))
  refine ⟨hC, fun j hj => ?_, fun h15 h16 => ?_, fun h17 => ?_, fun h18 => ?_⟩
  · by_cases hji : j = 18
    · subst hji
      exact ⟨g, (upd_ne (by decide)).trans hg, hgs, hr⟩
    · rcases upd_true hj with e | e
      · exact absurd e hji
      · have hf := h.f j e
        have e0 : upd vals 18 v j = vals j := upd_ne hji
        rcases j with _ | _ | _ | _ | _ | _ | _ | _ | _ | _ | _ | _ | _ | _ | _ | _ | _ | _ | _ | j
        all_goals first
          | exact trivial
          | exact e0.trans hf
          | (unfold Two.fact at hf ⊢; rw [e0]; exact RecV.other hf hg0 hk)
          | skip
        · obtain ⟨g', cs, h1, h2, h3, h4⟩ := hf
          have hne : g' ≠ g := fun e2 => h.ne e hL16 (by rw [hg, h1, e2])
          exact ⟨g', cs, (upd_ne (by decide)).trans h1, h2, (hk.block g' (lt_block h3) hne).trans h3, h4⟩
        · exact ⟨g, cs1, (upd_ne (by decide)).trans hg, hgs, hg1, hc1⟩
        · obtain ⟨g', h1, h2, h3⟩ := hf
          have hne : g' ≠ g := fun e2 => h.ne (h.w17 e) hL16 (by rw [hg, h1, e2])
          exact ⟨g', (upd_ne (by decide)).trans h1, h2, h3.other hg0 hk hne⟩
        · exact absurd rfl hji
  · rw [upd_ne (by decide), upd_ne (by decide)]
    exact h.ne ((upd_ne (show 15 ≠ 18 by decide)).symm.trans h15) hL16
  · rw [upd_ne (by decide)]
    exact h.w17 ((upd_ne (show 17 ≠ 18 by decide)).symm.trans h17)
  · rw [upd_ne (by decide)]; exact hL16
end
end Nm
end Go.Proofs.YtkeimgamjnpcbaaGreat

/- Contracts of the reference's Fresh; names and signatures held against one another. -/
namespace Go.Proofs.YtkeimgamjnpcbaaGreat
open Go.RowKit
set_option linter.unusedVariables false
namespace Nm
set_option maxRecDepth 100000 in
set_option maxHeartbeats 10000000 in
theorem RefFresh (s : SetV) (ttl tag now valid : Int) (A : Option Addr) (sn : List Lab) (cap : Nat) (w : World) (hs : s.ok w) (hsn : s.n.length ≤ 1000) (hscap : s.n.length ≤ s.cap) (hscap2 : s.cap ≤ maxLen)
    (hc : Cs w A (sn.map strV)) (hn : sn.length ≤ 1000) (h1 : 0 ≤ now) (h2 : now ≤ 4294967295) (h3 : 0 ≤ valid) (h4 : valid ≤ 4294967295) :
    Calls Tryz.prog 16 #[s.v, .int .u32 ttl, .int .u16 tag, .slice A sn.length cap, .int .u32 now, .int .u32 valid] w fun e w' =>
      e = .returned (.agg #[.int .u16 s.t, .int .u8 253, .int .u8 (labels s.n), .int .u32 ttl, .int .u32 (plus now valid), .int .u32 now, .int .u16 tag, .slice A sn.length cap, .slice none 0 0]) ∧ Below w.heap.size w w' := by
  unfold SetV.v
  obtain ⟨hs1, _, _⟩ := hs
  have HS := Lib.hid hs1
  have HC := Lib.hid hc
  clear hs1 hc
  go_enter Tryz.func16, Tryz.ntmps16
  go_wp2_with fail
  generalize hw1 : (w.alloc (.cells #[.slice s.A s.n.length s.cap, .int .u16 s.t, .int .u32 s.ttl, .slice s.D s.ds.length s.dcap] 28)).alloc _ = w1
  have hb1 : Below w.heap.size w w1 := by rw [← hw1]; exact ((Below.refl _ _).alloc (Nat.le_refl _) _).alloc (by simp) _
  have hsz1 : w1.heap.size = w.heap.size + 2 := by rw [← hw1]; simp
  have HS1 := Lib.hid (HS.out.below hb1)
  have HC1 := Lib.hid (HC.out.below hb1)
  have hr : w1.heap[w.heap.size + 1]? = some (.cells #[.int .u16 0, .int .u8 0, .int .u8 0, .int .u32 0, .int .u32 0, .int .u32 0, .int .u16 0, .slice none 0 0, .slice none 0 0] 33 (0, 0)) := by
    have := heap_alloc_new (w.alloc (.cells #[.slice s.A s.n.length s.cap, .int .u16 s.t, .int .u32 s.ttl, .slice s.D s.ds.length s.dcap] 28)) (.cells #[.int .u16 0, .int .u8 0, .int .u8 0, .int .u32 0, .int .u32 0, .int .u32 0, .int .u16 0, .slice none 0 0, .slice none 0 0] 33)
    rw [World.size_alloc] at this
    rw [← hw1]; exact this
  have hx0 : w1.cell? ⟨w.heap.size, 0, none⟩ = some (.slice s.A s.n.length s.cap) := by rw [← hw1]; simp [go_sem]
  have hx1 : w1.cell? ⟨w.heap.size, 1, none⟩ = some (.int .u16 s.t) := by rw [← hw1]; simp [go_sem]
  clear hw1
  refine wp_region_rel (by kernel_rfl) (by kernel_rfl) (fun _ _ => false) (by kernel_rfl)
    (fun i W W' => if i = 13 then W.grownBy W' (some (w.heap.size + 1)) ∧ (∃ cs, W'.heap[w.heap.size + 1]? = some (.cells cs 33 (0, 0)) ∧ cs.size = 9) else Below W.heap.size W W')
    (fun W => w1.grownBy W (some (w.heap.size + 1)) ∧ ∃ cs, W.heap[w.heap.size + 1]? = some (.cells cs 33 (0, 0)) ∧ cs.size = 9)
    (fun i v W => match i with
      | 0 => v = .pointer (some ⟨w.heap.size, 1, none⟩)
      | 1 => v = .int .u16 s.t
      | 2 => v = .pointer (some ⟨w.heap.size, 0, none⟩)
      | 3 => v = .slice s.A s.n.length s.cap
      | 4 => v = .int .u8 (labels s.n)
      | 5 => v = .int .u32 ttl
      | 6 => v = .int .u32 now
      | 7 => v = .int .u32 valid
      | 8 => v = .int .u32 (plus now valid)
      | 9 => v = .int .u32 now
      | 10 => v = .int .u16 tag
      | 11 => v = .slice A sn.length cap
      | 12 => v = .agg #[.int .u16 s.t, .int .u8 253, .int .u8 (labels s.n), .int .u32 ttl, .int .u32 (plus now valid), .int .u32 now, .int .u16 tag, .slice A sn.length cap, .slice none 0 0]
      | 13 => W.heap[w.heap.size + 1]? = some (.cells #[.int .u16 s.t, .int .u8 253, .int .u8 (labels s.n), .int .u32 ttl, .int .u32 (plus now valid), .int .u32 now, .int .u16 tag, .slice A sn.length cap, .slice none 0 0] 33 (0, 0))
      | _ => True)
    ?_ ?_ ?_ ?_ ?_
  · exact ⟨⟨rfl, rfl, rfl, Nat.le_refl _, fun _ _ _ => rfl⟩, _, hr, rfl⟩
  · intro i W W' ⟨hg, hcs⟩ hT
    by_cases hi : i = 13
    · simp only [hi, if_true] at hT
      exact ⟨hg.trans hT.1, hT.2⟩
    · simp only [hi, if_false] at hT
      obtain ⟨cs, h5, h6⟩ := hcs
      exact ⟨hg.trans ⟨hT.os, hT.tape, hT.output, hT.size, fun k hk _ => hT.block k hk⟩, cs, (hT.block _ (lt_block h5)).trans h5, h6⟩
  · intro i j v W W' hij _ _ hCW hRj hT
    by_cases hi : i = 13
    · simp only [hi, if_true] at hT
      rcases j with _ | _ | _ | _ | _ | _ | _ | _ | _ | _ | _ | _ | _ | _ | j
      all_goals first
        | exact hRj
        | (exfalso; omega)
        | trivial
    · simp only [hi, if_false] at hT
      rcases j with _ | _ | _ | _ | _ | _ | _ | _ | _ | _ | _ | _ | _ | _ | j
      all_goals first
        | exact hRj
        | exact (hT.block _ (lt_block hRj)).trans hRj
  · intro i o hio vals W hCW haf
    have e0 : W.cell? ⟨w.heap.size, 0, none⟩ = some (.slice s.A s.n.length s.cap) := hCW.1.cell hx0 (by simp)
    have e1 : W.cell? ⟨w.heap.size, 1, none⟩ = some (.int .u16 s.t) := hCW.1.cell hx1 (by simp)
    have hbw : Below w.heap.size w W := hb1.grown hCW.1 hb1.size (fun k hk => by cases hk; omega)
    have hcs : Cs W s.A (s.n.map strV) := HS.out.below hbw
    have hcn : Cs W A (sn.map strV) := HC.out.below hbw
    have hWs := hCW.1.size
    rcases i with _ | _ | _ | _ | _ | _ | _ | _ | _ | _ | _ | _ | _ | _ | i
    · simp at hio
      subst hio
      simp [bindD, rdB, Region.binds] at haf
      simp [opYield_def, yieldUpon, relAct, dstAt, Act.put, Region.wanted, go_sem, haf, e0, e1, Below.refl]
    · simp at hio
      subst hio
      simp [bindD, rdB, Region.binds] at haf
      simp [opYield_def, yieldUpon, relAct, dstAt, Act.put, Region.wanted, go_sem, haf, e0, e1, Below.refl]
    · simp at hio
      subst hio
      simp [bindD, rdB, Region.binds] at haf
      simp [opYield_def, yieldUpon, relAct, dstAt, Act.put, Region.wanted, go_sem, haf, e0, e1, Below.refl]
    · simp at hio
      subst hio
      simp [bindD, rdB, Region.binds] at haf
      simp [opYield_def, yieldUpon, relAct, dstAt, Act.put, Region.wanted, go_sem, haf, e0, e1, Below.refl]
    · simp at hio
      subst hio
      simp [bindD, rdB, Region.binds] at haf
      simp [opYield_def, yieldUpon, relAct, dstAt, Act.put, Region.wanted, go_sem, haf]
      exact (RefLabels s.A s.n s.cap W hcs (by omega)).mono fun e W' ⟨h1, h2⟩ => ⟨h1, h2 ▸ Below.refl _ _⟩
    · simp at hio
      subst hio
      simp [bindD, rdB, Region.binds] at haf
      simp [opYield_def, yieldUpon, relAct, dstAt, Act.put, Region.wanted, go_sem, haf, e0, e1, Below.refl]
    · simp at hio
      subst hio
      simp [bindD, rdB, Region.binds] at haf
      simp [opYield_def, yieldUpon, relAct, dstAt, Act.put, Region.wanted, go_sem, haf, e0, e1, Below.refl]
    · simp at hio
      subst hio
      simp [bindD, rdB, Region.binds] at haf
      simp [opYield_def, yieldUpon, relAct, dstAt, Act.put, Region.wanted, go_sem, haf, e0, e1, Below.refl]
    · simp at hio
      subst hio
      simp [bindD, rdB, Region.binds] at haf
      simp [opYield_def, yieldUpon, relAct, dstAt, Act.put, Region.wanted, go_sem, haf]
      exact (RefPlus now valid h1 h2 h3 h4 W).mono fun e W' ⟨h1, h2⟩ => ⟨h1, h2 ▸ Below.refl _ _⟩
    · simp at hio
      subst hio
      simp [bindD, rdB, Region.binds] at haf
      simp [opYield_def, yieldUpon, relAct, dstAt, Act.put, Region.wanted, go_sem, haf, e0, e1, Below.refl]
    · simp at hio
      subst hio
      simp [bindD, rdB, Region.binds] at haf
      simp [opYield_def, yieldUpon, relAct, dstAt, Act.put, Region.wanted, go_sem, haf, e0, e1, Below.refl]
    · simp at hio
      subst hio
      simp [bindD, rdB, Region.binds] at haf
      simp [opYield_def, yieldUpon, relAct, dstAt, Act.put, Region.wanted, go_sem, haf, e0, e1, Below.refl]
    · simp at hio
      subst hio
      simp [bindD, rdB, Region.binds] at haf
      simp [opYield_def, yieldUpon, relAct, dstAt, Act.put, Region.wanted, go_sem, haf, e0, e1, Below.refl]
    · simp at hio
      subst hio
      have q13 := haf ⟨12, .data⟩ (by simp) (by decide)
      simp at q13
      clear haf
      refine hCW.2.elim fun cs hz => ?_
      have hcs2 := hz.1
      have hsz := hz.2
      refine yield_store (g := w.heap.size + 1) (cells := #[.int .u16 s.t, .int .u8 253, .int .u8 (labels s.n), .int .u32 ttl, .int .u32 (plus now valid), .int .u32 now, .int .u16 tag, .slice A sn.length cap, .slice none 0 0]) rfl rfl (by simp [relAct, dstAt, Act.put, Act.eval]) (by simp [relAct, dstAt, Act.put, Act.eval, q13]) hcs2 (by kernel_rfl) hsz (by simp [Value.oneCell']) ?_
      have hblk := setRow_block W (w.heap.size + 1) #[.int .u16 s.t, .int .u8 253, .int .u8 (labels s.n), .int .u32 ttl, .int .u32 (plus now valid), .int .u32 now, .int .u16 tag, .slice A sn.length cap, .slice none 0 0] cs 33 (0, 0) hcs2
      have hgr := setRow_grown W (w.heap.size + 1) #[.int .u16 s.t, .int .u8 253, .int .u8 (labels s.n), .int .u32 ttl, .int .u32 (plus now valid), .int .u32 now, .int .u16 tag, .slice A sn.length cap, .slice none 0 0]
      refine ⟨?_, hblk⟩
      rw [if_pos rfl]
      exact ⟨hgr, _, hblk, rfl⟩
    · simp at hio
  · intro vals W hCW hR
    have hblk := hR 13 (by show 13 < 14; omega) (fun _ _ => rfl)
    simp [relAct, dstAt, Act.put]
    clear hR
    obtain ⟨k0, k1, k2, k3, k4, k5, k6, k7, k8, _⟩ := cells9 hblk
    have hbw : Below w.heap.size w W := hb1.grown hCW.1 hb1.size (fun k hk => by cases hk; omega)
    clear hblk hCW hr hx0 hx1
    go_wp2_with fail
    refine bodyPost_ret (v := .agg #[.int .u16 s.t, .int .u8 253, .int .u8 (labels s.n), .int .u32 ttl, .int .u32 (plus now valid), .int .u32 now, .int .u16 tag, .slice A sn.length cap, .slice none 0 0]) ?_ rfl ⟨rfl, hbw⟩
    simp [results, Tryz.results16, go_sem, k0, k1, k2, k3, k4, k5, k6, k7, k8]
end Nm
end Go.Proofs.YtkeimgamjnpcbaaGreat

/- Contracts of the laws' help: names held against one another; light names. -/
namespace Go.Proofs.YtkeimgamjnpcbaaGreat
open Go.RowKit
set_option linter.unusedVariables false
namespace Nm
def NameR (a b : List Lab) (w : World) (i : Value) (wr : World) : Prop :=
  ∃ k : Nat, k ≤ a.length ∧ i = .int .i64 k ∧ a.take k = b.take k ∧ Below w.heap.size w wr
set_option maxRecDepth 100000 in
set_option maxHeartbeats 4000000 in
theorem HName (A B : Option Addr) (a b : List Lab) (ca cb : Nat) (w : World) (hca : Cs w A (a.map strV)) (hcb : Cs w B (b.map strV)) (hla : a.length ≤ 1000000) (hlb : b.length ≤ 1000000) :
    Calls Tryz.prog 32 #[.slice A a.length ca, .slice B b.length cb] w fun e w' => Below w.heap.size w w' ∧ e = .returned (.bool (decide (a = b))) := by
  have HA := Lib.hid hca
  have HB := Lib.hid hcb
  clear hca hcb
  by_cases hl : a.length = b.length
  · have hlb2 : ((a.length : Int) != (b.length : Int)) = false := by simp [hl]
    have HL := Lib.hid hl
    clear hl
    go_enter Tryz.func32, Tryz.ntmps32
    go_wp2_with fail
    go_loopw [5] (NameR a b w) (fun i _ => a.length - (intOf i).toNat)
    case atStart => exact ⟨0, Nat.zero_le _, rfl, rfl, Below.refl _ _⟩
    case round =>
      obtain ⟨k, hk, rfl, htk, hbel⟩ := hrel
      have HT := Lib.hid htk
      clear htk
      by_cases hlt : k < a.length
      · have hlt2 : k < b.length := by have := HL.out; omega
        obtain ⟨ba, oa, rfl, hba, hxa⟩ := Cs.str HA.out hlt
        obtain ⟨bb, ob, rfl, hbb, hxb⟩ := Cs.str HB.out hlt2
        have hxa1 := (hbel.cell (p := ⟨ba, oa + k, none⟩) hba).trans hxa
        have hxb1 := (hbel.cell (p := ⟨bb, ob + k, none⟩) hbb).trans hxb
        have HN : Hid (∀ h : a[k] = b[k], a.take (k + 1) = b.take (k + 1)) := Lib.hid (fun h => by rw [List.take_succ_eq_append_getElem hlt, List.take_succ_eq_append_getElem hlt2, HT.out, h])
        have HD : Hid (a[k] ≠ b[k] → a ≠ b) := Lib.hid (fun h e => h (by subst e; rfl))
        clear hxa hxb
        generalize a[k] = x at *
        generalize b[k] = y at *
        by_cases hxy : x = y
        · subst hxy
          have HN2 := Lib.hid (HN.out rfl)
          clear HN HD
          go_wp2_with fail
          go_region
          go_wp2_with fail
          exact ⟨⟨k + 1, hlt, by go_num, HN2.out, hbel.drew⟩, by simp [intOf]; omega⟩
        · have HD2 := Lib.hid (HD.out hxy)
          have hne : ((strB x).toList == (strB y).toList) = false := by rw [strB_toList, strB_toList, beq_eq_false_iff_ne]; exact hxy
          have hne2 : ((strB x).toList != (strB y).toList) = true := by rw [strB_toList, strB_toList, bne_iff_ne]; exact hxy
          clear HN HD hxy
          go_wp2_with fail
          go_region
          go_wp2_with fail
          go_ret
          exact ⟨hbel.drew, ret_bool (by simp [HD2.out])⟩
      · have HE : Hid (a = b) := Lib.hid (by
          have h1 := HT.out
          have h2 := HL.out
          rw [List.take_of_length_le (by omega), List.take_of_length_le (by omega)] at h1
          exact h1)
        go_wp2_with fail
        go_ret
        exact ⟨hbel, ret_bool (by simp [HE.out])⟩
  · have hlb2 : ((a.length : Int) != (b.length : Int)) = true := by simp; omega
    have HD : Hid (a ≠ b) := Lib.hid (fun e => hl (by rw [e]))
    go_enter Tryz.func32, Tryz.ntmps32
    go_wp2_with fail
    go_ret
    exact ⟨Below.refl _ _, ret_bool (by simp [HD.out])⟩
end Nm
end Go.Proofs.YtkeimgamjnpcbaaGreat

/- Contracts of the laws' help: Names. -/
namespace Go.Proofs.YtkeimgamjnpcbaaGreat
open Go.RowKit
set_option linter.unusedVariables false
set_option linter.unusedSimpArgs false
namespace Nm
def HnR (a b : List NmB) (w : World) (i : Value) (wr : World) : Prop := ∃ j : Nat, j ≤ a.length ∧ i = .int .i64 j ∧ (a.take j).map (·.l) = (b.take j).map (·.l) ∧ Below w.heap.size w wr
set_option maxRecDepth 100000 in
set_option maxHeartbeats 4000000 in
theorem HNames (A B : Option Addr) (a b : List NmB) (ca cb : Nat) (w : World) (hca : Cs w A (a.map NmB.v)) (hcb : Cs w B (b.map NmB.v)) (hla : a.length ≤ 1000000) (hlb : b.length ≤ 1000000) (hoa : ∀ x ∈ a, x.ok w ∧ x.l.length ≤ 1000000) (hob : ∀ x ∈ b, x.ok w ∧ x.l.length ≤ 1000000) :
    Calls Tryz.prog 33 #[.slice A a.length ca, .slice B b.length cb] w fun e w' => Below w.heap.size w w' ∧ e = .returned (.bool (decide (a.map (·.l) = b.map (·.l)))) := by
  have HA := Lib.hid hca
  have HB := Lib.hid hcb
  have HOA := Lib.hid hoa
  have HOB := Lib.hid hob
  clear hca hcb hoa hob
  by_cases hl : a.length = b.length
  · have hlb2 : ((a.length : Int) != (b.length : Int)) = false := by simp [hl]
    have HL := Lib.hid hl
    clear hl
    go_enter Tryz.func33, Tryz.ntmps33
    go_wp2_with fail
    go_loopw [5] (HnR a b w) (fun i _ => a.length - (intOf i).toNat)
    case atStart => exact ⟨0, Nat.zero_le _, rfl, rfl, Below.refl _ _⟩
    case round =>
      obtain ⟨j, hj, rfl, heq, hbel⟩ := hrel
      have HEQ := Lib.hid heq
      clear heq
      by_cases hlt : j < a.length
      · have hltb : j < b.length := by have := HL.out; omega
        obtain ⟨ba, oa, rfl, hba, hxa⟩ := HA.out j _ (by rw [List.getElem?_map, List.getElem?_eq_getElem hlt]; rfl)
        obtain ⟨bb, ob, rfl, hbb, hxb⟩ := HB.out j _ (by rw [List.getElem?_map, List.getElem?_eq_getElem hltb]; rfl)
        have hta : (a.take (j + 1)).map (·.l) = (a.take j).map (·.l) ++ [a[j].l] := by rw [List.take_succ_eq_append_getElem hlt, List.map_append]; rfl
        have htb : (b.take (j + 1)).map (·.l) = (b.take j).map (·.l) ++ [b[j].l] := by rw [List.take_succ_eq_append_getElem hltb, List.map_append]; rfl
        have hne : a[j].l ≠ b[j].l → a.map (·.l) ≠ b.map (·.l) := fun hn e => by
          have h0 : (a.map (·.l))[j]? = (b.map (·.l))[j]? := by rw [e]
          rw [List.getElem?_map, List.getElem?_map, List.getElem?_eq_getElem hlt, List.getElem?_eq_getElem hltb] at h0
          simp at h0
          exact hn h0
        have hox := HOA.out _ (List.getElem_mem hlt)
        have hoy := HOB.out _ (List.getElem_mem hltb)
        have HT := Lib.hid (And.intro hta (And.intro htb hne))
        generalize a[j] = x at *
        generalize b[j] = y at *
        obtain ⟨xA, xl, xc⟩ := x
        obtain ⟨yA, yl, yc⟩ := y
        unfold NmB.v at hxa hxb
        unfold NmB.ok at hox hoy
        simp only at hxa hxb hox hoy
        obtain ⟨hox, hxl⟩ := hox
        obtain ⟨hoy, hyl⟩ := hoy
        have hxa1 := (hbel.cell (p := ⟨ba, oa + j, none⟩) hba).trans hxa
        have hxb1 := (hbel.cell (p := ⟨bb, ob + j, none⟩) hbb).trans hxb
        have hs := hbel.size
        have HX := Lib.hid (And.intro (hox.below hbel) (hoy.below hbel))
        clear hta htb hne hxa hxb hox hoy
        go_wp2_with fail
        refine wp_region_mono mixed0 (by kernel_rfl) [.is (.slice (some ⟨ba, oa, none⟩) a.length ca), .is (.int .i64 j), .is (.pointer (some ⟨ba, oa + j, none⟩)), .is (.slice xA xl.length xc), .is (.slice (some ⟨bb, ob, none⟩) b.length cb), .is (.int .i64 j), .is (.pointer (some ⟨bb, ob + j, none⟩)), .is (.slice yA yl.length yc), .is (.bool (decide (xl = yl))), .is (.bool (!decide (xl = yl)))] rfl ?_ ?_
        · intro i o hio vals W hE haf
          have e0 := (bcl hE (by omega)).trans hxa1
          have e1 := (bcl hE (by omega)).trans hxb1
          have hjj : (0 : Int) ≤ (j : Int) ∧ (j : Int) < a.length ∧ (j : Int) < b.length := by omega
          rcases i with _ | _ | _ | _ | _ | _ | _ | _ | _ | _ | i
          all_goals first
            | (exfalso; simp at hio; done)
            | (simp at hio; subst hio; simp [bindD, rdB, Region.binds, factAt] at haf; simp [opYield_def, yieldUpon, relAct, dstAt, Act.put, Region.wanted, go_sem, haf, e0, e1, Ext.refl, factAt, hlt, hltb, hjj]; done)
            | skip
          all_goals
            simp at hio
            subst hio
            simp [bindD, rdB, Region.binds, factAt] at haf
            simp [opYield_def, yieldUpon, relAct, dstAt, Act.put, Region.wanted, go_sem, haf, factAt]
          · exact (HName xA yA xl yl xc yc W (HX.out.1.below hE) (HX.out.2.below hE) hxl hyl).mono fun e W' h => ⟨h.2, h.1⟩
        · intro vals W hE hF
          simp [facts] at hF
          simp [relAct, dstAt, Act.put, hF]
          clear hF
          have hb5 := hbel.trans (Below.mono hE hs)
          by_cases hxy : xl = yl
          · have d1 : decide (xl = yl) = true := decide_eq_true hxy
            have HXY := Lib.hid hxy
            rw [d1]
            clear hxy d1
            go_wp2_with fail
            exact ⟨⟨j + 1, by omega, by go_num, by rw [HT.out.1, HT.out.2.1, HEQ.out, HXY.out], hb5⟩, by simp [intOf]; omega⟩
          · have d1 : decide (xl = yl) = false := decide_eq_false hxy
            have d2 := decide_eq_false (HT.out.2.2 hxy)
            have D2 := Lib.hid d2
            rw [d1]
            clear hxy d1 d2
            go_wp2_with fail
            go_ret
            exact ⟨hb5, ret_bool D2.out.symm⟩
      · have hjl : j = a.length := by omega
        subst hjl
        have d2 : decide (a.map (·.l) = b.map (·.l)) = true := by
          refine decide_eq_true ?_
          have := HEQ.out
          rw [List.take_length, HL.out, List.take_length] at this
          exact this
        have D2 := Lib.hid d2
        clear d2
        go_wp2_with fail
        go_ret
        exact ⟨hbel, ret_bool D2.out.symm⟩
  · have hlb2 : ((a.length : Int) != (b.length : Int)) = true := by simp; omega
    have d2 : decide (a.map (·.l) = b.map (·.l)) = false := decide_eq_false fun e => hl (by have := congrArg List.length e; simpa using this)
    have D2 := Lib.hid d2
    clear hl d2
    go_enter Tryz.func33, Tryz.ntmps33
    go_wp2_with fail
    go_ret
    exact ⟨Below.refl _ _, ret_bool D2.out.symm⟩
end Nm
end Go.Proofs.YtkeimgamjnpcbaaGreat

/- Contracts of the reference's texts in small letters; of a place among so many. -/
namespace Go.Proofs.YtkeimgamjnpcbaaGreat
open Go.RowKit
set_option linter.unusedVariables false
set_option linter.unusedSimpArgs false
namespace Nm
theorem refLow (c : UInt8) (w : World) : Calls Tryz.prog 94 #[.int .u8 (c.toNat : Nat)] w fun e w' => e = .returned (.int .u8 ((lowB c).toNat : Nat)) ∧ w = w' := by
  have hc256 : c.toNat < 256 := UInt8.toNat_lt c
  by_cases hu : 65 ≤ c.toNat ∧ c.toNat ≤ 90
  · obtain ⟨hu1, hu2⟩ := hu
    have hb : (((lowB c).toNat : Nat) : Int) = (c.toNat : Int) + 32 := by
      unfold lowB
      rw [if_pos ⟨hu1, hu2⟩, UInt8.toNat_add]
      have : (32 : UInt8).toNat = 32 := rfl
      omega
    rw [hb]
    have hu1' : (65 : Int) ≤ (c.toNat : Int) := by omega
    have hu2' : (c.toNat : Int) ≤ 90 := by omega
    go_enter Tryz.func94, Tryz.ntmps94
    go_wp2_with fail
    go_ret
    exact ⟨rfl, rfl⟩
  · have hb : lowB c = c := by unfold lowB; rw [if_neg hu]
    rw [hb]
    by_cases h1 : 65 ≤ c.toNat
    · have hu1' : (65 : Int) ≤ (c.toNat : Int) := by omega
      have hu2' : (90 : Int) < (c.toNat : Int) := by omega
      clear hu hb
      go_enter Tryz.func94, Tryz.ntmps94
      go_wp2_with fail
      go_ret
      exact ⟨rfl, rfl⟩
    · have hu1' : (c.toNat : Int) < 65 := by omega
      clear hu h1 hb
      go_enter Tryz.func94, Tryz.ntmps94
      go_wp2_with fail
      go_ret
      exact ⟨rfl, rfl⟩
set_option maxHeartbeats 1000000 in
theorem LowText (l : Lab) (w : World) (hl : l.length ≤ 1000000) : Calls Tryz.prog 58 #[.string (strB l)] w fun e w' => e = .returned (.string (strB (low l))) ∧ Below w.heap.size w w' := by
  obtain ⟨w1, cap, cs, fr, hrun, hcap, hb1, hs1, hblk, htake, hfr⟩ := bytes_of w l
  go_enter Tryz.func58, Tryz.ntmps58
  go_wp2_with fail
  have HB := Lib.hid hblk
  have HT := Lib.hid htake
  clear hblk htake hrun
  go_loopw [4] (SmallR l w fr) (fun i _ => l.length - (intOf i).toNat)
  case atStart => exact ⟨0, cs, Nat.zero_le _, rfl, HB.out, by rw [half_zero]; exact HT.out, hb1⟩
  case round =>
    obtain ⟨k, cs, hk, rfl, hblk, htake, hbw⟩ := hrel
    have HB := Lib.hid hblk
    have HT := Lib.hid htake
    have ht2 : cs.toList.take (half l k).length = (half l k).map byteV := by rw [half_len]; exact htake
    by_cases hlt : k < l.length
    · have hk2 : k < (half l k).length := by rw [half_len]; exact hlt
      have hc := blk_cell hblk ht2 hk2
      rw [half_at hlt] at hc
      have hz := blk_frozen (i := k) hblk (by omega)
      clear hblk htake
      generalize hce : l[k] = c at *
      have hset := blk_set (i := k) HB.out ht2 (lowB c)
      rw [half_set hlt (lowB c) (by rw [hce])] at hset
      have HS := Lib.hid hset
      have hc' : wr.cell? ⟨w.heap.size, k, none⟩ = some (.int .u8 (c.toNat : Nat)) := hc
      clear hce ht2 hset hc
      go_wp2_with fail
      refine (refLow c _).mono ?_
      rintro e w2 ⟨rfl, rfl⟩
      go_wp2_with fail
      refine ⟨⟨k + 1, cs.setIfInBounds k (byteV (lowB c)), by omega, by go_num, HS.out.1, ?_, hbw.setCell (Nat.le_refl _) _⟩, by simp [intOf]; omega⟩
      have := HS.out.2; rw [half_len] at this; exact this
    · have hkl : k = l.length := by omega
      subst hkl
      have hcs := blk_cs hblk ht2
      rw [half_all] at hcs
      have hcv := run_str (P := Tryz.prog) wr Tryz.underlying31 Tryz.underlying5 Tryz.underlying9 cap hcs
      rw [low_len] at hcv
      clear hblk htake ht2 hcs
      go_wp2_with fail
      go_ret
      exact ⟨rfl, hbw⟩
set_option maxHeartbeats 1000000 in
theorem RLower (A : Option Addr) (n : List Lab) (cap : Nat) (w : World) (hc : Cs w A (n.map strV)) (hf : Few n) :
    Calls Tryz.prog 17 #[.slice A n.length cap] w fun e w' => ∃ v, e = .returned v ∧ w'.ownsRow w.heap.size 9 1 v n.length ((lower n).map strV) ∧ Below w.heap.size w w' := by
  obtain ⟨i0, hi, hz0, hz1, hz2⟩ := info_parts info_str
  have hlen := hf.1
  have HF := Lib.hid hf
  clear hf
  go_enter Tryz.func17, Tryz.ntmps17
  go_wp2_with fail
  go_loopw [3, 4] (LowerR n w) (fun _ i _ => n.length - (intOf i).toNat)
  case atStart => exact ⟨0, Nat.zero_le _, rfl, World.ownsRow_nil _ _ _ _, Below.refl _ _⟩
  case round =>
    obtain ⟨k, hk, rfl, hown, hbel⟩ := hrel
    by_cases hlt : k < n.length
    · obtain ⟨bk, off, rfl, hbl, hc0⟩ := Cs.str hc hlt
      have hc1 := (hbel.cell (p := ⟨bk, off + k, none⟩) hbl).trans hc0
      have hl6 : n[k].length ≤ 1000000 := by have := HF.out.2 n[k] (List.getElem_mem hlt); omega
      have HN : Hid ((lower (n.take (k + 1))).map strV = (lower (n.take k)).map strV ++ [strV (low n[k])]) := by
        show _ = _
        unfold lower
        rw [List.take_succ_eq_append_getElem hlt, List.map_append, List.map_append]; rfl
      generalize n[k] = l at *
      go_wp2_with fail
      refine (LowText l _ hl6).mono ?_
      rintro e w2 ⟨rfl, hb2⟩
      have hown2 := own_below hown hb2
      have hbel2 := hbel.trans (hb2.mono hbel.size)
      go_wp2_with (first | (at_builtin; refine wpList_push2 hown2 hbel2.size [strV (low l)] rfl (by simp [strV, Value.oneCell']) hi hz0 hz1 hz2 rfl (by decide) rfl _ _ 23 Tryz.underlying23 rfl rfl rfl (by unfold maxLen; omega) (by omega) ?_; intro v4 w4 hown4 hbw4; have hbw5 := hbel2.trans hbw4))
      exact ⟨⟨k + 1, by omega, by go_num, by rw [HN.out]; exact hown4, hbw5⟩, by simp [intOf]; omega⟩
    · have hkl : k = n.length := by omega
      rw [hkl, List.take_length] at hown
      clear hkl
      go_wp2_with fail
      go_ret
      exact ⟨_, rfl, hown, hbel⟩
/-- a place among so many -/
theorem Place (k : Int) (n : Nat) (w : World) (h1 : -9223372036854775808 ≤ k) (h2 : k ≤ 9223372036854775807) (hn : 1 ≤ n) (hn2 : n ≤ 1000) :
    Calls Tryz.prog 18 #[.int .i64 k, .int .i64 n] w fun e w' => ∃ j : Nat, e = .returned (.int .i64 j) ∧ j < n ∧ w = w' := by
  have hne : ¬ (n : Int) = 0 := by omega
  obtain ⟨m, hm, hm1, hm2⟩ : ∃ m : Int, k.tmod n = m ∧ -(n : Int) < m ∧ m < n := by
    refine ⟨_, rfl, ?_, Int.tmod_lt_of_pos _ (by omega)⟩
    have := Int.tmod_lt_of_pos (-k) (b := n) (by omega)
    rw [Int.neg_tmod] at this
    omega
  have hw : IntKind.i64.wrap m = m := IntWalk.i64_in _ (by omega)
  by_cases hneg : m < 0
  · obtain ⟨j, hj⟩ : ∃ j : Nat, m + n = j := ⟨(m + n).toNat, by omega⟩
    have hw2 : IntKind.i64.wrap (m + n) = m + n := IntWalk.i64_in _ (by omega)
    have hjn : j < n := by omega
    go_enter Tryz.func18, Tryz.ntmps18
    go_wp2_with fail
    go_ret
    exact ⟨j, by first | rfl | rw [hj], hjn, rfl⟩
  · obtain ⟨j, hj⟩ : ∃ j : Nat, m = j := ⟨m.toNat, by omega⟩
    have hjn : j < n := by omega
    go_enter Tryz.func18, Tryz.ntmps18
    go_wp2_with fail
    go_ret
    exact ⟨j, by first | rfl | rw [hj], hjn, rfl⟩
end Nm
end Go.Proofs.YtkeimgamjnpcbaaGreat

/- A slice of whole numbers as a parameter. -/
namespace Go.Proofs.YtkeimgamjnpcbaaGreat
open Go.RowKit
set_option linter.unusedVariables false
theorem ints_of_row {k : IntKind} {w : World} {a : Option Addr} {len cap : Nat} {zs : List Int}
    (h : (a = none ∧ len = 0 ∧ cap = 0 ∧ zs = []) ∨ ∃ x, a = some x ∧ len ≤ cap ∧ cap ≤ maxLen ∧ zs.length = cap ∧ (∀ i, i < zs.length → w.cell? (x.add i) = some (.int k (zs.getD i 0))) ∧ ∀ n ∈ zs, (Lit.int k n).wf = true) :
    ∃ l : List Int, l.length = len ∧ Cs w a (l.map (Value.int k)) ∧ ∀ n ∈ l, (Lit.int k n).wf = true := by
  rcases h with ⟨rfl, rfl, rfl, rfl⟩ | ⟨x, rfl, hl, hm, hz, hcell, hwz⟩
  · exact ⟨[], rfl, Cs.nil _ _, fun n h => by cases h⟩
  · refine ⟨zs.take len, by simp; omega, ?_, fun n hn => hwz n (List.mem_of_mem_take hn)⟩
    intro i u hu
    rw [List.getElem?_map, List.getElem?_take] at hu
    by_cases hi : i < len
    · rw [if_pos hi] at hu
      have hiz : i < zs.length := by omega
      rw [List.getElem?_eq_getElem hiz] at hu
      simp only [Option.map_some, Option.some.injEq] at hu
      have hc := hcell i hiz
      obtain ⟨b, off, spot⟩ := x
      have hspot : spot = none := by
        have h0 := hcell 0 (by omega)
        have := World.cell?_spot h0
        simpa [Addr.add] using this
      subst hspot
      refine ⟨b, off, rfl, ?_, ?_⟩
      · rw [add_plain] at hc
        exact World.block_lt_of_cell? w _ hc
      · rw [add_plain] at hc
        rw [hc, ← hu]
        simp [List.getD, hiz]
    · rw [if_neg hi] at hu; cases hu
end Go.Proofs.YtkeimgamjnpcbaaGreat

/- The walk of ZoneOrder. -/
namespace Go.Proofs.YtkeimgamjnpcbaaGreat
open Go.RowKit
set_option linter.unusedVariables false
set_option linter.unusedSimpArgs false
namespace Nm
def u32V (k : Nat) : Value := .int .u32 (k : Int)
/-- a record's block is written: a zone stands -/
theorem ZG.other {wr w' : World} {B z bn bb : Nat} {ap : List Lab} {P : List Nq} {Q : List Sq} {N : Nat} (h : ZG wr B z bn bb ap P Q N) {g : Nat} {cs : Array Value} (hg : wr.heap[g]? = some (.cells cs 51 (0, 0))) (hk : Kept (fun k => k = g) wr w') : ZG w' B z bn bb ap P Q N := by
  obtain ⟨D, hz, hE⟩ := h.zn
  obtain ⟨A, ca, g1, g2⟩ := hz.blk
  obtain ⟨E, g3, g4⟩ := hz.below
  refine ⟨⟨D, ⟨⟨A, ca, (hk.block _ (lt_block g1) (ne_cells g1 hg (by decide))).trans g1, row_ty (by decide) g2 hg hk⟩, ownsMap_block hz.nodes (hk.block _ hz.nodes.lt (ne_map hz.nodes hg)), ⟨E, ownsMap_block g3 (hk.block _ g3.lt (ne_map g3 hg)), g4⟩, hz.ne, hz.h1, hz.h2, hz.h3⟩, hE⟩, fun p hp => ?_, fun q hq => ?_, h.dbs, h.ds, h.dv⟩
  · obtain ⟨D2, h3, h4⟩ := h.nd p hp
    obtain ⟨A', c', g5, g6⟩ := h3.node
    exact ⟨D2, ⟨⟨A', c', (hk.block _ (lt_block g5) (ne_cells g5 hg (by decide))).trans g5, row_ty (by decide) g6 hg hk⟩, ownsMap_block h3.sets (hk.block _ h3.sets.lt (ne_map h3.sets hg)), h3.h1⟩, h4⟩
  · have h3 := h.sd q hq
    exact ⟨(hk.block _ (lt_block h3.set) (ne_cells h3.set hg (by decide))).trans h3.set, row_ty (by decide) h3.row hg hk, fun d hd => ⟨row_ty (by decide) (h3.dat d hd).1 hg hk, row_ty (by decide) (h3.dat d hd).2 hg hk⟩, h3.h2⟩
/-- two zones beside one another -/
structure Duo (wr : World) (B z bn bb B' z' bn' bb' : Nat) (P : List Nq) (Q : List Sq) (N : Nat) (P' : List Nq) (Q' : List Sq) (N' : Nat) : Prop where
  a : ZG wr B z bn bb [exL] P Q N
  wa : Wf [exL] P Q
  la : LensQ Q
  b : ZG wr B' z' bn' bb' [exL] P' Q' N'
  wb : Wf [exL] P' Q'
  lb : LensQ Q'
  ap : ∀ k, zblk z bn bb P Q k → ¬ zblk z' bn' bb' P' Q' k
section
variable {wr w' : World} {B z bn bb B' z' bn' bb' : Nat} {P : List Nq} {Q : List Sq} {N : Nat} {P' : List Nq} {Q' : List Sq} {N' : Nat}
theorem Duo.ext (h : Duo wr B z bn bb B' z' bn' bb' P Q N P' Q' N') (hb : Below wr.heap.size wr w') : Duo w' B z bn bb B' z' bn' bb' P Q N P' Q' N' := ⟨h.a.ext hb, h.wa, h.la, h.b.ext hb, h.wb, h.lb, h.ap⟩
theorem Duo.swap (h : Duo wr B z bn bb B' z' bn' bb' P Q N P' Q' N') : Duo wr B' z' bn' bb' B z bn bb P' Q' N' P Q N := ⟨h.b, h.wb, h.lb, h.a, h.wa, h.la, fun k h1 h2 => h.ap k h2 h1⟩
/-- the first one is written -/
theorem Duo.step (h : Duo wr B z bn bb B' z' bn' bb' P Q N P' Q' N') {P2 : List Nq} {Q2 : List Sq} {N2 : Nat} (h1 : ZG w' B z bn bb [exL] P2 Q2 N2) (h2 : Wf [exL] P2 Q2) (h3 : LensQ Q2) (hk : Kept (zblk z bn bb P Q) wr w') (hn : ∀ k, zblk z bn bb P2 Q2 k → zblk z bn bb P Q k ∨ wr.heap.size ≤ k) : Duo w' B z bn bb B' z' bn' bb' P2 Q2 N2 P' Q' N' :=
  ⟨h1, h2, h3, h.b.kept hk h.a.zonal h.ap, h.wb, h.lb, fun k hk1 hk2 => by
    rcases hn k hk1 with e | e
    · exact h.ap k e hk2
    · have := (h.b.lt hk2).1; omega⟩
theorem Duo.recAt (h : Duo wr B z bn bb B' z' bn' bb' P Q N P' Q' N') (hk : Kept (zblk z bn bb P Q) wr w') {C g k ttl : Nat} (hr : RecAt wr C g k ttl) : RecAt w' C g k ttl := by
  obtain ⟨An, cn, Ad, cd, h1, h2, h3⟩ := hr
  exact ⟨An, cn, Ad, cd, cells_zonal h1 hk h.a.zonal zT_rec, row_zonal h2 hk h.a.zonal zT_str, row_zonal h3 hk h.a.zonal zT_u8⟩
/-- a record's block is written -/
theorem Duo.other (h : Duo wr B z bn bb B' z' bn' bb' P Q N P' Q' N') {g : Nat} {cs : Array Value} (hg : wr.heap[g]? = some (.cells cs 51 (0, 0))) (hk : Kept (fun k => k = g) wr w') : Duo w' B z bn bb B' z' bn' bb' P Q N P' Q' N' := by
  exact ⟨h.a.other hg hk, h.wa, h.la, h.b.other hg hk, h.wb, h.lb, h.ap⟩
end
/-- the state of the loop that lays -/
def OrdR (l : List Nat) (k0 : Nat) (w : World) (B z bn bb B' z' bn' bb' : Nat) (i : Value) (wr : World) : Prop :=
  ∃ (j : Nat) (P : List Nq) (Q : List Sq) (N : Nat) (P' : List Nq) (Q' : List Sq) (N' : Nat), j ≤ l.length ∧ i = .int .i64 j ∧ Duo wr B z bn bb B' z' bn' bb' P Q N P' Q' N' ∧ N ≤ 2000 * j ∧ N' ≤ 2000 * j ∧
    KeysL (fun i => i) l j Q ∧ KeysL (fun i => (i + k0) % l.length) l j Q' ∧ Below w.heap.size w wr
def RiseR (n : Nat) (w : World) (i : Value) (wr : World) : Prop := ∃ m : Nat, 1 ≤ m ∧ (m ≤ n ∨ m = 1) ∧ i = .int .i64 m ∧ Below w.heap.size w wr
theorem RecAt.v {W : World} {B g k ttl : Nat} (h : RecAt W B g k ttl) : ∃ An cn Ad cd, (W.cell? ⟨g, 0, none⟩ = some (.slice An (recN k).length cn) ∧ W.cell? ⟨g, 1, none⟩ = some (.int .u16 ((recT k : Nat) : Int)) ∧ W.cell? ⟨g, 2, none⟩ = some (.int .u16 1) ∧ W.cell? ⟨g, 3, none⟩ = some (.int .u32 (ttl : Int)) ∧ W.cell? ⟨g, 4, none⟩ = some (.slice Ad (recD k).length cd) ∧ ∀ i, W.frozen? ⟨g, i, none⟩ = false) ∧
    W.heap[g]? = some (.cells #[.slice An (recN k).length cn, .int .u16 ((recT k : Nat) : Int), .int .u16 1, .int .u32 (ttl : Int), .slice Ad (recD k).length cd] 51 (0, 0)) ∧
    W.ownsRow B 9 1 (.slice An (recN k).length cn) (recN k).length ((recN k).map strV) ∧ W.ownsRow B 5 1 (.slice Ad (recD k).length cd) (recD k).length ((recD k).map byteV) := by
  obtain ⟨An, cn, Ad, cd, h1, h2, h3⟩ := h
  exact ⟨An, cn, Ad, cd, cells5 h1, h1, h2, h3⟩
/-- a record's time to live is written -/
theorem RecAt.ttl {W : World} {B g k ttl : Nat} (h : RecAt W B g k ttl) (t2 : Nat) : RecAt (W.setCell ⟨g, 3, none⟩ (.int .u32 (t2 : Int))) B g k t2 ∧ Kept (fun k => k = g) W (W.setCell ⟨g, 3, none⟩ (.int .u32 (t2 : Int))) := by
  obtain ⟨An, cn, Ad, cd, h1, h2, h3⟩ := h
  have hk : Kept (fun k => k = g) W (W.setCell ⟨g, 3, none⟩ (.int .u32 (t2 : Int))) := (Kept.refl (fun k => k = g) W).setCell (fun _ => rfl) _
  exact ⟨⟨An, cn, Ad, cd, heap_set h1, row_ty (by decide) h2 h1 hk, row_ty (by decide) h3 h1 hk⟩, hk⟩
theorem flat5 (rs : List RcB) (i : Nat) (hi : i < rs.length) (k : Nat) (hk : k < 5) : (rs.flatMap RcB.cells)[i * 5 + k]? = (rs[i].cells)[k]? := by
  induction rs generalizing i with
  | nil => simp at hi
  | cons r rs ih =>
    rw [List.flatMap_cons]
    have hl : r.cells.length = 5 := rfl
    cases i with
    | zero => rw [List.getElem?_append_left (by omega)]; simp
    | succ i =>
      rw [List.getElem?_append_right (by omega), hl, show (i + 1) * 5 + k - 5 = i * 5 + k from by omega]
      simpa using ih i (by simpa using hi)
theorem Duo.begin {w : World} {B z bn bb B' z' bn' bb' : Nat} (h : Emp w B z bn bb [exL] (fun _ => 0) 0) (h' : Emp w B' z' bn' bb' [exL] (fun _ => 0) 0) (hne : bn ≠ bb) (hne' : bn' ≠ bb') (ha : ∀ k, (k = z ∨ k = bn ∨ k = bb) → ¬ (k = z' ∨ k = bn' ∨ k = bb')) : Duo w B z bn bb B' z' bn' bb' [] [] 0 [] [] 0 := by
  have hz : ∀ {B z bn bb : Nat}, Emp w B z bn bb [exL] (fun _ => 0) 0 → bn ≠ bb → ZG w B z bn bb [exL] [] [] 0 := fun h hn => ⟨⟨_, h, Ents.empty⟩, fun p hp => (by cases hp), fun q hq => (by cases hq), by simp [hn], List.nodup_nil, List.Pairwise.nil⟩
  have hw : Wf [exL] [] [] := ⟨fun p hp => (by cases hp), List.nodup_nil, List.nodup_nil, fun q hq => (by cases hq), fun q hq => (by cases hq), fun p hp => (by cases hp), fun q hq => (by cases hq), fun q hq => (by cases hq)⟩
  have hb : ∀ {z bn bb k : Nat}, zblk z bn bb [] [] k → k = z ∨ k = bn ∨ k = bb := fun h => by
    rcases h with e | e | e | ⟨p, hp, _⟩ | ⟨q, hq, _⟩
    · exact .inl e
    · exact .inr (.inl e)
    · exact .inr (.inr e)
    · cases hp
    · cases hq
  exact ⟨hz h hne, hw, fun q hq => (by cases hq), hz h' hne', hw, fun q hq => (by cases hq), fun k h1 h2 => ha k (hb h1) (hb h2)⟩
theorem KeysL.zero (f : Nat → Nat) (l : List Nat) : KeysL f l 0 [] := fun key => ⟨fun h => (by cases h), fun ⟨i, hi, _⟩ => absurd hi (by omega)⟩
set_option maxRecDepth 100000 in
set_option maxHeartbeats 20000000 in
theorem WZOrd (A : Option Addr) (cap : Nat) (l : List Nat) (turn : Int) (hl : ∀ k ∈ l, k < 4294967296) (ht1 : -9223372036854775808 ≤ turn) (ht2 : turn ≤ 9223372036854775807) (w : World) (hA : Cs w A (l.map u32V)) :
    Calls Tryz.prog 7 #[.slice A l.length cap, .int .i64 turn] w fun e w' => e = .returned (.bool true) ∧ Below w.heap.size w w' := by
  have HA := Lib.hid hA
  clear hA
  by_cases h20 : 20 < l.length
  · have h20' : (20 : Int) < (l.length : Int) := by omega
    go_enter Tryz.func7, Tryz.ntmps7
    go_wp2_with fail
    refine (Known15 w).mono ?_
    rintro e w0 ⟨rfl, hb0⟩
    go_wp2_with fail
    go_ret
    exact ⟨rfl, hb0⟩
  have hn : l.length ≤ 20 := by omega
  have h20' : ¬ (20 : Int) < (l.length : Int) := by omega
  go_enter Tryz.func7, Tryz.ntmps7
  go_wp2_with fail
  refine (Known15 w).mono ?_
  rintro e w0 ⟨rfl, hb0⟩
  go_wp2_with fail
  refine (Apex w0).mono ?_
  rintro e w1 ⟨v1, rfl, hown1, hb1⟩
  obtain ⟨A1, c1, rfl, _, hcs1⟩ := Cs.of_own hown1
  have hb01 := hb0.trans (hb1.mono hb0.size)
  clear hown1 hb1 hb0
  go_wp2_with fail
  refine (ZNew A1 [exL] c1 w1 hcs1 (by unfold Few; decide)).mono ?_
  rintro e w2 ⟨z, bn, bb, rfl, hm, hb2⟩
  rw [lower_ex] at hm
  have hE := Emp.of_made hm
  have hbn : bn ≠ bb := by have := hm.h2; omega
  have hzlt : z < w2.heap.size ∧ bn < w2.heap.size ∧ bb < w2.heap.size := by
    obtain ⟨A, c, g1, _⟩ := hm.blk
    have := lt_block g1
    have := hm.h2
    have := hm.h3
    omega
  have hb12 : Below w1.heap.size w1 w2 := hb2
  clear hm hcs1 hb2
  go_wp2_with fail
  refine (Apex w2).mono ?_
  rintro e w3 ⟨v3, rfl, hown3, hb3⟩
  obtain ⟨A3, c3, rfl, _, hcs3⟩ := Cs.of_own hown3
  have hE3 := hE.ext hb3
  have hb13 := hb12.trans (hb3.mono hb12.size)
  have hs3 := hb3.size
  clear hown3 hb3 hE
  go_wp2_with fail
  refine (ZNew A3 [exL] c3 w3 hcs3 (by unfold Few; decide)).mono ?_
  rintro e w4 ⟨z', bn', bb', rfl, hm', hb4⟩
  rw [lower_ex] at hm'
  have hE' := Emp.of_made hm'
  have hbn' : bn' ≠ bb' := by have := hm'.h2; omega
  have hz' : w3.heap.size ≤ bn' ∧ w3.heap.size ≤ bb' ∧ w3.heap.size ≤ z' := by
    have := hm'.h1
    have := hm'.h2
    have := hm'.h3
    omega
  have hE4 := hE3.ext hb4
  have hb14 := hb13.trans (hb4.mono hb13.size)
  have hs01 := hb01.size
  have hs13 := hb13.size
  have hD := Duo.begin hE4 hE' hbn hbn' (fun k h1 h2 => by omega)
  have HD := Lib.hid hD
  have HCL := Lib.hid (And.intro hzlt hz')
  clear hE3 hm' hcs3 hb4 hE4 hE' hD hb12 hb13 hzlt hz' hbn hbn'
  go_wp2_with fail
  refine (Place turn (l.length + 1) w4 ht1 ht2 (by omega) (by omega)).mono ?_
  rintro e w4' ⟨k0, rfl, hk0, rfl⟩
  go_wp2_with fail
  go_loopw [8] (OrdR l k0 w1 w1.heap.size z bn bb w3.heap.size z' bn' bb') (fun i _ => l.length - (intOf i).toNat)
  case atStart => exact ⟨0, [], [], 0, [], [], 0, Nat.zero_le _, rfl, HD.out, Nat.le_refl _, Nat.le_refl _, KeysL.zero _ _, KeysL.zero _ _, hb14⟩
  case round =>
    obtain ⟨j, P, Q, N, P', Q', N', hj, rfl, hduo, hN, hN', hky, hkz, hbel⟩ := hrel
    have HK := Lib.hid (And.intro hky hkz)
    have HDU := Lib.hid hduo
    have htq := hky.few hduo.wa
    have htq' := hkz.few hduo.wb
    clear hky hkz hduo
    by_cases hlt : j < l.length
    · have hnz : ¬ ((l.length : Nat) : Int) = 0 := by omega
      have hnil : ¬ l = [] := fun e => by rw [e] at hlt; simp at hlt
      obtain ⟨m, hm⟩ : ∃ m, (j + k0) % l.length = m := ⟨_, rfl⟩
      have hml : m < l.length := by rw [← hm]; exact Nat.mod_lt _ (by omega)
      have wab : IntKind.i64.wrap ((j : Int) + (k0 : Int)) = ((j + k0 : Nat) : Int) := by rw [IntWalk.i64_in _ (by omega)]; omega
      have hmod : ((j + k0 : Nat) : Int).tmod ((l.length : Nat) : Int) = (m : Int) := by rw [Int.tmod_eq_emod_of_nonneg (by omega), ← hm]; omega
      have hmod2 : ((j : Int) + (k0 : Int)).tmod ((l.length : Nat) : Int) = (m : Int) := by rw [← hmod]; congr 1
      have HM := Lib.hid hm
      clear hm
      obtain ⟨kA, hkA⟩ : ∃ kA, l[j] = kA := ⟨_, rfl⟩
      obtain ⟨kB, hkB⟩ : ∃ kB, l[m] = kB := ⟨_, rfl⟩
      have hA32 : kA < 4294967296 := hkA ▸ hl _ (List.getElem_mem hlt)
      have hB32 : kB < 4294967296 := hkB ▸ hl _ (List.getElem_mem hml)
      obtain ⟨ba, oa, hAe, hba, hca⟩ := HA.out j (u32V kA) (by rw [List.getElem?_map, List.getElem?_eq_getElem hlt, hkA]; rfl)
      obtain ⟨_, _, hBe, _, hcb⟩ := HA.out m (u32V kB) (by rw [List.getElem?_map, List.getElem?_eq_getElem hml, hkB]; rfl)
      rw [hAe] at hBe
      cases hBe
      subst hAe
      have hbw : Below w.heap.size w wr := hb01.trans (hbel.mono hb01.size)
      have hcar : wr.cell? ⟨ba, oa + j, none⟩ = some (.int .u32 (kA : Int)) := (hbw.cell (p := ⟨ba, oa + j, none⟩) hba).trans hca
      have hcbr : wr.cell? ⟨ba, oa + m, none⟩ = some (.int .u32 (kB : Int)) := (hbw.cell (p := ⟨ba, oa + m, none⟩) hba).trans hcb
      have hbar : ba < wr.heap.size := Nat.lt_of_lt_of_le hba hbw.size
      have HG : Hid (l.getD j 0 = kA ∧ l.getD ((j + k0) % l.length) 0 = kB) := Lib.hid (by
        rw [HM.out]
        simp [List.getD, hlt, hml, hkA, hkB])
      clear hkA hkB hca hcb hba
      go_wp2_with fail
      refine wp_region_j mixed0 (by kernel_rfl) (Two.J ⟨wr, .slice (some ⟨ba, oa, none⟩) l.length cap, ba, oa, l.length, j, k0, m, kA, kB⟩) ?_ ?_ ?_
      · exact ⟨(Below.refl _ wr).drew, (fun j hj => by cases hj), (fun h => by cases h), (fun h => by cases h), (fun h => by cases h)⟩
      · intro i o hio L vals W hJ hL hdep
        have hC : Below wr.heap.size wr W := hJ.C
        have e0 := (hC.cell (p := ⟨ba, oa + j, none⟩) hbar).trans hcar
        have e1 := (hC.cell (p := ⟨ba, oa + m, none⟩) hbar).trans hcbr
        have hjj : (0 : Int) ≤ (j : Int) ∧ (j : Int) < l.length ∧ (0 : Int) ≤ (m : Int) ∧ (m : Int) < l.length := by omega
        rcases i with _ | _ | _ | _ | _ | _ | _ | _ | _ | _ | _ | _ | _ | _ | _ | _ | _ | _ | _ | i
        all_goals first
          | (exfalso; simp at hio; done)
          | skip
        all_goals
          simp at hio
          subst hio
          simp [Region.binds] at hdep
        · refine opYield_mono (fun v W' (h : Ext W W' ∧ Two.fact ⟨wr, .slice (some ⟨ba, oa, none⟩) l.length cap, ba, oa, l.length, j, k0, m, kA, kB⟩ 0 (upd vals 0 v) W') => hJ.put hL h.1 (by omega) h.2) ?_
          simp [opYield_def, yieldUpon, relAct, dstAt, Act.put, Region.wanted, go_sem, e0, e1, Ext.refl, Two.fact, upd, wab, hmod, hmod2, hnz, hnil, hlt, hml, hjj]
        · refine opYield_mono (fun v W' (h : Ext W W' ∧ Two.fact ⟨wr, .slice (some ⟨ba, oa, none⟩) l.length cap, ba, oa, l.length, j, k0, m, kA, kB⟩ 1 (upd vals 1 v) W') => hJ.put hL h.1 (by omega) h.2) ?_
          simp [opYield_def, yieldUpon, relAct, dstAt, Act.put, Region.wanted, go_sem, e0, e1, Ext.refl, Two.fact, upd, wab, hmod, hmod2, hnz, hnil, hlt, hml, hjj]
        · have h0 : vals 0 = .slice (some ⟨ba, oa, none⟩) l.length cap := hJ.f 0 hdep.1
          have h1 : vals 1 = .int .i64 j := hJ.f 1 hdep.2
          refine opYield_mono (fun v W' (h : Ext W W' ∧ Two.fact ⟨wr, .slice (some ⟨ba, oa, none⟩) l.length cap, ba, oa, l.length, j, k0, m, kA, kB⟩ 2 (upd vals 2 v) W') => hJ.put hL h.1 (by omega) h.2) ?_
          simp [opYield_def, yieldUpon, relAct, dstAt, Act.put, Region.wanted, go_sem, h0, h1, e0, e1, Ext.refl, Two.fact, upd, wab, hmod, hmod2, hnz, hnil, hlt, hml, hjj]
        · have h2 : vals 2 = .pointer (some ⟨ba, oa + j, none⟩) := hJ.f 2 hdep
          refine opYield_mono (fun v W' (h : Ext W W' ∧ Two.fact ⟨wr, .slice (some ⟨ba, oa, none⟩) l.length cap, ba, oa, l.length, j, k0, m, kA, kB⟩ 3 (upd vals 3 v) W') => hJ.put hL h.1 (by omega) h.2) ?_
          simp [opYield_def, yieldUpon, relAct, dstAt, Act.put, Region.wanted, go_sem, h2, e0, e1, Ext.refl, Two.fact, upd, wab, hmod, hmod2, hnz, hnil, hlt, hml, hjj]
        · have h3 : vals 3 = .int .u32 (kA : Int) := hJ.f 3 hdep
          refine opYield_mono (fun v W' (h : Ext W W' ∧ Two.fact ⟨wr, .slice (some ⟨ba, oa, none⟩) l.length cap, ba, oa, l.length, j, k0, m, kA, kB⟩ 4 (upd vals 4 v) W') => hJ.put hL h.1 (by omega) h.2) ?_
          simp [opYield_def, yieldUpon, relAct, dstAt, Act.put, Region.wanted, go_sem, h3]
          refine (RecordA kA hA32 W).mono fun e W' h => ?_
          obtain ⟨v, he, hv, hb⟩ := h
          refine ⟨v, he, hb, ?_⟩
          show RecV W' wr.heap.size (upd vals 4 v 4) _ _ _ _
          rw [upd_eq]
          obtain ⟨An, cn, Ad, cd, g1, g2, g3⟩ := hv
          exact ⟨An, cn, Ad, cd, g1, own_base g2 hC.size, own_base g3 hC.size⟩
        · refine opYield_mono (fun v W' (h : Ext W W' ∧ Two.fact ⟨wr, .slice (some ⟨ba, oa, none⟩) l.length cap, ba, oa, l.length, j, k0, m, kA, kB⟩ 5 (upd vals 5 v) W') => hJ.put hL h.1 (by omega) h.2) ?_
          simp [opYield_def, yieldUpon, relAct, dstAt, Act.put, Region.wanted, go_sem, e0, e1, Ext.refl, Two.fact, upd, wab, hmod, hmod2, hnz, hnil, hlt, hml, hjj]
        · refine opYield_mono (fun v W' (h : Ext W W' ∧ Two.fact ⟨wr, .slice (some ⟨ba, oa, none⟩) l.length cap, ba, oa, l.length, j, k0, m, kA, kB⟩ 6 (upd vals 6 v) W') => hJ.put hL h.1 (by omega) h.2) ?_
          simp [opYield_def, yieldUpon, relAct, dstAt, Act.put, Region.wanted, go_sem, e0, e1, Ext.refl, Two.fact, upd, wab, hmod, hmod2, hnz, hnil, hlt, hml, hjj]
        · refine opYield_mono (fun v W' (h : Ext W W' ∧ Two.fact ⟨wr, .slice (some ⟨ba, oa, none⟩) l.length cap, ba, oa, l.length, j, k0, m, kA, kB⟩ 7 (upd vals 7 v) W') => hJ.put hL h.1 (by omega) h.2) ?_
          simp [opYield_def, yieldUpon, relAct, dstAt, Act.put, Region.wanted, go_sem, e0, e1, Ext.refl, Two.fact, upd, wab, hmod, hmod2, hnz, hnil, hlt, hml, hjj]
        · have h6 : vals 6 = .int .i64 j := hJ.f 6 hdep.1
          have h7 : vals 7 = .int .i64 k0 := hJ.f 7 hdep.2
          refine opYield_mono (fun v W' (h : Ext W W' ∧ Two.fact ⟨wr, .slice (some ⟨ba, oa, none⟩) l.length cap, ba, oa, l.length, j, k0, m, kA, kB⟩ 8 (upd vals 8 v) W') => hJ.put hL h.1 (by omega) h.2) ?_
          simp [opYield_def, yieldUpon, relAct, dstAt, Act.put, Region.wanted, go_sem, h6, h7, e0, e1, Ext.refl, Two.fact, upd, wab, hmod, hmod2, hnz, hnil, hlt, hml, hjj]
        · refine opYield_mono (fun v W' (h : Ext W W' ∧ Two.fact ⟨wr, .slice (some ⟨ba, oa, none⟩) l.length cap, ba, oa, l.length, j, k0, m, kA, kB⟩ 9 (upd vals 9 v) W') => hJ.put hL h.1 (by omega) h.2) ?_
          simp [opYield_def, yieldUpon, relAct, dstAt, Act.put, Region.wanted, go_sem, e0, e1, Ext.refl, Two.fact, upd, wab, hmod, hmod2, hnz, hnil, hlt, hml, hjj]
        · have h9 : vals 9 = .slice (some ⟨ba, oa, none⟩) l.length cap := hJ.f 9 hdep
          refine opYield_mono (fun v W' (h : Ext W W' ∧ Two.fact ⟨wr, .slice (some ⟨ba, oa, none⟩) l.length cap, ba, oa, l.length, j, k0, m, kA, kB⟩ 10 (upd vals 10 v) W') => hJ.put hL h.1 (by omega) h.2) ?_
          simp [opYield_def, yieldUpon, relAct, dstAt, Act.put, Region.wanted, go_sem, h9, e0, e1, Ext.refl, Two.fact, upd, wab, hmod, hmod2, hnz, hnil, hlt, hml, hjj]
        · have h8 : vals 8 = .int .i64 ((j + k0 : Nat) : Int) := hJ.f 8 hdep.1
          have h10 : vals 10 = .int .i64 l.length := hJ.f 10 hdep.2
          refine opYield_mono (fun v W' (h : Ext W W' ∧ Two.fact ⟨wr, .slice (some ⟨ba, oa, none⟩) l.length cap, ba, oa, l.length, j, k0, m, kA, kB⟩ 11 (upd vals 11 v) W') => hJ.put hL h.1 (by omega) h.2) ?_
          simp [opYield_def, yieldUpon, relAct, dstAt, Act.put, Region.wanted, go_sem, h8, h10, e0, e1, Ext.refl, Two.fact, upd, wab, hmod, hmod2, hnz, hnil, hlt, hml, hjj]
        · have h5 : vals 5 = .slice (some ⟨ba, oa, none⟩) l.length cap := hJ.f 5 hdep.1
          have h11 : vals 11 = .int .i64 m := hJ.f 11 hdep.2
          refine opYield_mono (fun v W' (h : Ext W W' ∧ Two.fact ⟨wr, .slice (some ⟨ba, oa, none⟩) l.length cap, ba, oa, l.length, j, k0, m, kA, kB⟩ 12 (upd vals 12 v) W') => hJ.put hL h.1 (by omega) h.2) ?_
          simp [opYield_def, yieldUpon, relAct, dstAt, Act.put, Region.wanted, go_sem, h5, h11, e0, e1, Ext.refl, Two.fact, upd, wab, hmod, hmod2, hnz, hnil, hlt, hml, hjj]
        · have h12 : vals 12 = .pointer (some ⟨ba, oa + m, none⟩) := hJ.f 12 hdep
          refine opYield_mono (fun v W' (h : Ext W W' ∧ Two.fact ⟨wr, .slice (some ⟨ba, oa, none⟩) l.length cap, ba, oa, l.length, j, k0, m, kA, kB⟩ 13 (upd vals 13 v) W') => hJ.put hL h.1 (by omega) h.2) ?_
          simp [opYield_def, yieldUpon, relAct, dstAt, Act.put, Region.wanted, go_sem, h12, e0, e1, Ext.refl, Two.fact, upd, wab, hmod, hmod2, hnz, hnil, hlt, hml, hjj]
        · have h13 : vals 13 = .int .u32 (kB : Int) := hJ.f 13 hdep.1
          refine opYield_mono (fun v W' (h : Ext W W' ∧ Two.fact ⟨wr, .slice (some ⟨ba, oa, none⟩) l.length cap, ba, oa, l.length, j, k0, m, kA, kB⟩ 14 (upd vals 14 v) W') => hJ.put hL h.1 (by omega) h.2) ?_
          simp [opYield_def, yieldUpon, relAct, dstAt, Act.put, Region.wanted, go_sem, h13]
          refine (RecordA kB hB32 W).mono fun e W' h => ?_
          obtain ⟨v, he, hv, hb⟩ := h
          refine ⟨v, he, hb, ?_⟩
          show RecV W' wr.heap.size (upd vals 14 v 14) _ _ _ _
          rw [upd_eq]
          obtain ⟨An, cn, Ad, cd, g1, g2, g3⟩ := hv
          exact ⟨An, cn, Ad, cd, g1, own_base g2 hC.size, own_base g3 hC.size⟩
        · refine opYield_mono (fun v W' (h : v = .pointer (some ⟨W.heap.size, 0, none⟩) ∧ W' = W.alloc (.cells #[.slice none 0 0, .int .u16 0, .int .u16 0, .int .u32 0, .slice none 0 0] 51)) => by obtain ⟨rfl, rfl⟩ := h; exact hJ.alloc hL (.inl rfl) #[.slice none 0 0, .int .u16 0, .int .u16 0, .int .u32 0, .slice none 0 0] rfl) ?_
          simp [opYield_def, yieldUpon, relAct, dstAt, Act.put, Region.wanted, go_sem]
        · refine opYield_mono (fun v W' (h : v = .pointer (some ⟨W.heap.size, 0, none⟩) ∧ W' = W.alloc (.cells #[.slice none 0 0, .int .u16 0, .int .u16 0, .int .u32 0, .slice none 0 0] 51)) => by obtain ⟨rfl, rfl⟩ := h; exact hJ.alloc hL (.inr rfl) #[.slice none 0 0, .int .u16 0, .int .u16 0, .int .u32 0, .slice none 0 0] rfl) ?_
          simp [opYield_def, yieldUpon, relAct, dstAt, Act.put, Region.wanted, go_sem]
        · obtain ⟨hd15, hd4, _⟩ := hdep
          obtain ⟨g, cs, h15, hgs, hgb, hsz⟩ : ∃ g cs, vals 15 = .pointer (some ⟨g, 0, none⟩) ∧ wr.heap.size ≤ g ∧ W.heap[g]? = some (.cells cs 51 (0, 0)) ∧ cs.size = 5 := hJ.f 15 hd15
          obtain ⟨An, cn, Ad, cd, h4, g2, g3⟩ : RecV W wr.heap.size (vals 4) (recN kA) (recT kA) (ttlK kA) (recD kA) := hJ.f 4 hd4
          refine yield_store (g := g) (cells := #[.slice An (recN kA).length cn, .int .u16 ((recT kA : Nat) : Int), .int .u16 1, .int .u32 ((ttlK kA : Nat) : Int), .slice Ad (recD kA).length cd]) rfl rfl (by simp [relAct, dstAt, Act.put, Act.eval, h15]) (by simp [relAct, dstAt, Act.put, Act.eval, h4]) hgb (by kernel_rfl) hsz (by simp [Value.oneCell']) ?_
          have hblk := setRow_block W g #[.slice An (recN kA).length cn, .int .u16 ((recT kA : Nat) : Int), .int .u16 1, .int .u32 ((ttlK kA : Nat) : Int), .slice Ad (recD kA).length cd] _ _ _ hgb
          have hgr := setRow_grown W g #[.slice An (recN kA).length cn, .int .u16 ((recT kA : Nat) : Int), .int .u16 1, .int .u32 ((ttlK kA : Nat) : Int), .slice Ad (recD kA).length cd]
          have hkk : Kept (fun k => k = g) W (W.setRow g #[.slice An (recN kA).length cn, .int .u16 ((recT kA : Nat) : Int), .int .u16 1, .int .u32 ((ttlK kA : Nat) : Int), .slice Ad (recD kA).length cd]) := (Kept.of_grown hgr).mono (fun k _ h => by cases h; rfl)
          exact hJ.store17 hd15 h15 hgb hgs hkk hblk rfl ⟨An, cn, Ad, cd, hblk, row_ty (by decide) g2 hgb hkk, row_ty (by decide) g3 hgb hkk⟩
        · obtain ⟨hd16, hd14, _⟩ := hdep
          obtain ⟨g, cs, h16, hgs, hgb, hsz⟩ : ∃ g cs, vals 16 = .pointer (some ⟨g, 0, none⟩) ∧ wr.heap.size ≤ g ∧ W.heap[g]? = some (.cells cs 51 (0, 0)) ∧ cs.size = 5 := hJ.f 16 hd16
          obtain ⟨An, cn, Ad, cd, h14, g2, g3⟩ : RecV W wr.heap.size (vals 14) (recN kB) (recT kB) (ttlK kB) (recD kB) := hJ.f 14 hd14
          refine yield_store (g := g) (cells := #[.slice An (recN kB).length cn, .int .u16 ((recT kB : Nat) : Int), .int .u16 1, .int .u32 ((ttlK kB : Nat) : Int), .slice Ad (recD kB).length cd]) rfl rfl (by simp [relAct, dstAt, Act.put, Act.eval, h16]) (by simp [relAct, dstAt, Act.put, Act.eval, h14]) hgb (by kernel_rfl) hsz (by simp [Value.oneCell']) ?_
          have hblk := setRow_block W g #[.slice An (recN kB).length cn, .int .u16 ((recT kB : Nat) : Int), .int .u16 1, .int .u32 ((ttlK kB : Nat) : Int), .slice Ad (recD kB).length cd] _ _ _ hgb
          have hgr := setRow_grown W g #[.slice An (recN kB).length cn, .int .u16 ((recT kB : Nat) : Int), .int .u16 1, .int .u32 ((ttlK kB : Nat) : Int), .slice Ad (recD kB).length cd]
          have hkk : Kept (fun k => k = g) W (W.setRow g #[.slice An (recN kB).length cn, .int .u16 ((recT kB : Nat) : Int), .int .u16 1, .int .u32 ((ttlK kB : Nat) : Int), .slice Ad (recD kB).length cd]) := (Kept.of_grown hgr).mono (fun k _ h => by cases h; rfl)
          exact hJ.store18 hd16 h16 hgb hgs hkk hblk rfl ⟨An, cn, Ad, cd, hblk, row_ty (by decide) g2 hgb hkk, row_ty (by decide) g3 hgb hkk⟩
      · intro vals W hJ
        obtain ⟨gA, h15, hgA, hrA⟩ : ∃ g, vals 15 = .pointer (some ⟨g, 0, none⟩) ∧ wr.heap.size ≤ g ∧ RecAt W wr.heap.size g kA (ttlK kA) := hJ.f 17 rfl
        obtain ⟨gB, h16, hgB, hrB⟩ : ∃ g, vals 16 = .pointer (some ⟨g, 0, none⟩) ∧ wr.heap.size ≤ g ∧ RecAt W wr.heap.size g kB (ttlK kB) := hJ.f 18 rfl
        have hne : gA ≠ gB := fun e => hJ.ne rfl rfl (by rw [h15, h16, e])
        have hC : Below wr.heap.size wr W := hJ.C
        clear hJ
        simp [relAct, dstAt, Act.put]
        rw [h15, h16]
        clear h15 h16
        generalize vals 0 = p0
        generalize vals 1 = p1
        generalize vals 2 = p2
        generalize vals 3 = p3
        generalize vals 4 = p4
        generalize vals 5 = p5
        generalize vals 6 = p6
        generalize vals 7 = p7
        generalize vals 8 = p8
        generalize vals 9 = p9
        generalize vals 10 = p10
        generalize vals 11 = p11
        generalize vals 12 = p12
        generalize vals 13 = p13
        generalize vals 14 = p14
        have hduoW := HDU.out.ext hC
        have hbelW := hbel.trans (hC.mono hbel.size)
        obtain ⟨hrA1, hkA1⟩ := hrA.ttl 30
        have hrB1 : RecAt (W.setCell ⟨gA, 3, none⟩ (.int .u32 ((30 : Nat) : Int))) wr.heap.size gB kB (ttlK kB) := by
          obtain ⟨_, _, _, _, g1, _⟩ := hrA
          exact hrB.other g1 hkA1 (Ne.symm hne)
        obtain ⟨hrB2, hkB2⟩ := hrB1.ttl 30
        have hrA2 : RecAt ((W.setCell ⟨gA, 3, none⟩ (.int .u32 ((30 : Nat) : Int))).setCell ⟨gB, 3, none⟩ (.int .u32 ((30 : Nat) : Int))) wr.heap.size gA kA 30 := by
          obtain ⟨_, _, _, _, g1, _⟩ := hrB1
          exact hrA1.other g1 hkB2 hne
        have hduo2 : Duo ((W.setCell ⟨gA, 3, none⟩ (.int .u32 ((30 : Nat) : Int))).setCell ⟨gB, 3, none⟩ (.int .u32 ((30 : Nat) : Int))) w1.heap.size z bn bb w3.heap.size z' bn' bb' P Q N P' Q' N' := by
          obtain ⟨_, _, _, _, g1, _⟩ := hrA
          obtain ⟨_, _, _, _, g2, _⟩ := hrB1
          exact (hduoW.other g1 hkA1).other g2 hkB2
        have hbel2 : Below w1.heap.size w1 ((W.setCell ⟨gA, 3, none⟩ (.int .u32 ((30 : Nat) : Int))).setCell ⟨gB, 3, none⟩ (.int .u32 ((30 : Nat) : Int))) := by
          have h4 := hbel.size
          exact (hbelW.setCell (p := ⟨gA, 3, none⟩) (Nat.le_trans h4 hgA) _).setCell (p := ⟨gB, 3, none⟩) (Nat.le_trans h4 hgB) _
        have H2 := Lib.hid (And.intro hrA2 (And.intro hrB2 (And.intro hduo2 hbel2)))
        have HRA1 := Lib.hid hrB1
        obtain ⟨An, cn, Ad, cd, ⟨a0, a1, a2, a3, a4, af⟩, hAb, hAo1, hAo2⟩ := hrA.v
        have hrows : ((W.setCell ⟨gA, 3, none⟩ (.int .u32 ((30 : Nat) : Int))).setCell ⟨gB, 3, none⟩ (.int .u32 ((30 : Nat) : Int))).ownsRow 0 9 1 (.slice An (recN kA).length cn) (recN kA).length ((recN kA).map strV) ∧ ((W.setCell ⟨gA, 3, none⟩ (.int .u32 ((30 : Nat) : Int))).setCell ⟨gB, 3, none⟩ (.int .u32 ((30 : Nat) : Int))).ownsRow 0 5 1 (.slice Ad (recD kA).length cd) (recD kA).length ((recD kA).map byteV) := by
          obtain ⟨_, _, _, _, g1, _⟩ := hrB1
          exact ⟨own_base (row_ty (by decide) (row_ty (by decide) hAo1 hAb hkA1) g1 hkB2) (Nat.zero_le _), own_base (row_ty (by decide) (row_ty (by decide) hAo2 hAb hkA1) g1 hkB2) (Nat.zero_le _)⟩
        have HROW := Lib.hid hrows
        clear hrows hAo1 hAo2 hAb
        obtain ⟨Bn, dn, Bd, dd, ⟨b0, b1, b2, b3, b4, bf⟩, _, _, _⟩ := hrB.v
        clear hrA1 hkA1 hrB1 hrB2 hkB2 hrA2 hduo2 hbel2 hrA hrB hduoW hbelW hcar hcbr wab hmod hmod2 hC
        have hne2 : gB ≠ gA := Ne.symm hne
        go_wp2_with fail
        obtain ⟨hrA2, hrB2, hduo2, hbel2⟩ := H2.out
        have HPA := PutSeat _ w1.heap.size z bn bb P Q N hduo2.a hduo2.wa hduo2.la kA An cn Ad cd HROW.out.1 HROW.out.2 (by omega) (by omega)
        have HP := Lib.hid HPA
        clear HPA hrA2
        have h30 : ((30 : Nat) : Int) = 30 := rfl
        rw [h30] at hduo2 hrB2 hbel2
        generalize (W.setCell ⟨gA, 3, none⟩ (.int .u32 30)).setCell ⟨gB, 3, none⟩ (.int .u32 30) = W2 at *
        clear a0 a1 a2 a3 a4 af b0 b1 b2 b3 b4 bf HROW
        refine HP.out.mono ?_
        rintro e W3 ⟨⟨v3, rfl⟩, P2, Q2, N2, g1, g2, g3, g4, g5, g6, g7⟩
        have hduo3 := hduo2.step g1 g2 g3 g5 g6
        have hrB3 := hduo2.recAt g5 hrB2
        have hbel3 : Below w1.heap.size w1 W3 := hbel2.trans (g5.below hbel2.size (fun k hk e => by have := (hduo2.a.lt e).2; omega))
        obtain ⟨Bn, dn, Bd, dd, ⟨b0, b1, b2, b3, b4, bf⟩, _, hBo1, hBo2⟩ := hrB3.v
        have HPB := Lib.hid (PutSeat W3 w3.heap.size z' bn' bb' P' Q' N' hduo3.b hduo3.wb hduo3.lb kB Bn dn Bd dd (own_base hBo1 (Nat.zero_le _)) (own_base hBo2 (Nat.zero_le _)) (by omega) (by omega))
        have HD3 := Lib.hid (And.intro hduo3 hbel3)
        have HKY := Lib.hid g7
        have h30 : ((30 : Nat) : Int) = 30 := rfl
        rw [h30] at b3
        clear HP hduo2 hrB2 hbel2 g1 g2 g3 g5 g6 g7 hduo3 hrB3 hbel3 hBo1 hBo2 h30
        go_wp2_with fail
        refine HPB.out.mono ?_
        rintro e W4 ⟨⟨v4, rfl⟩, P3, Q3, N3, g1, g2, g3, g5', g5, g6, g7⟩
        have hduo4 := (HD3.out.1.swap.step g1 g2 g3 g5 g6).swap
        have hbel4 : Below w1.heap.size w1 W4 := HD3.out.2.trans (g5.below HD3.out.2.size (fun k hk e => by have := (HD3.out.1.b.lt e).2; omega))
        have HD4 := Lib.hid (And.intro hduo4 hbel4)
        have HKZ := Lib.hid g7
        clear HPB b0 b1 b2 b3 b4 bf g1 g2 g3 g5 g6 g7 hduo4 hbel4
        go_wp2_with fail
        go_roundw
        case rel =>
          refine ⟨j + 1, P2, Q2, N2, P3, Q3, N3, by omega, by go_num, HD4.out.1, by omega, by omega, HK.out.1.step (fun key => ?_), HK.out.2.step (fun key => ?_), HD4.out.2⟩
          · rw [HG.out.1]; exact HKY.out key
          · show _ ↔ _ ∨ key = keyK (l.getD ((j + k0) % l.length) 0)
            rw [HG.out.2]; exact HKZ.out key
        case measure => simp [intOf]; omega
    · have hjl : j = l.length := by omega
      subst hjl
      obtain ⟨hky, hkz⟩ := HK.out
      have hks := fun key => keys_turned hky hkz (by omega) key
      have hduo := HDU.out
      have hPl := hduo.wa.len_le
      have hPl' := hduo.wb.len_le
      have htot := total_same hduo.wa hduo.wb hks
      have HR := Lib.hid (ZRecsG wr w1.heap.size z bn bb [exL] P Q N hduo.a hduo.wa (by omega) (by omega) (fun n => sets_few hduo.wa hky n) hduo.la)
      have HKS := Lib.hid hks
      have HTOT := Lib.hid htot
      have hb0 := hb01.trans (hbel.mono hb01.size)
      clear hky hkz hks htot hduo HK hbel hb14
      go_wp2_with fail
      refine HR.out.mono ?_
      rintro e wR ⟨hbR, v5, rs, ns, rfl, hrv, hnp, hns, hsay⟩
      obtain ⟨A5, c5, rfl, _⟩ := own_form hrv.row
      have hduo := HDU.out.ext hbR
      have hnd : ns.Nodup := hnp.nodup_iff.2 hduo.wa.kP
      have hlen : rs.length = total Q := by
        have h1 := congrArg List.length hsay
        rw [List.length_map, all_total hnd (fun q hq => by
          obtain ⟨p, hp, e⟩ := hduo.wa.own q hq
          rw [← e]
          exact hnp.mem_iff.2 (List.mem_map.2 ⟨p, hp, rfl⟩))] at h1
        exact h1
      have hrise := says_rise hduo.wa hnd
      rw [← hsay] at hrise
      have hsm : ∀ r ∈ rs, r.nm.l.length ≤ 1000 := fun r hr => by
        have h1 : r.says ∈ ns.flatMap (saysN Q) := by rw [← hsay]; exact List.mem_map.2 ⟨r, hr, rfl⟩
        obtain ⟨n, hn, h2⟩ := List.mem_flatMap.1 h1
        obtain ⟨p, hp, e⟩ := List.mem_map.1 (hnp.mem_iff.1 hn)
        unfold saysN at h2
        obtain ⟨q, hq, h3⟩ := List.mem_flatMap.1 h2
        unfold saysQ at h3
        obtain ⟨d, _, e2⟩ := List.mem_map.1 h3
        have e3 : r.nm.l = q.n := by injection e2 with e2 _; exact e2.symm
        have e4 := (mem_setsOf.1 ((secs_perm Q n).mem_iff.1 hq)).2
        rw [e3, e4, ← e]
        exact (hduo.wa.ok p hp).small.1
      have HRV := Lib.hid hrv
      have HLEN := Lib.hid hlen
      have HRISE := Lib.hid hrise
      have HSM := Lib.hid hsm
      have HDR := Lib.hid hduo
      have hbR0 := hb0.trans (hbR.mono hb0.size)
      have hrl : rs.length ≤ 20 := by omega
      clear hrv hlen hrise hsm hduo hnd hnp hns hsay hbR HR HDU
      go_wp2_with fail
      go_loopw [12] (RiseR rs.length wR) (fun i _ => rs.length - (intOf i).toNat)
      case atStart => exact ⟨1, Nat.le_refl _, .inr rfl, rfl, Below.refl _ _⟩
      case round =>
        obtain ⟨m, hm1, hm2, rfl, hbel⟩ := hrel
        by_cases hmr : m < rs.length
        · have hml : m - 1 < rs.length := by omega
          have hCs := cs_own2 HRV.out.row
          obtain ⟨bk, off, rfl, hbk, hx1⟩ := hCs ((m - 1) * 5 + 1) (.int .u16 (rs[m - 1]).t) (by rw [flat5 rs (m - 1) hml 1 (by omega)]; rfl)
          obtain ⟨_, _, e9, _, hx0⟩ := hCs ((m - 1) * 5 + 0) (rs[m - 1]).nm.v (by rw [flat5 rs (m - 1) hml 0 (by omega)]; rfl)
          cases e9
          obtain ⟨_, _, e9, _, hy1⟩ := hCs (m * 5 + 1) (.int .u16 (rs[m]).t) (by rw [flat5 rs m hmr 1 (by omega)]; rfl)
          cases e9
          obtain ⟨_, _, e9, _, hy0⟩ := hCs (m * 5 + 0) (rs[m]).nm.v (by rw [flat5 rs m hmr 0 (by omega)]; rfl)
          cases e9
          have hdis : (rs[m]).t < (rs[m - 1]).t → (rs[m - 1]).nm.l ≠ (rs[m]).nm.l := fun h1 e => by
            have h2 := List.pairwise_iff_getElem.1 HRISE.out (m - 1) m (by simpa using hml) (by simpa using hmr) (by omega)
            rw [List.getElem_map, List.getElem_map] at h2
            have h3 := h2 e
            have h4 : (rs[m - 1]).t ≤ (rs[m]).t := h3
            omega
          have hox := HRV.out.own _ (List.getElem_mem hml)
          have hoy := HRV.out.own _ (List.getElem_mem hmr)
          have hxl := HSM.out _ (List.getElem_mem hml)
          have hyl := HSM.out _ (List.getElem_mem hmr)
          generalize rs[m - 1] = x at *
          generalize rs[m] = y at *
          have hs := hbel.size
          rw [← Nat.add_assoc] at hx1 hx0 hy1 hy0
          rw [Nat.add_zero] at hx0 hy0
          have hx1r := (hbel.cell (p := ⟨bk, off + (m - 1) * 5 + 1, none⟩) hbk).trans hx1
          have hx0r : wr.cell? ⟨bk, off + (m - 1) * 5, none⟩ = some (.slice x.nm.A x.nm.l.length x.nm.cap) := (hbel.cell (p := ⟨bk, off + (m - 1) * 5, none⟩) hbk).trans hx0
          have hy1r := (hbel.cell (p := ⟨bk, off + m * 5 + 1, none⟩) hbk).trans hy1
          have hy0r : wr.cell? ⟨bk, off + m * 5, none⟩ = some (.slice y.nm.A y.nm.l.length y.nm.cap) := (hbel.cell (p := ⟨bk, off + m * 5, none⟩) hbk).trans hy0
          have hbk3 : bk < wr.heap.size := Nat.lt_of_lt_of_le hbk hs
          have HXY : Hid (Cs wR x.nm.A (x.nm.l.map strV) ∧ Cs wR y.nm.A (y.nm.l.map strV)) := Lib.hid ⟨(cs_own hox.1).2, (cs_own hoy.1).2⟩
          have hxl : x.nm.l.length ≤ 1000000 := by omega
          have hyl : y.nm.l.length ≤ 1000000 := by omega
          have wm : IntKind.i64.wrap ((m : Int) - 1) = ((m - 1 : Nat) : Int) := by rw [IntWalk.i64_in _ (by omega)]; omega
          have hmm : (0 : Int) ≤ (m : Int) ∧ (m : Int) < rs.length ∧ m < rs.length ∧ m - 1 < rs.length := by omega
          clear hx1 hx0 hy1 hy0 hox hoy hCs
          go_wp2_with fail
          by_cases hd : y.t < x.t
          · have hdec : y.t < x.t := hd
            have dne : decide (x.nm.l = y.nm.l) = false := decide_eq_false (hdis hd)
            clear hd hdis
            refine wp_region_mono mixed0 (by kernel_rfl) [.is (.slice (some ⟨bk, off, none⟩) rs.length c5), .is (.int .i64 m), .is (.int .i64 ((m - 1 : Nat) : Int)), .is (.pointer (some ⟨bk, off + (m - 1) * 5, none⟩)), .is (.pointer (some ⟨bk, off + (m - 1) * 5 + 1, none⟩)), .is (.int .u16 x.t), .is (.slice (some ⟨bk, off, none⟩) rs.length c5), .is (.int .i64 m), .is (.pointer (some ⟨bk, off + m * 5, none⟩)), .is (.pointer (some ⟨bk, off + m * 5 + 1, none⟩)), .is (.int .u16 y.t), .is (.bool true), .is (.bool true), .is (.slice (some ⟨bk, off, none⟩) rs.length c5), .is (.int .i64 m), .is (.int .i64 ((m - 1 : Nat) : Int)), .is (.pointer (some ⟨bk, off + (m - 1) * 5, none⟩)), .is (.pointer (some ⟨bk, off + (m - 1) * 5, none⟩)), .is (.slice x.nm.A x.nm.l.length x.nm.cap), .is (.slice (some ⟨bk, off, none⟩) rs.length c5), .is (.int .i64 m), .is (.pointer (some ⟨bk, off + m * 5, none⟩)), .is (.pointer (some ⟨bk, off + m * 5, none⟩)), .is (.slice y.nm.A y.nm.l.length y.nm.cap), .is (.bool false), .is (.bool false)] rfl ?_ ?_
            · intro i o hio vals W hE haf
              have e0 := (bcl (o := off + (m - 1) * 5 + 1) hE hbk3).trans hx1r
              have e1 := (bcl (o := off + m * 5 + 1) hE hbk3).trans hy1r
              have e2 := (bcl (o := off + (m - 1) * 5) hE hbk3).trans hx0r
              have e3 := (bcl (o := off + m * 5) hE hbk3).trans hy0r
              rcases i with _ | _ | _ | _ | _ | _ | _ | _ | _ | _ | _ | _ | _ | _ | _ | _ | _ | _ | _ | _ | _ | _ | _ | _ | _ | _ | i
              all_goals first
                | (exfalso; simp at hio; done)
                | (simp at hio; subst hio; simp [bindD, rdB, Region.binds, factAt] at haf; simp [opYield_def, yieldUpon, yielded, relAct, dstAt, Act.put, Region.wanted, go_sem, haf, e0, e1, e2, e3, Ext.refl, factAt, wm, hmm, hdec]; done)
                | skip
              all_goals
                simp at hio
                subst hio
                simp [bindD, rdB, Region.binds, factAt] at haf
              · simp [opYield_def, yieldUpon, yielded, relAct, dstAt, Act.put, Region.wanted, go_sem, haf, factAt]
                have := HName x.nm.A y.nm.A x.nm.l y.nm.l x.nm.cap y.nm.cap W (HXY.out.1.below (hbel.trans (Below.mono hE hs))) (HXY.out.2.below (hbel.trans (Below.mono hE hs))) hxl hyl
                rw [dne] at this
                exact this.mono fun e W' h => ⟨h.2, h.1⟩
            · intro vals W hE hF
              simp [facts] at hF
              simp [relAct, dstAt, Act.put, hF]
              clear hF
              have hb5 := hbel.trans (Below.mono hE hs)
              generalize vals 13 = q13
              generalize vals 14 = q14
              generalize vals 15 = q15
              generalize vals 16 = q16
              generalize vals 17 = q17
              generalize vals 18 = q18
              generalize vals 19 = q19
              generalize vals 20 = q20
              generalize vals 21 = q21
              generalize vals 22 = q22
              generalize vals 23 = q23
              generalize vals 24 = q24
              go_wp2_with fail
              go_roundw
              case rel => exact ⟨m + 1, by omega, .inl (by omega), by go_num, hb5⟩
              case measure => simp [intOf]; omega
          · have hdec : ¬ y.t < x.t := hd
            clear hd hdis
            refine wp_region_mono mixed0 (by kernel_rfl) [.is (.slice (some ⟨bk, off, none⟩) rs.length c5), .is (.int .i64 m), .is (.int .i64 ((m - 1 : Nat) : Int)), .is (.pointer (some ⟨bk, off + (m - 1) * 5, none⟩)), .is (.pointer (some ⟨bk, off + (m - 1) * 5 + 1, none⟩)), .is (.int .u16 x.t), .is (.slice (some ⟨bk, off, none⟩) rs.length c5), .is (.int .i64 m), .is (.pointer (some ⟨bk, off + m * 5, none⟩)), .is (.pointer (some ⟨bk, off + m * 5 + 1, none⟩)), .is (.int .u16 y.t), .is (.bool false), .is (.bool false), .any, .any, .any, .any, .any, .any, .any, .any, .any, .any, .any, .any, .is (.bool false)] rfl ?_ ?_
            · intro i o hio vals W hE haf
              have e0 := (bcl (o := off + (m - 1) * 5 + 1) hE hbk3).trans hx1r
              have e1 := (bcl (o := off + m * 5 + 1) hE hbk3).trans hy1r
              have e2 := (bcl (o := off + (m - 1) * 5) hE hbk3).trans hx0r
              have e3 := (bcl (o := off + m * 5) hE hbk3).trans hy0r
              rcases i with _ | _ | _ | _ | _ | _ | _ | _ | _ | _ | _ | _ | _ | _ | _ | _ | _ | _ | _ | _ | _ | _ | _ | _ | _ | _ | i
              all_goals first
                | (exfalso; simp at hio; done)
                | (simp at hio; subst hio; simp [bindD, rdB, Region.binds, factAt] at haf; simp [opYield_def, yieldUpon, yielded, relAct, dstAt, Act.put, Region.wanted, go_sem, haf, e0, e1, e2, e3, Ext.refl, factAt, wm, hmm, hdec]; done)
                | skip
            · intro vals W hE hF
              simp [facts] at hF
              simp [relAct, dstAt, Act.put, hF]
              clear hF
              have hb5 := hbel.trans (Below.mono hE hs)
              generalize vals 13 = q13
              generalize vals 14 = q14
              generalize vals 15 = q15
              generalize vals 16 = q16
              generalize vals 17 = q17
              generalize vals 18 = q18
              generalize vals 19 = q19
              generalize vals 20 = q20
              generalize vals 21 = q21
              generalize vals 22 = q22
              generalize vals 23 = q23
              generalize vals 24 = q24
              go_wp2_with fail
              go_roundw
              case rel => exact ⟨m + 1, by omega, .inl (by omega), by go_num, hb5⟩
              case measure => simp [intOf]; omega
        · have hduo := HDR.out.ext hbel
          have hbF := hbR0.trans (hbel.mono hbR0.size)
          obtain ⟨D, hzn, _⟩ := hduo.a.zn
          obtain ⟨D', hzn', _⟩ := hduo.b.zn
          have HL1 := Lib.hid (ZLen wr w1.heap.size z bn bb _ _ _ _ _ hzn)
          have HN1 := Lib.hid (ZNamesG wr w1.heap.size z bn bb [exL] P Q N hduo.a hduo.wa (by omega))
          have HDF := Lib.hid hduo
          have hel : ((rs.length : Nat) : Int) = ((total Q : Nat) : Int) := by rw [HLEN.out]
          have HEL := Lib.hid hel
          have hne : ¬ (m : Int) < (rs.length : Int) := by omega
          clear hzn hzn' hduo hbel hel hbR0
          go_wp2_with fail
          refine HL1.out.mono ?_
          rintro e wr' ⟨rfl, rfl⟩
          have hb1 : (((rs.length : Nat) : Int) == ((total Q : Nat) : Int)) = true := by rw [HEL.out]; simp
          have hb2 : decide (((rs.length : Nat) : Int) = ((total Q : Nat) : Int)) = true := decide_eq_true HEL.out
          go_wp2_with fail
          refine HN1.out.mono ?_
          rintro e wa ⟨hba, va, na, rfl, hra, hpa, hsa, hoa⟩
          obtain ⟨A7, c7, rfl, _⟩ := own_form hra
          have hduo := HDF.out.ext hba
          have HN2 := Lib.hid (ZNamesG wa w3.heap.size z' bn' bb' [exL] P' Q' N' hduo.b hduo.wb (by omega))
          have hbF2 := hbF.trans (hba.mono hbF.size)
          have HA2 := Lib.hid (And.intro hra (And.intro hpa (And.intro hsa hoa)))
          have HD2 := Lib.hid hduo
          have hnal : na.length ≤ 20 := by have := hpa.length_eq; simp at this; omega
          clear hra hpa hsa hoa hduo HL1 HN1 hbF hba HDF
          go_wp2_with fail
          refine HN2.out.mono ?_
          rintro e wb ⟨hbb, vb, nb, rfl, hrb, hpb, hsb, hob⟩
          obtain ⟨A8, c8, rfl, _⟩ := own_form hrb
          have hduo := HD2.out.ext hbb
          have hnbl : nb.length ≤ 20 := by have := hpb.length_eq; simp at this; omega
          obtain ⟨hra, hpa, hsa, hoa⟩ := HA2.out
          have hsame : na.map (·.l) = nb.map (·.l) := names_same hduo.wa hduo.wb HKS.out hpa hpb (by rw [List.pairwise_map]; exact hsa.imp fun h => by omega) (by rw [List.pairwise_map]; exact hsb.imp fun h => by omega)
          have hlen1 : ∀ x ∈ na, x.l.length ≤ 1000000 := fun x hx => by
            have : x.l ∈ na.map (·.l) := List.mem_map.2 ⟨x, hx, rfl⟩
            obtain ⟨p, hp, e⟩ := List.mem_map.1 (hpa.mem_iff.1 this)
            have := (hduo.wa.ok p hp).small.1
            rw [e] at this
            omega
          have hlen2 : ∀ x ∈ nb, x.l.length ≤ 1000000 := fun x hx => by
            have : x.l ∈ nb.map (·.l) := List.mem_map.2 ⟨x, hx, rfl⟩
            obtain ⟨p, hp, e⟩ := List.mem_map.1 (hpb.mem_iff.1 this)
            have := (hduo.wb.ok p hp).small.1
            rw [e] at this
            omega
          have HH := Lib.hid (HNames A7 A8 na nb c7 c8 wb (cs_own2 (own_below hra hbb)) (cs_own2 hrb) (by omega) (by omega) (fun x hx => ⟨(cs_own (own_below (hoa x hx) hbb)).2, hlen1 x hx⟩) (fun x hx => ⟨(cs_own (hob x hx)).2, hlen2 x hx⟩))
          rw [decide_eq_true hsame] at HH
          have hbF3 := hbF2.trans (hbb.mono hbF2.size)
          have HD3 := Lib.hid hduo
          clear hra hpa hsa hoa hrb hpb hsb hob hsame hlen1 hlen2 hduo HN2 HA2 HD2 hbF2 hbb
          go_wp2_with fail
          refine HH.out.mono ?_
          rintro e wc ⟨hbc, rfl⟩
          have hduo := HD3.out.ext hbc
          have hbF4 := hbF3.trans (hbc.mono hbF3.size)
          obtain ⟨D, hzn, _⟩ := hduo.a.zn
          obtain ⟨D', hzn', _⟩ := hduo.b.zn
          have HL1 := Lib.hid (ZLen wc w1.heap.size z bn bb _ _ _ _ _ hzn)
          have HL2 := Lib.hid (ZLen wc w3.heap.size z' bn' bb' _ _ _ _ _ hzn')
          have hb3 : (((total Q : Nat) : Int) == ((total Q' : Nat) : Int)) = true := by rw [HTOT.out]; simp
          have hb4 : decide (((total Q : Nat) : Int) = ((total Q' : Nat) : Int)) = true := decide_eq_true (by rw [HTOT.out])
          clear hzn hzn' hduo hbc hbF3 HH HD3
          go_wp2_with fail
          refine HL1.out.mono ?_
          rintro e wc' ⟨rfl, rfl⟩
          go_wp2_with fail
          refine HL2.out.mono ?_
          rintro e wc' ⟨rfl, rfl⟩
          go_wp2_with fail
          go_ret
          exact ⟨rfl, hbF4⟩
theorem WZOrdI (A : Option Addr) (cap : Nat) (l : List Int) (turn : Int) (hl : ∀ n ∈ l, (Lit.int .u32 n).wf = true) (ht : -9223372036854775808 ≤ turn ∧ turn ≤ 9223372036854775807) (w : World) (hA : Cs w A (l.map (Value.int .u32))) :
    Calls Tryz.prog 7 #[.slice A l.length cap, .int .i64 turn] w fun e w' => e = .returned (.bool true) ∧ Below w.heap.size w w' := by
  have hb : ∀ n ∈ l, 0 ≤ n ∧ n < 4294967296 := fun n hn => by
    have := hl n hn
    simp [Lit.wf, IntKind.min, IntKind.max, IntKind.signed, IntKind.bits] at this
    omega
  have hm : l.map (Value.int .u32) = (l.map Int.toNat).map u32V := by
    rw [List.map_map]
    refine List.map_congr_left fun x hx => ?_
    have := hb x hx
    show Value.int .u32 x = Value.int .u32 ((x.toNat : Nat) : Int)
    congr 1
    omega
  rw [hm] at hA
  have h := WZOrd A cap (l.map Int.toNat) turn (fun k hk => by
    obtain ⟨n, hn, rfl⟩ := List.mem_map.1 hk
    have := hb n hn
    omega) ht.1 ht.2 w hA
  rw [List.length_map] at h
  exact h
end Nm
end Go.Proofs.YtkeimgamjnpcbaaGreat
