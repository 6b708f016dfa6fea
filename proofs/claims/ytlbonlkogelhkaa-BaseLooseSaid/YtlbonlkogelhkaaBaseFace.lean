/-
  Contracts of package base's face (Hex32, Hex, OpenHex32, OpenHex) and of its references', in one form.
-/
import Derived.Test.YtlbonlkogelhkaaBaseRef2
import Derived.Lib.SlBytesConst
namespace Go.Proofs.Ytlbonlkogelhkaa
open Go.RowKit
set_option linter.unusedVariables false
namespace Base

/-- the text of bytes -/
def encB (s : Nat) (l : List UInt8) : ByteArray := ⟨((BaseM.enc s (l.map UInt8.toNat)).map UInt8.ofNat).toArray⟩
/-- what a text is read as: bytes and the error's number -/
def Sp (s : Nat) (str : ByteArray) (l : List UInt8) (code : Int) : Prop :=
  (BaseM.dec s (strN str) = none ∧ l = [] ∧ code = 20) ∨ (BaseM.dec s (strN str) = some (l.map UInt8.toNat) ∧ code = 0)
theorem dec_bytes {s : Nat} {l ds : List Nat} (h : BaseM.dec s l = some ds) : ∀ d ∈ ds, d < 256 := by
  unfold BaseM.dec at h
  cases hv : BaseM.vals (2 ^ s) l with
  | none => rw [hv] at h; cases h
  | some x =>
    rw [hv] at h
    simp only [Option.bind] at h
    unfold BaseM.decD at h
    split at h
    · cases h
    · cases h; exact BaseM.digs_lt (by omega) _ _
theorem sp_ex (s : Nat) (str : ByteArray) : ∃ l code, Sp s str l code := by
  cases h : BaseM.dec s (strN str) with
  | none => exact ⟨[], 20, .inl ⟨h, rfl, rfl⟩⟩
  | some ds => exact ⟨ds.map UInt8.ofNat, 0, .inr ⟨by rw [nats_back (dec_bytes h)]; exact h, rfl⟩⟩
theorem toNat_inj {a b : List UInt8} (h : a.map UInt8.toNat = b.map UInt8.toNat) : a = b := by
  have h1 := congrArg (List.map UInt8.ofNat) h
  simpa [List.map_map, Function.comp_def] using h1
/-- read so -/
def ReadAs (l : List UInt8) (code : Int) (w : World) (e : Ending) (w' : World) : Prop :=
  ∃ A cap, e = .returned (.tuple #[.slice A l.length cap, .int .i64 code]) ∧ Cs w' A (l.map byteV) ∧ Below w.heap.size w w'
theorem readAs {s : Nat} {str : ByteArray} {l : List UInt8} {code : Int} (h : Sp s str l code) {w w' : World} {e : Ending} (ho : Opened (BaseM.dec s (strN str)) w e w') : ReadAs l code w e w' := by
  obtain ⟨hb, A, cap, l', code', rfl, hc, hx⟩ := ho
  have hl : l' = l ∧ code' = code := by
    rcases h with ⟨h1, h2, h3⟩ | ⟨h1, h2⟩ <;> rcases hx with ⟨g1, g2, g3⟩ | ⟨g1, g2⟩
    · subst h2 h3 g2 g3; exact ⟨rfl, rfl⟩
    · rw [h1] at g1; cases g1
    · rw [h1] at g1; cases g1
    · rw [h1] at g1
      exact ⟨toNat_inj (Option.some.inj g1).symm, by omega⟩
  obtain ⟨rfl, rfl⟩ := hl
  exact ⟨A, cap, rfl, hc, hb⟩
theorem sp_code {s : Nat} {str : ByteArray} {l : List UInt8} {code : Int} (h : Sp s str l code) : code = 0 ∨ code = 20 := by
  rcases h with ⟨_, _, h⟩ | ⟨_, h⟩ <;> omega

section
variable (A : Option Addr) (l : List UInt8) (cap : Nat) (w : World) (hc : Cs w A (l.map byteV)) (hl : l.length ≤ 1000000)
include hc hl
set_option maxHeartbeats 400000 in
theorem Hex32 : Calls Try.prog 23 #[.slice A l.length cap] w fun e w' => e = .returned (.string (encB 5 l)) ∧ Below w.heap.size w w' := by
  have h := Lib.hid (texted5 A l cap w hc hl)
  go_enter Try.func23, Try.ntmps23
  go_wp2_with (go_at_call 33; refine h.out.mono ?_; rintro e w' ⟨rfl, hb⟩)
  go_ret
  exact ⟨rfl, hb⟩
set_option maxHeartbeats 400000 in
theorem Hex : Calls Try.prog 24 #[.slice A l.length cap] w fun e w' => e = .returned (.string (encB 4 l)) ∧ Below w.heap.size w w' := by
  have h := Lib.hid (texted4 A l cap w hc hl)
  go_enter Try.func24, Try.ntmps24
  go_wp2_with (go_at_call 33; refine h.out.mono ?_; rintro e w' ⟨rfl, hb⟩)
  go_ret
  exact ⟨rfl, hb⟩
theorem RefHex32 : Calls Try.prog 27 #[.slice A l.length cap] w fun e w' => e = .returned (.string (encB 5 l)) ∧ Below w.heap.size w w' :=
  (refHex32 A l cap w hc hl).mono fun e w' ⟨h1, h2⟩ => ⟨h1, h2 ▸ Below.refl _ _⟩
theorem RefHex : Calls Try.prog 28 #[.slice A l.length cap] w fun e w' => e = .returned (.string (encB 4 l)) ∧ Below w.heap.size w w' := refHex A l cap w hc hl
end

section
variable (str : ByteArray) (l : List UInt8) (code : Int) (w : World)
set_option maxHeartbeats 400000 in
theorem OpenHex32 (h : Sp 5 str l code) (hs : str.size ≤ 1000000) : Calls Try.prog 25 #[.string str] w (ReadAs l code w) := by
  have H := Lib.hid h
  clear h
  have h := Lib.hid (opened5 str hs w)
  go_enter Try.func25, Try.ntmps25
  go_wp2_with (go_at_call 34; refine h.out.mono ?_; intro e w' ho; obtain ⟨A, cap, rfl, hc, hb⟩ := readAs H.out ho)
  go_ret2
  exact ⟨A, cap, rfl, hc, hb⟩
set_option maxHeartbeats 400000 in
theorem OpenHex (h : Sp 4 str l code) (hs : str.size ≤ 1000000) : Calls Try.prog 26 #[.string str] w (ReadAs l code w) := by
  have H := Lib.hid h
  clear h
  have h := Lib.hid (opened4 str hs w)
  go_enter Try.func26, Try.ntmps26
  go_wp2_with (go_at_call 34; refine h.out.mono ?_; intro e w' ho; obtain ⟨A, cap, rfl, hc, hb⟩ := readAs H.out ho)
  go_ret2
  exact ⟨A, cap, rfl, hc, hb⟩
theorem RefOpenHex32 (h : Sp 5 str l code) (hs : str.size ≤ 1000000) : Calls Try.prog 30 #[.string str] w (ReadAs l code w) :=
  (refOpenHex32 str hs w).mono fun _ _ ho => readAs h ho
theorem RefOpenHex (h : Sp 4 str l code) (hs : str.size ≤ 1000000) : Calls Try.prog 31 #[.string str] w (ReadAs l code w) :=
  (refOpenHex str hs w).mono fun _ _ ho => readAs h ho
end

theorem cs_new (w : World) (e : TypeId) (cs : List Value) (fr : Nat × Nat) : Cs (w.alloc (.cells cs.toArray e fr)) (some ⟨w.heap.size, 0, none⟩) cs := by
  intro i u hu
  refine ⟨w.heap.size, 0, rfl, by simp, ?_⟩
  rw [Nat.zero_add, cell_of_row _ _ i cs.toArray e fr (heap_alloc_new w _)]
  simpa using hu

theorem sp1 : Sp 5 ⟨#[67, 79]⟩ [102] 0 := .inr ⟨by decide, rfl⟩
theorem sp2 : Sp 4 ⟨#[48, 97, 70, 70]⟩ [10, 255] 0 := .inr ⟨by decide, rfl⟩
theorem sp3 : Sp 5 ⟨#[99]⟩ [] 20 := .inl ⟨by decide, rfl, rfl⟩
theorem en1 : encB 5 [102] = ⟨#[99, 111]⟩ := by decide
theorem en2 : encB 4 [10, 255] = ⟨#[48, 97, 102, 102]⟩ := by decide

set_option maxHeartbeats 1000000 in
theorem known (w : World) : Calls Try.prog 22 #[] w fun e w' => e = .returned (.bool true) ∧ Below w.heap.size w w' := by
  have kc := fun (w : World) (C : Array Value) (n c : Nat) => Lib.run_convert_bytes_const (P := Try.prog) w 33 5 C n c Try.underlying33 Try.underlying5
  have h1 := en1
  have h2 := en2
  go_enter Try.func22, Try.ntmps22
  go_wp2_with fail
  refine (OpenHex32 _ _ _ _ sp1 (by decide)).mono ?_
  rintro e w1 ⟨A1, cap1, rfl, hc1, hb1⟩
  go_wp2_with fail
  refine (OpenHex _ _ _ _ sp2 (by decide)).mono ?_
  rintro e w2 ⟨A2, cap2, rfl, hc2, hb2⟩
  go_wp2_with fail
  refine (OpenHex32 _ _ _ _ sp3 (by decide)).mono ?_
  rintro e w3 ⟨A3, cap3, rfl, hc3, hb3⟩
  go_wp2_with fail
  have hbx : Below w3.heap.size w3 (w3.alloc (.cells #[.int .u8 102] 5 (1, 2))) := (Below.refl _ _).alloc (Nat.le_refl _) _
  refine (Hex32 _ [102] 1 _ (cs_new w3 5 ([102].map byteV) (1, 2)) (by decide)).mono ?_
  rintro e w4 ⟨rfl, hb4⟩
  have hx3 := ((hc1.below hb2).below hb3).below hbx
  have hcv1 : (convert 33 9 (.slice A1 1 cap1)).run Try.prog w4 = .ok (.string ⟨#[102]⟩) w4 := run_str (P := Try.prog) w4 Try.underlying33 Try.underlying5 Try.underlying9 cap1 (hx3.below hb4)
  rw [en1]
  go_wp2_with fail
  have hb4' : Below w3.heap.size w3 w4 := hbx.trans (hb4.mono hbx.size)
  have hby : Below w4.heap.size w4 (w4.alloc (.cells #[.int .u8 10, .int .u8 255] 5)) := (Below.refl _ _).alloc (Nat.le_refl _) _
  refine (bytesEq _ _ [10, 255] [10, 255] _ _ _ (((hc2.below hb3).below hb4').below hby) (cs_new w4 5 ([10, 255].map byteV) (0, 0))).mono ?_
  rintro e w5 ⟨rfl, rfl⟩
  go_wp2_with fail
  have hcs : Cs ((w4.alloc (.cells #[.int .u8 10, .int .u8 255] 5)).alloc (.cells #[.int .u8 10, .int .u8 255] 5)) (some ⟨w4.heap.size + 1, 0, none⟩) ([10, 255].map byteV) := by
    have := cs_new (w4.alloc (.cells #[.int .u8 10, .int .u8 255] 5)) 5 ([10, 255].map byteV) (0, 0)
    rwa [World.size_alloc] at this
  refine (Hex _ [10, 255] 2 _ hcs (by decide)).mono ?_
  rintro e w6 ⟨rfl, hb6⟩
  rw [en2]
  go_wp2_with fail
  go_ret
  refine ⟨rfl, ?_⟩
  have b1 : Below w.heap.size w w3 := hb1.trans ((hb2.mono hb1.size).trans (hb3.mono (Nat.le_trans hb1.size hb2.size)))
  have b2 : Below w.heap.size w w4 := b1.trans (hb4'.mono b1.size)
  exact ((b2.alloc b2.size _).alloc (by have := b2.size; simp; omega) _).trans (hb6.mono (by have := b2.size; simp; omega))

end Base
end Go.Proofs.Ytlbonlkogelhkaa
