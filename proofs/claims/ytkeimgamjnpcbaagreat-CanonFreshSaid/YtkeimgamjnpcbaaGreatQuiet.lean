/-
  A region that draws its order, whose operations read what nobody writes and whose calls hand back plain values, though they may make memory: one walk in the order of the text.
-/
import Derived.Test.YtkeimgamjnpcbaaGreatMem
import Derived.Deep.QuietTactic
import Derived.BigQuiet
namespace Go.Proofs.YtkeimgamjnpcbaaGreat
open Go.RowKit
set_option linter.unusedVariables false

/-- W is w1 with new blocks -/
def Ext (w1 W : World) : Prop := Below w1.heap.size w1 W
theorem Ext.refl (w : World) : Ext w w := Below.refl _ _
theorem Ext.trans {a b c : World} (h : Ext a b) (k : Ext b c) : Ext a c := Below.trans h (Below.mono k h.size)
theorem ext_all (w1 : World) (p : Prop) : (∀ W, Ext w1 W → p) = p := propext ⟨fun h => h w1 (Ext.refl _), fun h _ _ => h⟩

section
variable {P : Program} {ops : Array Oper} {C : World → Prop} {Q : Act → Prop} {a : Act} {o : Oper} {rest : List Oper}
theorem wp_region_ext {id : Nat} {Q : Exit → Act → World → Prop} {a : Act} {w : World} {l : List Oper} (hm : P.follows .mixedOrders = true) (hB : Region.lexB .any l.toArray = true)
    (h : wpQuiet P l.toArray (Ext w) (fun a' => ∀ w', Ext w w' → Q .normal a' w') l a) : (Code.region id l.toArray true).wp P Q a w :=
  wp_region_quiet (C := Ext w) hm hB ⟨rfl, rfl, rfl, Nat.le_refl _, fun _ _ => rfl⟩ (by simpa using h)
theorem quiet_val {K : Act → Prop} (u : Value) (h : ∀ W, C W → (execOp a.eval o).run P W = .ok (.value u) W) (hk : K (a.put o.dst u)) : o.quiet P a C K :=
  ⟨u, fun W hW => by unfold Oper.quietAt; rw [h W hW]; exact ⟨rfl, rfl⟩, hk⟩
theorem quiet_call {K : Act → Prop} (f : FuncId) (args : Array Value) (v : Value) (h : ∀ W, C W → (execOp a.eval o).run P W = .ok (.enter f args) W)
    (hc : ∀ W, C W → Calls P f args W fun e W' => e = .returned v ∧ C W') (hk : K (a.put o.dst v)) : o.quiet P a C K :=
  ⟨v, fun W hW => by unfold Oper.quietAt; rw [h W hW]; exact ⟨rfl, hc W hW⟩, hk⟩
end

end Go.Proofs.YtkeimgamjnpcbaaGreat
