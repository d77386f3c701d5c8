/- Words on worlds that are as another below its size, and on regions that draw their order. Conditions: as each theorem states them. -/
import Derived.WalkKit
import Derived.WalkLawsBesides
import Derived.WalkSpells
import Derived.Deep.QuietTactic
import Derived.BigQuiet
import Derived.Lib.Hide
namespace Go.Proofs.Ytlmnnbmihimedaa
open Go.RowKit
set_option linter.unusedVariables false
set_option linter.unusedSimpArgs false

/-! Regions that draw their order, read, and call functions that make memory of their own: the worlds that are as w was below w's size. -/
def Ext (w : World) : Type := { w' : World // Below w.heap.size w w' }
instance (w : World) : Nonempty (Ext w) := ⟨⟨w, Below.refl _ _⟩⟩
theorem Ext.bl {w : World} (x : Ext w) : Below w.heap.size w x.val := x.property

section
variable {P : Program} {w : World}
theorem ext_calls {f : FuncId} {args : Array Value} {x : Ext w} {v : Value} (h : Calls P f args x.val fun e w' => e = .returned v ∧ Below x.val.heap.size x.val w') :
    Calls P f args x.val fun e w'' => e = .returned v ∧ ∃ y : Ext w, w'' = y.val :=
  h.mono fun _ w'' ⟨he, hb⟩ => ⟨he, ⟨w'', x.bl.trans (hb.mono x.bl.size)⟩, rfl⟩
theorem ext_calls_same {f : FuncId} {args : Array Value} {x : Ext w} {v : Value} (h : Calls P f args x.val fun e w' => e = .returned v ∧ x.val = w') :
    Calls P f args x.val fun e w'' => e = .returned v ∧ ∃ y : Ext w, w'' = y.val :=
  h.mono fun _ _ ⟨he, hb⟩ => ⟨he, x, hb.symm⟩
theorem ext_cell {p : Addr} {v : Value} (h : w.cell? p = some v) : ∀ x : Ext w, x.val.cell? p = some v := fun x => (x.bl.cell (World.block_lt_of_cell? w p h)).trans h

theorem wp_region_ext {id : Nat} {Q : Exit → Act → World → Prop} {a : Act} {l : List Oper} (hm : P.follows .mixedOrders = true) (hB : Region.lexB .any l.toArray = true)
    (h : wpQuiet P l.toArray (fun w' => ∃ x : Ext w, w' = x.val) (fun a' => ∀ w', (∃ x : Ext w, w' = x.val) → Q .normal a' w') l a) : (Code.region id l.toArray true).wp P Q a w :=
  wp_region_quiet (C := fun w' => ∃ x : Ext w, w' = x.val) hm hB ⟨⟨w.drew, (Below.refl _ _).drew⟩, rfl⟩ (by simpa using h)
end
/-- The world of a goal under a letter, with what is known of it. -/
theorem absW {G : World → Prop} {W : World} (F : World → Prop) (hF : F W) (h : ∀ w, F w → G w) : G W := h W hF
end Go.Proofs.Ytlmnnbmihimedaa
