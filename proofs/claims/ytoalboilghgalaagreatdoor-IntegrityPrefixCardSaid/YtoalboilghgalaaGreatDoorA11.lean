/- Lemmas for this claim, in parts: Later. -/
import Derived.WalkKit
import Derived.WalkSmall
import Derived.BigQuiet
import Derived.Laws.Rows
/- Regions that draw their order, whose operations read and whose callees make memory alone: one walk in the order of the text serves every order. -/
namespace Go.Proofs.Later
open Go.RowKit

/-- a world that is w0 with more memory -/
structure Later (w0 : World) where
  w : World
  ok : Below w0.heap.size w0 w

instance (w0 : World) : Nonempty (Later w0) := ⟨⟨w0, Below.refl _ _⟩⟩

theorem cell {w0 : World} {p : Addr} {v : Value} (h : w0.cell? p = some v) : ∀ z : Later w0, z.w.cell? p = some v := fun z =>
  (z.ok.cell (p := p) (block_lt_of_cell h)).trans h

theorem region {P : Program} {w0 : World} {id : Nat} {Q : Exit → Act → World → Prop} {a : Act} {l : List Oper} (hm : P.follows .mixedOrders = true) (hB : Region.lexB .any l.toArray = true)
    (h : wpQuiet P l.toArray (fun w' => ∃ z : Later w0, w' = z.w) (fun a' => ∀ w', (∃ z : Later w0, w' = z.w) → Q .normal a' w') l a) : (Code.region id l.toArray true).wp P Q a w0 :=
  wp_region_quiet (C := fun w' => ∃ z : Later w0, w' = z.w) hm hB ⟨⟨_, (Below.refl _ _).drew⟩, rfl⟩ (by simpa using h)

theorem call {P : Program} {w0 : World} {f : FuncId} {args : Array Value} {z : Later w0} {v : Value}
    (h : Calls P f args z.w fun e w' => e = .returned v ∧ Below z.w.heap.size z.w w') : Calls P f args z.w fun e w'' => e = .returned v ∧ ∃ z' : Later w0, w'' = z'.w :=
  h.mono fun _ w' ⟨he, hb⟩ => ⟨he, ⟨w', z.ok.trans (hb.mono z.ok.size)⟩, rfl⟩

theorem call_same {P : Program} {w0 : World} {f : FuncId} {args : Array Value} {z : Later w0} {v : Value}
    (h : Calls P f args z.w fun e w' => e = .returned v ∧ z.w = w') : Calls P f args z.w fun e w'' => e = .returned v ∧ ∃ z' : Later w0, w'' = z'.w :=
  h.mono fun _ _ ⟨he, hb⟩ => ⟨he, z, hb.symm⟩

end Go.Proofs.Later
