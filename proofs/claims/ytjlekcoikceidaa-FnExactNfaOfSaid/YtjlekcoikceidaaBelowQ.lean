/- A region that draws its order, whose operations read and whose callees may make memory of their own: walked once, in the order of the text. No conditions. -/
import Derived.Test.YtjlekcoikceidaaBlk
import Derived.Deep.QuietTactic
import Derived.BigQuiet
namespace Go.Proofs.Ytjlekcoikceidaa
open Go.RowKit

/-- A world that is W but for new blocks. -/
structure BelowOf (W : World) where
  w : World
  h : Below W.heap.size W w
instance (W : World) : Inhabited (BelowOf W) := ⟨⟨W, Below.refl _ _⟩⟩
theorem wp_region_below {P : Program} {id : Nat} {Q : Exit → Act → World → Prop} {a : Act} {W : World} {l : List Oper} (hm : P.follows .mixedOrders = true) (hB : Region.lexB .any l.toArray = true)
    (h : wpQuiet P l.toArray (fun w' => ∃ p : BelowOf W, w' = p.w) (fun a' => ∀ w', (∃ p : BelowOf W, w' = p.w) → Q .normal a' w') l a) : (Code.region id l.toArray true).wp P Q a W :=
  wp_region_quiet (C := fun w' => ∃ p : BelowOf W, w' = p.w) hm hB ⟨⟨W.drew, (Below.refl _ _).drew⟩, rfl⟩ (by simpa using h)
theorem Calls.below_of {P : Program} {f : FuncId} {args : Array Value} {W : World} {p : BelowOf W} {v : Value}
    (h : Calls P f args p.w fun e w' => e = .returned v ∧ Below p.w.heap.size p.w w') : Calls P f args p.w fun e w'' => e = .returned v ∧ ∃ p' : BelowOf W, w'' = p'.w :=
  h.mono fun _ _ ⟨he, hb⟩ => ⟨he, ⟨_, below_step p.h hb⟩, rfl⟩
theorem Calls.below_same {P : Program} {f : FuncId} {args : Array Value} {W : World} {p : BelowOf W} {v : Value}
    (h : Calls P f args p.w fun e w' => e = .returned v ∧ p.w = w') : Calls P f args p.w fun e w'' => e = .returned v ∧ ∃ p' : BelowOf W, w'' = p'.w :=
  h.mono fun _ _ ⟨he, hb⟩ => ⟨he, p, hb.symm⟩
theorem cellQ {W : World} {a : Addr} {v : Value} (h : W.cell? a = some v) (p : BelowOf W) : p.w.cell? a = some v := held_step p.h h
end Go.Proofs.Ytjlekcoikceidaa
