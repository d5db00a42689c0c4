/- A region that draws its order, walked once over a CLASS of worlds: callees that make memory of their own are quiet there. -/
import Derived.Test.YtiomlnhfhmpejaaGreatDoorB01
import Derived.Deep.QuietTactic
import Derived.BigQuiet
namespace Go.Proofs.YtiomlnhfhmpejaaGreatDoor
open Go.RowKit

/-- a world of a class. -/
structure WorldOf (S : World → Prop) where
  W : World
  ok : S W

theorem wp_region_class {P : Program} {S : World → Prop} {id : Nat} {Q : Exit → Act → World → Prop} {a : Act} {w : World} {l : List Oper} (hm : P.follows .mixedOrders = true) (hB : Region.lexB .any l.toArray = true)
    (hC : S { w with drawn := w.drawn + 1 })
    (h : wpQuiet P l.toArray (fun w' => ∃ n : WorldOf S, w' = n.W) (fun a' => ∀ x : WorldOf S, Q .normal a' x.W) l a) : (Code.region id l.toArray true).wp P Q a w := by
  refine wp_region_quiet (C := fun w' => ∃ n : WorldOf S, w' = n.W) hm hB ⟨⟨_, hC⟩, rfl⟩ ?_
  have e : (fun a' => ∀ w', (∃ n : WorldOf S, w' = n.W) → Q .normal a' w') = fun a' => ∀ x : WorldOf S, Q .normal a' x.W := by
    funext a'
    exact propext ⟨fun h x => h _ ⟨x, rfl⟩, fun h w' ⟨x, e⟩ => e ▸ h x⟩
  rw [e]
  exact h

theorem Calls.quiet_class {P : Program} {f : FuncId} {args : Array Value} {w : World} {v : Value} {x : WorldOf (Mod Non w)}
    (h : Calls P f args x.W fun e w' => e = .returned v ∧ Mod Non x.W w') : Calls P f args x.W fun e w'' => e = .returned v ∧ ∃ n : WorldOf (Mod Non w), w'' = n.W :=
  h.mono fun _ w' ⟨he, hm⟩ => ⟨he, ⟨w', x.ok.trans0 hm⟩, rfl⟩

end Go.Proofs.YtiomlnhfhmpejaaGreatDoor
