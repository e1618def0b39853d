/- A region that draws its order, whose operations only read and whose callees leave what was there as it was: walked once, in the order of the text. -/
import Derived.Test.YtdpbihbcggpobaaN4
import Derived.Deep.Quiet
namespace Go.Proofs.Ytdpbihbcggpobaa
open Go.RowKit Go.Maps

/-- A world in which whatever w holds is as it was. -/
structure BelowOf (w : World) where
  w' : World
  h : Below w.heap.size w w'

instance (w : World) : Nonempty (BelowOf w) := ⟨⟨w, Below.refl _ _⟩⟩

theorem wp_region_below {P : Program} {id : Nat} {Q : Exit → Act → World → Prop} {a : Act} {w : World} {l : List Oper} (hm : P.follows .mixedOrders = true) (hB : Region.lexB .any l.toArray = true)
    (h : wpQuiet P l.toArray (fun w' => ∃ p : BelowOf w, w' = p.w') (fun a' => ∀ w', (∃ p : BelowOf w, w' = p.w') → Q .normal a' w') l a) : (Code.region id l.toArray true).wp P Q a w :=
  wp_region_quiet (C := fun w' => ∃ p : BelowOf w, w' = p.w') hm hB ⟨⟨{ w with drawn := w.drawn + 1 }, below_drewN w 1⟩, rfl⟩ (by simpa using h)

theorem below_of {P : Program} {f : FuncId} {args : Array Value} {w : World} {p : BelowOf w} {v : Value} (h : Calls P f args p.w' fun e w' => e = .returned v ∧ Below p.w'.heap.size p.w' w') :
    Calls P f args p.w' fun e w'' => e = .returned v ∧ ∃ q : BelowOf w, w'' = q.w' :=
  h.mono fun _ w'' ⟨he, hb⟩ => ⟨he, ⟨⟨w'', p.h.trans (hb.mono p.h.size)⟩, rfl⟩⟩

theorem cell_of {w : World} {a : Addr} {v : Value} (h : w.cell? a = some v) (p : BelowOf w) : p.w'.cell? a = some v := (p.h.cell (World.block_lt_of_cell? w a h)).trans h

end Go.Proofs.Ytdpbihbcggpobaa
