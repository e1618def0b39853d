/- Words for the walks of Follow: the edit's block, the world behind its boxing. -/
import Derived.Test.YtkbjfmlfmmmknaaW3
import Derived.Deep.QuietTactic
import Derived.BigQuiet
namespace Go.Proofs.Ytkbjfmlfmmmknaa
open Go.RowKit Go.Maps Go.WideMaps Go.ChangeMaps

/-- Block b holds an edit: its operation and Ids. -/
structure EdAt (w : World) (b : Nat) (op : Int) (id other obj : ByteArray) : Prop where
  lt : b < w.heap.size
  op_ : w.cell? ⟨b, 0, none⟩ = some (.int .i64 op)
  id_ : w.cell? ⟨b, 1, none⟩ = some (.string id)
  other_ : w.cell? ⟨b, 2, none⟩ = some (.string other)
  obj_ : w.cell? ⟨b, 9, none⟩ = some (.string obj)

theorem EdAt.turn {w w' : World} {b : Nat} {op : Int} {id other obj : ByteArray} {F : Nat → Prop} (h : EdAt w b op id other obj) (ht : Turn F w w') (hb : ¬ F b) : EdAt w' b op id other obj := by
  have e := ht.block b h.lt hb
  exact ⟨Nat.lt_of_lt_of_le h.lt ht.size, (World.cell?_of_block (a := ⟨b, 0, none⟩) e).trans h.op_, (World.cell?_of_block (a := ⟨b, 1, none⟩) e).trans h.id_, (World.cell?_of_block (a := ⟨b, 2, none⟩) e).trans h.other_, (World.cell?_of_block (a := ⟨b, 9, none⟩) e).trans h.obj_⟩

theorem turn_drewN (F : Nat → Prop) (w : World) (m : Nat) : Turn F w (w.drewN m) := ⟨rfl, rfl, rfl, Nat.le_refl _, fun _ _ _ => rfl⟩

/-- The world once the edit is boxed, and some draws are made. -/
theorem boxed (w : World) (x n bo : Nat) (F : Nat → Prop) (st : St) (D : DataW Unit) (blk : Key → Nat) (h : LinAt w x F n st bo D blk) (op : Int) (id other obj : ByteArray) (c3 c4 c5 c6 c7 c8 c10 c11 c12 c13 c14 : Value) (m : Nat) :
    LinAt ((w.alloc (.cells #[.int .i64 op, .string id, .string other, c3, c4, c5, c6, c7, c8, .string obj, c10, c11, c12, c13, c14] 38)).drewN m) x F n st bo D blk ∧
    EdAt ((w.alloc (.cells #[.int .i64 op, .string id, .string other, c3, c4, c5, c6, c7, c8, .string obj, c10, c11, c12, c13, c14] 38)).drewN m) w.heap.size op id other obj ∧
    (¬ F w.heap.size) ∧ Below w.heap.size w ((w.alloc (.cells #[.int .i64 op, .string id, .string other, c3, c4, c5, c6, c7, c8, .string obj, c10, c11, c12, c13, c14] 38)).drewN m) := by
  refine ⟨h.turn ((Turn.alloc (fun _ => False) w _).trans (turn_drewN _ _ _)) (fun _ _ h => h), EdAt.turn (F := fun _ => False) (w := w.alloc _) ⟨by simp, ?_, ?_, ?_, ?_⟩ (turn_drewN _ _ _) (fun h => h), fun hf => by have := h.lt _ hf; omega, ?_⟩
  · simp
  · simp
  · simp
  · simp
  · exact ((Below.refl _ w).alloc (Nat.le_refl _) _).trans ⟨rfl, rfl, rfl, Nat.le_refl _, fun _ _ => rfl⟩

end Go.Proofs.Ytkbjfmlfmmmknaa
