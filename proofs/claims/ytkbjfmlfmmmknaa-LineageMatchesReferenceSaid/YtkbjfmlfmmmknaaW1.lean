/- The walks of the lineage's small functions: has, New, of. -/
import Derived.Test.YtkbjfmlfmmmknaaBase
namespace Go.Proofs.Ytkbjfmlfmmmknaa
open Go.RowKit Go.Maps Go.WideMaps Go.ChangeMaps

set_option maxHeartbeats 400000 in
theorem has_any (w : World) (b n : Nat) (S : Key → Bool) (s : ByteArray) (h : SetAt w b n S) (hs : s.size ≤ maxLen) :
    Calls Try.prog 30 #[.map (some b), .string s] w fun e w' => e = .returned (.bool (S s.data.toList)) ∧ w = w' := by
  have hrun := h.look hs
  clear h hs
  go_enter Try.func30, Try.ntmps30
  go_wp2
  go_ret
  exact ⟨rfl, rfl⟩

set_option maxHeartbeats 400000 in
theorem of_some (w : World) (x n bo : Nat) (F : Nat → Prop) (st : St) (D : DataW Unit) (blk : Key → Nat) (s : ByteArray) (S : Key → Bool) (h : LinAt w x F n st bo D blk) (hs : s.size ≤ maxLen) (hk : st s.data.toList = some S) :
    Calls Try.prog 29 #[.pointer (some ⟨x, 0, none⟩), .string s] w fun e w' => e = .returned (.map (some (blk s.data.toList))) ∧ w = w' := by
  have hrun := h.look_some hs hk
  have hc := h.cell
  clear h hs hk
  generalize blk s.data.toList = bb at *
  go_enter Try.func29, Try.ntmps29
  go_wp2
  go_ret
  exact ⟨rfl, rfl⟩

theorem set_one (k : Key) : (∀ j, has ((DataW.map [] : DataW Unit).put (.string k) (.lit (.bool true))) (.string j) = (j == k)) ∧ ∀ j, ((DataW.map [] : DataW Unit).put (.string k) (.lit (.bool true))).atKey (.string j) (.lit (.bool false)) = .lit (.bool (j == k)) := by
  have h := set_put (D := .map []) (S := fun _ => false) isMap_empty (fun _ => rfl) (fun _ => rfl) k
  simpa using h

/-- behind 'of' at an Id that is not mentioned: a new set of just this Id. -/
def OfNew (w : World) (k : Key) (e : Ending) (w' : World) : Prop :=
  e = .returned (.map (some w.heap.size)) ∧ SetAt w' w.heap.size 1 (fun j => j == k) ∧ w.grownBy w' none

set_option maxHeartbeats 400000 in
theorem of_none (w : World) (x n bo : Nat) (F : Nat → Prop) (st : St) (D : DataW Unit) (blk : Key → Nat) (s : ByteArray) (h : LinAt w x F n st bo D blk) (hs : s.size ≤ maxLen) (hk : st s.data.toList = none) :
    Calls Try.prog 29 #[.pointer (some ⟨x, 0, none⟩), .string s] w (OfNew w s.data.toList) := by
  have hrun := h.look_none hs hk
  have hc := h.cell
  have hmm := @run_makeMap Try.prog
  clear h hk
  have hown := World.ownsMap_made (H := Unit) w Try.prog 9 (plainElem Try.prog 4)
  go_enter Try.func29, Try.ntmps29
  go_wp2_with (refine wpList_insert_own _ rfl _ _ _ 60 rfl 9 4 K9 Try.underlying60 _ w.heap.size 0 (.map []) rfl hown (by decide) _ _ _ rfl rfl (keyOf_string_mk Try.underlying9 hs) _ [] (plainElem_bool Try.underlying4 true) ?_; intro w1 hown1 hg1)
  go_ret
  refine ⟨rfl, ⟨_, hown1, set_one _⟩, ?_⟩
  exact ⟨hg1.os, hg1.tape, hg1.output, Nat.le_trans (by simp) hg1.size, fun i hi _ => (hg1.block i (by simp; omega) (by simp; omega)).trans (Below.heap_alloc w _ i hi)⟩

set_option maxHeartbeats 400000 in
theorem new_raw (w : World) : Calls Try.prog 12 #[] w fun e w' => e = .returned (.pointer (some ⟨w.heap.size + 1, 0, none⟩)) ∧ (w.alloc (.map #[] 0)).alloc (.cells #[.map (some w.heap.size)] 55) = w' := by
  have hmm := @run_makeMap Try.prog
  go_enter Try.func12, Try.ntmps12
  go_wp2
  go_ret
  exact ⟨rfl, rfl⟩

end Go.Proofs.Ytkbjfmlfmmmknaa
