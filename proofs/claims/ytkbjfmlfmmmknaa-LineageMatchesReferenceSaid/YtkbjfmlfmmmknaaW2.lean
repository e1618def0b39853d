/- The walks of mention; what New leaves. -/
import Derived.Test.YtkbjfmlfmmmknaaW1
import Derived.Deep.RegionWith
import Derived.Lib.Hide
namespace Go.Proofs.Ytkbjfmlfmmmknaa
open Go.RowKit Go.Maps Go.WideMaps Go.ChangeMaps

/-- the map of all is written at an Id. -/
structure OutPut (w w' : World) (bo n : Nat) (D : DataW Unit) (k : Key) (b : Nat) : Prop where
  own : w'.ownsMap Try.prog 9 Rout bo (n + 1) (D.put (.string k) (.lit (.int .i64 b)))
  grown : w.grownBy w' (some bo)

theorem out_put {w : World} {n bo : Nat} {D : DataW Unit} (h : w.ownsMap Try.prog 9 Rout bo n D) {s : ByteArray} (hs : s.size ≤ maxLen) (hn : n < maxLen) (b : Nat) :
    ∃ w', (Instr.mapUpdate 53 (.map (some bo)) (.string s) (.map (some b))).run Try.prog w = .ok () w' ∧ OutPut w w' bo n D s.data.toList b := by
  obtain ⟨w', hrun, h1, h2⟩ := h.update K9 Try.underlying53 hn (keyOf_string_mk Try.underlying9 hs) (val := .map (some b)) (d := .lit (.int .i64 b)) (ps := []) rfl
  exact ⟨w', hrun, h1, h2⟩

theorem LinAt.drew {w : World} {x n bo : Nat} {F : Nat → Prop} {st : St} {D : DataW Unit} {blk : Key → Nat} (h : LinAt w x F n st bo D blk) : LinAt w.drew x F n st bo D blk :=
  h.turn (Turn.drew (fun _ => False) w) (fun _ _ h => h)

set_option maxHeartbeats 400000 in
theorem mention_some_raw (w : World) (x n bo : Nat) (F : Nat → Prop) (st : St) (D : DataW Unit) (blk : Key → Nat) (s : ByteArray) (S : Key → Bool) (h : LinAt w x F n st bo D blk) (hs : s.size ≤ maxLen) (hn : n < maxLen) (hk : st s.data.toList = some S) :
    Calls Try.prog 31 #[.pointer (some ⟨x, 0, none⟩), .string s] w fun e w' => e = .returned (.tuple #[]) ∧ OutPut w.drew w' bo n D s.data.toList (blk s.data.toList) := by
  have hd := h.drew
  have hc := hd.cell
  have hof := of_some w.drew x n bo F st D blk s S hd hs hk
  obtain ⟨w1, hrun, hout⟩ := out_put hd.own hs hn (blk s.data.toList)
  clear hd h hk
  generalize blk s.data.toList = bb at *
  go_enter Try.func31, Try.ntmps31
  go_wp2
  go_region_with (go_at_call 29; refine hof.mono ?_; rintro e w' ⟨rfl, rfl⟩)
  all_goals go_end0
  all_goals exact ⟨rfl, hout⟩

/-- behind 'mention' at an Id that is not mentioned. -/
def MentNew (w : World) (bo n : Nat) (D : DataW Unit) (k : Key) (e : Ending) (w' : World) : Prop :=
  e = .returned (.tuple #[]) ∧ ∃ w1, SetAt w1 w.heap.size 1 (fun j => j == k) ∧ w.grownBy w1 none ∧ OutPut w1 w' bo n D k w.heap.size

set_option maxHeartbeats 400000 in
theorem mention_none_raw (w : World) (x n bo : Nat) (F : Nat → Prop) (st : St) (D : DataW Unit) (blk : Key → Nat) (s : ByteArray) (h : LinAt w x F n st bo D blk) (hs : s.size ≤ maxLen) (hn : n < maxLen) (hk : st s.data.toList = none) :
    Calls Try.prog 31 #[.pointer (some ⟨x, 0, none⟩), .string s] w (MentNew w bo n D s.data.toList) := by
  have hd := h.drew
  have hc := hd.cell
  have hof := of_none w.drew x n bo F st D blk s hd hs hk
  have hcl : ∀ w1, w.drew.grownBy w1 none → w1.cell? ⟨x, 0, none⟩ = some (.map (some bo)) := fun w1 hg => hg.cell hc (by simp)
  have hput : ∀ w1, w.drew.grownBy w1 none → ∃ w', (Instr.mapUpdate 53 (.map (some bo)) (.string s) (.map (some w.heap.size))).run Try.prog w1 = .ok () w' ∧ OutPut w1 w' bo n D s.data.toList w.heap.size :=
    fun w1 hg => out_put (hd.own.kept hg (by simp)) hs hn _
  have hlt := h.own.lt
  have hne : w.heap.size ≠ bo := by omega
  clear hd h hk
  have HC := Lib.hid hcl
  have HP := Lib.hid hput
  clear hcl hput
  go_enter Try.func31, Try.ntmps31
  go_wp2
  go_region_with (go_at_call 29; refine hof.mono ?_; rintro e w1 ⟨rfl, hset, hg⟩; have hc1 := HC.out w1 hg; obtain ⟨w2, hrun, hout⟩ := HP.out w1 hg)
  all_goals go_end0
  all_goals exact ⟨rfl, _, by assumption, ⟨hg.os, hg.tape, hg.output, hg.size, hg.block⟩, by assumption⟩

end Go.Proofs.Ytkbjfmlfmmmknaa
