/- Follow, where the argument is at fault or the lineage is nil; Follow at whatever edit. -/
import Derived.Test.YtkbjfmlfmmmknaaFA
import Derived.Test.YtkbjfmlfmmmknaaFB
import Derived.Test.YtkbjfmlfmmmknaaFC
import Derived.Test.YtkbjfmlfmmmknaaFD
import Derived.Test.YtkbjfmlfmmmknaaFE
namespace Go.Proofs.Ytkbjfmlfmmmknaa
open Go.RowKit Go.Maps Go.WideMaps Go.ChangeMaps

/-- Follow has answered 1, and turned nothing. -/
def Refused (w : World) (en : Ending) (w' : World) : Prop := en = .returned (.int .i64 1) ∧ Turn (fun _ => False) w w'

theorem turn_boxed (w : World) (o : Obj) (m : Nat) : Turn (fun _ => False) w ((w.alloc o).drewN m) := (Turn.alloc _ w _).trans (turn_drewN _ _ _)

set_option maxHeartbeats 1000000 in
set_option maxRecDepth 100000 in
theorem follow_low (w : World) (x : Nat) (op : Int) (hop : op < 1) (id other obj : ByteArray) (c3 c4 c5 c6 c7 c8 c10 c11 c12 c13 c14 : Value) :
    Calls Try.prog 14 #[.pointer (some ⟨x, 0, none⟩), .agg #[.int .i64 op, .string id, .string other, c3, c4, c5, c6, c7, c8, .string obj, c10, c11, c12, c13, c14]] w (Refused w) := by
  have t6 : (op == 6) = false := by simp; omega
  have t7 : (op == 7) = false := by simp; omega
  have t1 : (op == 1) = false := by simp; omega
  have hT := fun o m => turn_boxed w o m
  have HT := Lib.hid hT
  clear hT
  go_enter Try.func14, Try.ntmps14
  go_wp2_with fail
  go_quiet (fail)
  go_wp2_with fail
  go_ret
  exact ⟨rfl, HT.out _ _⟩

set_option maxHeartbeats 1000000 in
set_option maxRecDepth 100000 in
theorem follow_high (w : World) (x : Nat) (op : Int) (hop : 7 < op) (id other obj : ByteArray) (c3 c4 c5 c6 c7 c8 c10 c11 c12 c13 c14 : Value) :
    Calls Try.prog 14 #[.pointer (some ⟨x, 0, none⟩), .agg #[.int .i64 op, .string id, .string other, c3, c4, c5, c6, c7, c8, .string obj, c10, c11, c12, c13, c14]] w (Refused w) := by
  have t6 : (op == 6) = false := by simp; omega
  have t7 : (op == 7) = false := by simp; omega
  have t1 : (op == 1) = false := by simp; omega
  have hT := fun o m => turn_boxed w o m
  have HT := Lib.hid hT
  clear hT
  go_enter Try.func14, Try.ntmps14
  go_wp2_with fail
  go_quiet (fail)
  go_wp2_with fail
  go_ret
  exact ⟨rfl, HT.out _ _⟩

set_option maxHeartbeats 1000000 in
set_option maxRecDepth 100000 in
theorem follow_same6 (w : World) (x : Nat) (id obj : ByteArray) (c3 c4 c5 c6 c7 c8 c10 c11 c12 c13 c14 : Value) :
    Calls Try.prog 14 #[.pointer (some ⟨x, 0, none⟩), .agg #[.int .i64 6, .string id, .string id, c3, c4, c5, c6, c7, c8, .string obj, c10, c11, c12, c13, c14]] w (Refused w) := by
  have hT := fun o m => turn_boxed w o m
  have HT := Lib.hid hT
  clear hT
  go_enter Try.func14, Try.ntmps14
  go_wp2_with fail
  go_quiet (fail)
  go_wp2_with fail
  go_ret
  exact ⟨rfl, HT.out _ _⟩

set_option maxHeartbeats 1000000 in
set_option maxRecDepth 100000 in
theorem follow_same7 (w : World) (x : Nat) (id obj : ByteArray) (c3 c4 c5 c6 c7 c8 c10 c11 c12 c13 c14 : Value) :
    Calls Try.prog 14 #[.pointer (some ⟨x, 0, none⟩), .agg #[.int .i64 7, .string id, .string id, c3, c4, c5, c6, c7, c8, .string obj, c10, c11, c12, c13, c14]] w (Refused w) := by
  have hT := fun o m => turn_boxed w o m
  have HT := Lib.hid hT
  clear hT
  go_enter Try.func14, Try.ntmps14
  go_wp2_with fail
  go_quiet (fail)
  go_wp2_with fail
  go_ret
  exact ⟨rfl, HT.out _ _⟩

set_option maxHeartbeats 1000000 in
set_option maxRecDepth 100000 in
/-- The nil lineage (the edit being a drop: all that is asked of it). -/
theorem follow_nil (w : World) (id other obj : ByteArray) (c3 c4 c5 c6 c7 c8 c10 c11 c12 c13 c14 : Value) :
    Calls Try.prog 14 #[.pointer none, .agg #[.int .i64 5, .string id, .string other, c3, c4, c5, c6, c7, c8, .string obj, c10, c11, c12, c13, c14]] w (Refused w) := by
  have hT := fun o m => turn_boxed w o m
  have HT := Lib.hid hT
  clear hT
  go_enter Try.func14, Try.ntmps14
  go_wp2_with fail
  go_quiet (fail)
  go_wp2_with fail
  go_ret
  exact ⟨rfl, HT.out _ _⟩

theorem refused_post {w w' : World} {x n : Nat} {F : Nat → Prop} {st : St} {e : Ed} {en : Ending} (h : Lin w x F n st) (hr : Refused w en w') (he : err st e = 1) : FollowPost w x F n st e en w' := by
  obtain ⟨rfl, ht⟩ := hr
  have hst : step st e = st := by unfold step; rw [if_neg (by rw [he]; decide)]
  refine ⟨by rw [he], F, ?_, ht.mono (fun _ h => h.elim), fun i hi => .inl hi⟩
  rw [hst]
  exact (h.turn ht (fun _ _ h => h)).mono (by omega)

/-- Follow, at whatever edit. -/
theorem follow_any (w : World) (x n : Nat) (F : Nat → Prop) (st : St) (h : Lin w x F n st) (hn : n < 1000000) (op : Int) (id other obj : ByteArray) (c3 c4 c5 c6 c7 c8 c10 c11 c12 c13 c14 : Value)
    (hs : id.size ≤ maxLen) (hso : other.size ≤ maxLen) (hsj : obj.size ≤ maxLen) :
    Calls Try.prog 14 #[.pointer (some ⟨x, 0, none⟩), .agg #[.int .i64 op, .string id, .string other, c3, c4, c5, c6, c7, c8, .string obj, c10, c11, c12, c13, c14]] w (FollowPost w x F n st ⟨op, id.data.toList, other.data.toList, obj.data.toList⟩) := by
  have h' := h
  obtain ⟨bo, D, blk, hL⟩ := h'
  by_cases h1 : op < 1
  · exact (follow_low w x op h1 id other obj c3 c4 c5 c6 c7 c8 c10 c11 c12 c13 c14).mono fun _ _ hr => refused_post h hr (by simp [err, h1])
  by_cases h7 : 7 < op
  · exact (follow_high w x op h7 id other obj c3 c4 c5 c6 c7 c8 c10 c11 c12 c13 c14).mono fun _ _ hr => refused_post h hr (by simp [err, h7])
  by_cases e1 : op = 1
  · subst e1; exact follow_put w x n bo F st D blk hL hn id other obj c3 c4 c5 c6 c7 c8 c10 c11 c12 c13 c14 hsj
  by_cases e5 : op = 5
  · subst e5; exact follow_drop w x n bo F st D blk hL hn id other obj c3 c4 c5 c6 c7 c8 c10 c11 c12 c13 c14 hs hso
  by_cases e6 : op = 6
  · subst e6
    by_cases hne : id = other
    · subst hne
      exact (follow_same6 w x id obj c3 c4 c5 c6 c7 c8 c10 c11 c12 c13 c14).mono fun _ _ hr => refused_post h hr (by simp [err, Ed.two])
    · exact follow_split w x n bo F st D blk hL hn id other obj c3 c4 c5 c6 c7 c8 c10 c11 c12 c13 c14 hs hso hne
  by_cases e7 : op = 7
  · subst e7
    by_cases hne : id = other
    · subst hne
      exact (follow_same7 w x id obj c3 c4 c5 c6 c7 c8 c10 c11 c12 c13 c14).mono fun _ _ hr => refused_post h hr (by simp [err, Ed.two])
    · exact follow_join w x n bo F st D blk hL hn id other obj c3 c4 c5 c6 c7 c8 c10 c11 c12 c13 c14 hs hso hne
  exact follow_quiet w x n bo F st D blk hL hn op (by omega) (by omega) id other obj c3 c4 c5 c6 c7 c8 c10 c11 c12 c13 c14 hs hso

end Go.Proofs.Ytkbjfmlfmmmknaa
