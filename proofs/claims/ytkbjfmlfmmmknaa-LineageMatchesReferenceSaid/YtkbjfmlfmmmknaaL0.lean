/- The walks of the statements' own small functions: split, join, drop. -/
import Derived.Test.YtkbjfmlfmmmknaaW5
import Derived.Test.YtkbjfmlfmmmknaaFG
namespace Go.Proofs.Ytkbjfmlfmmmknaa
open Go.RowKit Go.Maps Go.WideMaps Go.ChangeMaps Go.Sort

/-- An edit as a value: what is asked of it, and whatever its other cells hold. -/
structure EdC where
  op : Int
  id : ByteArray
  other : ByteArray
  obj : ByteArray
  c3 : Value
  c4 : Value
  c5 : Value
  c6 : Value
  c7 : Value
  c8 : Value
  c10 : Value
  c11 : Value
  c12 : Value
  c13 : Value
  c14 : Value

def EdC.cells (e : EdC) : List Value := [.int .i64 e.op, .string e.id, .string e.other, e.c3, e.c4, e.c5, e.c6, e.c7, e.c8, .string e.obj, e.c10, e.c11, e.c12, e.c13, e.c14]
def EdC.val (e : EdC) : Value := .agg e.cells.toArray
def EdC.ed (e : EdC) : Ed := ⟨e.op, e.id.data.toList, e.other.data.toList, e.obj.data.toList⟩
structure EdC.ok (e : EdC) : Prop where
  id : e.id.size ≤ maxLen
  other : e.other.size ≤ maxLen
  obj : e.obj.size ≤ maxLen

/-- Follow, at an edit as a value. -/
theorem follow_val (w : World) (x n : Nat) (F : Nat → Prop) (st : St) (h : Lin w x F n st) (hn : n < 1000000) (e : EdC) (he : e.ok) :
    Calls Try.prog 14 #[.pointer (some ⟨x, 0, none⟩), e.val] w (FollowPost w x F n st e.ed) :=
  follow_any w x n F st h hn e.op e.id e.other e.obj e.c3 e.c4 e.c5 e.c6 e.c7 e.c8 e.c10 e.c11 e.c12 e.c13 e.c14 he.id he.other he.obj

/-- An edit of few words. -/
def edE (op : Int) (a b c : ByteArray) : EdC :=
  ⟨op, a, b, ⟨#[]⟩, .string c, .int .i64 0, .int .i64 0, .string ⟨#[]⟩, .string ⟨#[]⟩, .slice none 0 0, .int .i64 0, .int .i64 0, .int .i64 0, .slice none 0 0, .slice none 0 0⟩

theorem edE_ok {op : Int} {a b c : ByteArray} (ha : a.size ≤ maxLen) (hb : b.size ≤ maxLen) : (edE op a b c).ok := ⟨ha, hb, Nat.zero_le _⟩

set_option maxHeartbeats 1000000 in
theorem split_raw (w : World) (a b : ByteArray) : Calls Try.prog 25 #[.string a, .string b] w fun e w' => e = .returned (.agg #[.int .i64 6, .string a, .string b, .string ⟨#[110]⟩, .int .i64 0, .int .i64 0, .string ⟨#[]⟩, .string ⟨#[]⟩, .slice none 0 0, .string ⟨#[]⟩, .int .i64 0, .int .i64 0, .int .i64 0, .slice none 0 0, .slice none 0 0]) ∧ Below w.heap.size w w' := by
  go_enter Try.func25, Try.ntmps25
  go_wp2
  exact bodyPost_ret (v := .agg #[.int .i64 6, .string a, .string b, .string ⟨#[110]⟩, .int .i64 0, .int .i64 0, .string ⟨#[]⟩, .string ⟨#[]⟩, .slice none 0 0, .string ⟨#[]⟩, .int .i64 0, .int .i64 0, .int .i64 0, .slice none 0 0, .slice none 0 0]) (by simp [results, Try.results25, go_sem]) rfl ⟨rfl, (Below.refl _ _).alloc (Nat.le_refl _) _⟩
theorem split_any (w : World) (a b : ByteArray) : Calls Try.prog 25 #[.string a, .string b] w fun e w' => e = .returned (edE 6 a b ⟨#[110]⟩).val ∧ Below w.heap.size w w' := split_raw w a b

set_option maxHeartbeats 1000000 in
theorem join_raw (w : World) (a b : ByteArray) : Calls Try.prog 26 #[.string a, .string b] w fun e w' => e = .returned (.agg #[.int .i64 7, .string a, .string b, .string ⟨#[]⟩, .int .i64 0, .int .i64 0, .string ⟨#[]⟩, .string ⟨#[]⟩, .slice none 0 0, .string ⟨#[]⟩, .int .i64 0, .int .i64 0, .int .i64 0, .slice none 0 0, .slice none 0 0]) ∧ Below w.heap.size w w' := by
  go_enter Try.func26, Try.ntmps26
  go_wp2
  exact bodyPost_ret (v := .agg #[.int .i64 7, .string a, .string b, .string ⟨#[]⟩, .int .i64 0, .int .i64 0, .string ⟨#[]⟩, .string ⟨#[]⟩, .slice none 0 0, .string ⟨#[]⟩, .int .i64 0, .int .i64 0, .int .i64 0, .slice none 0 0, .slice none 0 0]) (by simp [results, Try.results26, go_sem]) rfl ⟨rfl, (Below.refl _ _).alloc (Nat.le_refl _) _⟩
theorem join_any (w : World) (a b : ByteArray) : Calls Try.prog 26 #[.string a, .string b] w fun e w' => e = .returned (edE 7 a b ⟨#[]⟩).val ∧ Below w.heap.size w w' := join_raw w a b

set_option maxHeartbeats 1000000 in
theorem drop_raw (w : World) (a : ByteArray) : Calls Try.prog 27 #[.string a] w fun e w' => e = .returned (.agg #[.int .i64 5, .string a, .string ⟨#[]⟩, .string ⟨#[]⟩, .int .i64 0, .int .i64 0, .string ⟨#[]⟩, .string ⟨#[]⟩, .slice none 0 0, .string ⟨#[]⟩, .int .i64 0, .int .i64 0, .int .i64 0, .slice none 0 0, .slice none 0 0]) ∧ Below w.heap.size w w' := by
  go_enter Try.func27, Try.ntmps27
  go_wp2
  exact bodyPost_ret (v := .agg #[.int .i64 5, .string a, .string ⟨#[]⟩, .string ⟨#[]⟩, .int .i64 0, .int .i64 0, .string ⟨#[]⟩, .string ⟨#[]⟩, .slice none 0 0, .string ⟨#[]⟩, .int .i64 0, .int .i64 0, .int .i64 0, .slice none 0 0, .slice none 0 0]) (by simp [results, Try.results27, go_sem]) rfl ⟨rfl, (Below.refl _ _).alloc (Nat.le_refl _) _⟩
theorem drop_any (w : World) (a : ByteArray) : Calls Try.prog 27 #[.string a] w fun e w' => e = .returned (edE 5 a ⟨#[]⟩ ⟨#[]⟩).val ∧ Below w.heap.size w w' := drop_raw w a

end Go.Proofs.Ytkbjfmlfmmmknaa
