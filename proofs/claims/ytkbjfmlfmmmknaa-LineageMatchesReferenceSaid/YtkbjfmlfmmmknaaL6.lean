/- Edits that came in by value: boxed, laid into a literal. -/
import Derived.Test.YtkbjfmlfmmmknaaL5
namespace Go.Proofs.Ytkbjfmlfmmmknaa
open Go.RowKit Go.Maps Go.WideMaps Go.ChangeMaps Go.Sort

theorem alloc_at (w : World) (o : Obj) : (w.alloc o).heap[w.heap.size]? = some o := by
  show (w.heap.push o)[w.heap.size]? = _
  simp
theorem boxed_range (w : World) (cs : List Value) (t : TypeId) : (w.alloc (.cells cs.toArray t)).rangeAt w.heap.size 0 cs := by
  intro j v hj
  rw [World.cell?, alloc_at]
  simpa using hj
theorem boxed_below (w : World) (o : Obj) : Below w.heap.size w (w.alloc o) := (Below.refl _ _).alloc (Nat.le_refl _) _
theorem boxed_size (w : World) (o : Obj) : (w.alloc o).heap.size = w.heap.size + 1 := by simp

/-- A literal of edits. -/
theorem eds_lit (w : World) (es : List EdC) (hok : ∀ e ∈ es, e.ok) (hl : es.length ≤ maxLen) (cs : List Value) (hc : cs = es.flatMap EdC.cells) (t : TypeId) :
    Eds (w.alloc (.cells cs.toArray t)) (.slice (some ⟨w.heap.size, 0, none⟩) es.length es.length) es := by
  subst hc
  refine ⟨hok, _, _, rfl, Nat.le_refl _, hl, fun _ => ⟨_, _, rfl, by simp, fun i e he j v hj => ?_⟩⟩
  have key : ∀ (es : List EdC) (i j : Nat) (e : EdC) (v : Value), es[i]? = some e → e.cells[j]? = some v → (es.flatMap EdC.cells)[i * 15 + j]? = some v := by
    intro es
    induction es with
    | nil => intro i j e v h; simp at h
    | cons a es ih =>
      intro i j e v he hv
      rw [List.flatMap_cons]
      have hla : a.cells.length = 15 := rfl
      cases i with
      | zero =>
        have : a = e := by simpa using he
        subst this
        have hj : j < a.cells.length := by
          rcases Nat.lt_or_ge j a.cells.length with h | h
          · exact h
          · rw [List.getElem?_eq_none h] at hv; cases hv
        rw [List.getElem?_append_left (by omega), Nat.zero_mul, Nat.zero_add]
        exact hv
      | succ i =>
        rw [List.getElem?_append_right (by omega), show (i + 1) * 15 + j - a.cells.length = i * 15 + j from by rw [hla]; omega]
        exact ih i j e v (by simpa using he) hv
  have := key es i j e v he hj
  rw [World.cell?, alloc_at]
  simpa using this

/-- A load of an edit, behind a guard that says yes. -/
theorem wpList_load_want {P : Program} {ops : Array Oper} {rest : List Oper} {op : Oper} {a : Act} {w : World} {Q : Exit → Act → World → Prop} (hw : Region.wanted op (yielded ops a.tmps) = true) (ty : TypeId) (x : Operand) (ho : op.op = .load ty x)
    (b o : Nat) (hx : a.eval x = .pointer (some ⟨b, o, none⟩)) (cs : List Value) (d : TypeDesc) (hc : w.rangeAt b o cs)
    (hu : P.underlying ty = some d) (hd : d.isRow = true) (hi : (P.info? ty).map (·.size) = some cs.length)
    (h : wpList P ops Q rest (a.put op.dst (.agg cs.toArray)) w) : wpList P ops Q (op :: rest) a w :=
  Go.BigFrame.wpList_want hw fun _ hK => wp_load_mid ty x ho b o hx cs d hc hu hd hi (hK _ _ h)

/-- The length of a slice, behind a guard that says yes. -/
theorem wpList_len_want {P : Program} {ops : Array Oper} {rest : List Oper} {op : Oper} {a : Act} {w : World} {Q : Exit → Act → World → Prop} (hw : Region.wanted op (yielded ops a.tmps) = true) (t e ty : TypeId) (x : Operand) (d : Option Tmp) (pos : String) (after : Array Edge) (guard : Option (Nat × Bool))
    (ho : op = { dst := d, op := Op.call { callee := Callee.builtin Builtin.len, args := #[x], argTypes := #[t] }, type := ty, pos := pos, after := after, guard := guard })
    (A : Option Addr) (n c : Nat) (hx : a.eval x = .slice A n c) (hu : P.underlying t = some (.slice e))
    (h : wpList P ops Q rest (a.put op.dst (.int .i64 n)) w) : wpList P ops Q (op :: rest) a w :=
  Go.BigFrame.wpList_want hw fun _ hK => by
    unfold Oper.wp
    subst ho
    rw [Go.BigFrame.execOp_builtin, Go.BigFrame.builtin_len]
    simp [hx, Builtin.len_, run_underlying hu, Result.andThen, Oper.upon, goInt]
    exact hK _ _ h

end Go.Proofs.Ytkbjfmlfmmmknaa
