/- A slice of strings appended onto a row of the call's own. -/
import Derived.Test.YtkbjfmlfmmmknaaL6
import Derived.Maps.AppendAt
import Derived.OwnWalk
namespace Go.Proofs.Ytkbjfmlfmmmknaa
open Go.RowKit Go.Maps Go.WideMaps Go.ChangeMaps Go.Sort

/-- The row of the call's own: it reads as these strings, it lies from base on. -/
def OwnS (w : World) (base : Nat) (v : Value) (ss : List Key) : Prop := w.ownsRow base 9 1 v ss.length (ss.map encStr)

theorem OwnS.nil (w : World) (base : Nat) : OwnS w base (.slice none 0 0) [] := World.ownsRow_nil w base 9 1
theorem OwnS.sl {w : World} {base : Nat} {v : Value} {ss : List Key} (h : OwnS w base v ss) (hl : ss.length ≤ 1000000) : SL w v (ss.map toB) := SL_of_own h hl
theorem OwnS.base_le {w : World} {base : Nat} {v : Value} {ss : List Key} (h : OwnS w base v ss) {g : Nat} (hg : v.ownBlock = some g) : base ≤ g := by
  rcases h.2 with ⟨rfl, _⟩ | ⟨g', cap, cur, rfl, hb, _⟩
  · cases hg
  · have : g' = g := by simpa [Value.ownBlock] using hg
    omega
theorem OwnS.below {w w' : World} {base : Nat} {v : Value} {ss : List Key} (h : OwnS w base v ss) (hb : Below w.heap.size w w') : OwnS w' base v ss := by
  refine ⟨h.1, ?_⟩
  rcases h.2 with h0 | ⟨g, cap, cur, rfl, h1, h2, h3⟩
  · exact .inl h0
  · exact .inr ⟨g, cap, cur, rfl, h1, (hb.block g (Array.getElem?_eq_some_iff.1 h2).1).trans h2, h3⟩

theorem run_append_words (w : World) (base ty : Nat) (v u : Value) (ss ts : List Key) (hown : OwnS w base v ss) (hu : SL w u (ts.map toB)) (hl : ss.length + ts.length ≤ 1000000) (hbase : base ≤ w.heap.size) :
    ∃ v' w', (Builtin.append_ #[33, 33] ty #[v, u]).run Try.prog w = .ok v' w' ∧ OwnS w' base v' (ss ++ ts) ∧ w.grownBy w' v.ownBlock := by
  obtain ⟨i, hi, hz, h1, h2⟩ := info_parts info9
  rcases hu.2 with ⟨rfl, h0⟩ | ⟨g, cap, rfl, hg⟩
  · obtain rfl : ts = [] := by simpa using h0
    refine ⟨v, w, ?_, by simpa using hown, World.grownBy.refl w _⟩
    rcases hown.2 with ⟨rfl, hn⟩ | ⟨g, cap, cur, rfl, _, _, hnc, _⟩
    · simp [Builtin.append_, run_underlying Try.underlying33, sizeOf, typeInfo, hi, Builtin.lenOf, Builtin.firstCells]
    · simp [Builtin.append_, run_underlying Try.underlying33, sizeOf, typeInfo, hi, Builtin.lenOf, Builtin.firstCells, hnc, storeCells]
  · obtain ⟨v', w', hrun, r1, r2, _, _⟩ := run_append_own_at (P := Try.prog) w base 33 ty 9 i _ 1 16 Try.underlying33 hi hz h1 h2 rfl (by decide) v ss.length (ss.map encStr) hown ⟨g, 0, none⟩ ts.length cap (ts.map encStr) (by simp)
      (fun j x hx => by
        have hj : j < ts.length := by
          have := (List.getElem?_eq_some_iff.1 hx).1; simpa using this
        have e : (⟨g, 0, none⟩ : Addr).add j = ⟨g, j, none⟩ := by simp [Addr.add]; omega
        rw [e, hg.cell j (by simpa using hj)]
        rw [List.getElem?_map, List.getElem?_eq_getElem hj] at hx
        rw [List.getElem?_map, List.getElem?_eq_getElem hj]
        exact hx)
      (fun x hx => by obtain ⟨k, _, rfl⟩ := List.mem_map.1 hx; rfl) (by simp only [maxLen]; omega) (by omega) hbase
    refine ⟨v', w', by simpa using hrun, ?_, r2⟩
    unfold OwnS
    rw [List.length_append, List.map_append]
    exact r1

/-- .. at the walk. -/
theorem wpList_append_words (w : World) {ops : Array Oper} {rest : List Oper} {o : Oper} {a : Act} {Q : Exit → Act → World → Prop} (hg : o.guard = none) (s x : Operand)
    (ho : o.op = Op.call { callee := Callee.builtin Builtin.append, args := #[s, x], argTypes := #[33, 33] }) (base : Nat) (v u : Value) (ss ts : List Key) (hs : a.eval s = v) (hx : a.eval x = u)
    (hown : OwnS w base v ss) (hu : SL w u (ts.map toB)) (hl : ss.length + ts.length ≤ 1000000) (hbase : base ≤ w.heap.size)
    (h : ∀ v' w', OwnS w' base v' (ss ++ ts) → w.grownBy w' v.ownBlock → wpList Try.prog ops Q rest (a.put o.dst v') w') : wpList Try.prog ops Q (o :: rest) a w := by
  refine wpList_plain hg fun K hK => ?_
  obtain ⟨v', w', hrun, r1, r2⟩ := run_append_words w base o.type v u ss ts hown hu hl hbase
  unfold Oper.wp
  simp [execOp, ho, resolve, invoke, builtin, hs, hx, hrun, Result.andThen]
  exact hK _ _ (h v' w' r1 r2)

end Go.Proofs.Ytkbjfmlfmmmknaa
