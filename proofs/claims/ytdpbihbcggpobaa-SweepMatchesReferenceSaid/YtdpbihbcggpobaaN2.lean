/- Rows of points: what they read as, an append of one. -/
import Derived.Test.YtdpbihbcggpobaaN1
namespace Go.Proofs.Ytdpbihbcggpobaa
open Go.RowKit Go.Maps

theorem inf32 : (Try.prog.info? 32).map (fun i => (i.zero, i.size, i.bytes)) = some (some (.agg #[.int .i64 0, .int .i64 0]), 2, 16) := by kernel_rfl
theorem ptC_len (p : Pt) : (ptC p).length = 2 := rfl
theorem ptC_one (p : Pt) : ∀ v ∈ ptC p, v.oneCell' = true := by intro v hv; simp [ptC] at hv; rcases hv with rfl | rfl <;> rfl

/-- A list of points, wherever it lies. -/
def PtL (w : World) (v : Value) (L : List Pt) : Prop :=
  ∃ p c, v = .slice p L.length c ∧ (L = [] ∨ ∃ g, p = some ⟨g, 0, none⟩ ∧ g < w.heap.size ∧ ∀ i (h : i < L.length), w.rangeAt g (i * 2) (ptC L[i]))
theorem PtL.below {w w' : World} {v : Value} {L : List Pt} (h : PtL w v L) (hb : Below w.heap.size w w') : PtL w' v L := by
  obtain ⟨p, c, rfl, h⟩ := h
  refine ⟨p, c, rfl, ?_⟩
  rcases h with h | ⟨g, rfl, hg, hr⟩
  · exact .inl h
  · exact .inr ⟨g, rfl, Nat.lt_of_lt_of_le hg hb.size, fun i hi => range_old (hr i hi) hg hb⟩
theorem PtL.own {w : World} {B : Nat} {v : Value} {L : List Pt} (h : w.ownsRow B 32 2 v L.length (L.flatMap ptC)) : PtL w v L := by
  rcases own_form h with ⟨A, c, rfl, h0⟩ | ⟨g, cap, rfl, h0⟩
  · exact ⟨A, c, rfl, .inl (List.eq_nil_of_length_eq_zero h0)⟩
  · refine ⟨_, cap, rfl, .inr ⟨g, rfl, own_lt h, fun i hi j v hj => ?_⟩⟩
    rcases h.2 with ⟨h1, _⟩ | ⟨g', cap', cur, h1, hbase, hb, c1, c2, c3, c4⟩
    · cases h1
    · cases h1
      have hj3 : j < 2 := by
        have := (List.getElem?_eq_some_iff.1 hj).1; rw [ptC_len] at this; exact this
      have h5 : (i + 1) * 2 ≤ L.length * 2 := Nat.mul_le_mul_right 2 hi
      have e1 : (cur.toList.take (L.length * 2))[i * 2 + j]? = some v := by
        rw [c4, flat_at ptC 2 ptC_len L i j hi hj3]; exact hj
      rw [List.getElem?_take_of_lt (by omega), Array.getElem?_toList] at e1
      have hlt : i * 2 + j < cur.size := (Array.getElem?_eq_some_iff.1 e1).1
      rw [cell_of_row w g (i * 2 + j) cur 32 (0, 0) hb, e1]

theorem append_pt (w : World) (B ty : Nat) (v : Value) (out : List Pt) (m : Pt) (X c : Nat) (hown : w.ownsRow B 32 2 v out.length (out.flatMap ptC)) (hx : w.rangeAt X 0 (ptC m)) (hl : out.length ≤ 1000000000) (hB : B ≤ w.heap.size) :
    ∃ v' w', (Builtin.append_ #[69, 69] ty #[v, .slice (some ⟨X, 0, none⟩) 1 c]).run Try.prog w = .ok v' w' ∧ w'.ownsRow B 32 2 v' (out ++ [m]).length ((out ++ [m]).flatMap ptC) ∧ w.grownBy w' v.ownBlock ∧ (v'.ownBlock = v.ownBlock ∨ v'.ownBlock = some w.heap.size) := by
  obtain ⟨i, hi, hz, h1, h2⟩ := info_parts inf32
  obtain ⟨v', w', hrun, r1, r2, _, r4⟩ := run_append_own_at (P := Try.prog) w B 69 ty 32 i _ 2 16 Try.underlying69 hi hz h1 h2 rfl (by decide) v out.length (out.flatMap ptC) hown ⟨X, 0, none⟩ 1 c (ptC m) rfl
    (fun j x hj => by
      have e : (⟨X, 0, none⟩ : Addr).add j = ⟨X, 0 + j, none⟩ := by (simp [Addr.add]; intro e; exact e.symm)
      rw [e]; exact hx j x hj) (ptC_one m) (by unfold maxLen; omega) (by omega) hB
  refine ⟨v', w', hrun, ?_, r2, r4⟩
  rw [List.length_append, List.flatMap_append, List.flatMap_singleton]
  exact r1
theorem wpList_append_pt (w : World) {ops : Array Oper} {rest : List Oper} {o : Oper} {a : Act} {Q : Exit → Act → World → Prop} (hg : o.guard = none) (s x : Operand)
    (ho : o.op = Op.call { callee := Callee.builtin Builtin.append, args := #[s, x], argTypes := #[69, 69] }) (B : Nat) (v : Value) (out : List Pt) (m : Pt) (X c : Nat) (hs : a.eval s = v) (hx : a.eval x = .slice (some ⟨X, 0, none⟩) 1 c)
    (hown : w.ownsRow B 32 2 v out.length (out.flatMap ptC)) (hu : w.rangeAt X 0 (ptC m)) (hl : out.length ≤ 1000000000) (hbase : B ≤ w.heap.size)
    (h : ∀ v' w', w'.ownsRow B 32 2 v' (out ++ [m]).length ((out ++ [m]).flatMap ptC) → w.grownBy w' v.ownBlock → (v'.ownBlock = v.ownBlock ∨ v'.ownBlock = some w.heap.size) → wpList Try.prog ops Q rest (a.put o.dst v') w') : wpList Try.prog ops Q (o :: rest) a w := by
  refine wpList_plain hg fun K hK => ?_
  obtain ⟨v', w', hrun, r1, r2, r3⟩ := append_pt w B o.type v out m X c hown hu hl hbase
  unfold Oper.wp
  simp [execOp, ho, resolve, invoke, builtin, hs, hx, hrun, Result.andThen]
  exact hK _ _ (h v' w' r1 r2 r3)
theorem pt_range (w : World) (m : Pt) : (w.alloc (.cells (ptC m).toArray 32)).rangeAt w.heap.size 0 (ptC m) := fun j v hj => by
  have := (blk_new w (ptC m) 32).c (0 + j) (by rw [Nat.zero_add]; exact hj)
  exact this

end Go.Proofs.Ytdpbihbcggpobaa
