/- All's pieces: the rows of items and of meetings, their appends, what stands between the rounds. -/
import Derived.Test.YtdpbihbcggpobaaT8
import Derived.Test.YtdpbihbcggpobaaG9
import Derived.OwnWalk
import Derived.Maps.AppendAt
namespace Go.Proofs.Ytdpbihbcggpobaa
open Go.RowKit Go.Maps

theorem inf49 : (Try.prog.info? 49).map (fun i => (i.zero, i.size, i.bytes)) = some (some (.agg #[.int .i64 0, .int .i64 0, .int .i64 0, .int .i64 0, .int .i64 0, .int .i64 0, .int .i64 0, .int .i64 0, .int .i64 0]), 9, 72) := by kernel_rfl
theorem inf36 : (Try.prog.info? 36).map (fun i => (i.zero, i.size, i.bytes)) = some (some (.agg #[.int .i64 0, .int .i64 0, .int .i64 0]), 3, 24) := by kernel_rfl
theorem info34 : (Try.prog.info? 34).map (·.size) = some 4 := by kernel_rfl

/-- The row that 'make' makes. -/
def zIt : It := ⟨0, ((0, 0), (0, 0))⟩
theorem zIt_cells : itCells zIt = List.replicate 9 (.int .i64 0) := rfl
theorem made_zero (n : Nat) : (madeCells (Value.agg #[.int .i64 0, .int .i64 0, .int .i64 0, .int .i64 0, .int .i64 0, .int .i64 0, .int .i64 0, .int .i64 0, .int .i64 0]).cells (n * 9)).toList = (List.replicate n zIt).flatMap itCells := by
  have h2 : (List.replicate n zIt).flatMap itCells = List.replicate (n * 9) (.int .i64 0) := by
    induction n with
    | zero => rfl
    | succ n ih => rw [List.replicate_succ, List.flatMap_cons, ih, zIt_cells, List.replicate_append_replicate]; congr 1; omega
  rw [h2]
  unfold madeCells
  apply List.ext_getElem
  · simp [Value.cells]
  · intro i h1 h2
    have : i % 9 < 9 := Nat.mod_lt _ (by decide)
    have h9 : i % 9 = 0 ∨ i % 9 = 1 ∨ i % 9 = 2 ∨ i % 9 = 3 ∨ i % 9 = 4 ∨ i % 9 = 5 ∨ i % 9 = 6 ∨ i % 9 = 7 ∨ i % 9 = 8 := by omega
    simp [Value.cells]
    rcases h9 with h | h | h | h | h | h | h | h | h <;> simp [h]
theorem make_row (w : World) (n : Nat) (hn : n ≤ 1000000) : ∃ w', (Instr.makeSlice 44 (.int .i64 n) (.int .i64 n)).run Try.prog w = .ok (.slice (some ⟨w.heap.size, 0, none⟩) n n) w' ∧
    w'.ownsRow w.heap.size 49 9 (.slice (some ⟨w.heap.size, 0, none⟩) n n) n ((List.replicate n zIt).flatMap itCells) ∧ w.grownBy w' none := by
  obtain ⟨i, hi, hz, h1, h2⟩ := info_parts inf49
  have h := run_make_full (P := Try.prog) w w.heap.size 44 49 i _ 9 Try.underlying44 hi hz h1 .i64 .i64 n (by rw [h2]; omega) (by unfold maxLen; omega) (Nat.le_refl _)
  obtain ⟨w', r1, r2, r3⟩ := h
  exact ⟨w', r1, by rw [← made_zero]; exact r2, r3⟩

/-- The given segments. -/
def SegsAt (w : World) (v : Value) (l : List Sg) : Prop :=
  ∃ p c, v = .slice p l.length c ∧ (l = [] ∨ ∃ g o, p = some ⟨g, o, none⟩ ∧ g < w.heap.size ∧ ∀ i (h : i < l.length), w.rangeAt g (o + i * 4) (sgCells l[i]))
theorem range_old {w w' : World} {g o : Nat} {cs : List Value} (h : w.rangeAt g o cs) (hg : g < w.heap.size) (hb : Below w.heap.size w w') : w'.rangeAt g o cs := fun j v hv =>
  (hb.cell (p := ⟨g, o + j, none⟩) hg).trans (h j v hv)

/-- An append of one element. -/
theorem append_it (w : World) (B ty : Nat) (v : Value) (act : List It) (a : It) (X c : Nat) (hown : w.ownsRow B 49 9 v act.length (act.flatMap itCells)) (hx : w.rangeAt X 0 (itCells a)) (hl : act.length ≤ 1000000) (hB : B ≤ w.heap.size) :
    ∃ v' w', (Builtin.append_ #[44, 44] ty #[v, .slice (some ⟨X, 0, none⟩) 1 c]).run Try.prog w = .ok v' w' ∧ w'.ownsRow B 49 9 v' (act ++ [a]).length ((act ++ [a]).flatMap itCells) ∧ w.grownBy w' v.ownBlock ∧ (v'.ownBlock = v.ownBlock ∨ v'.ownBlock = some w.heap.size) := by
  obtain ⟨i, hi, hz, h1, h2⟩ := info_parts inf49
  obtain ⟨v', w', hrun, r1, r2, _, r4⟩ := run_append_own_at (P := Try.prog) w B 44 ty 49 i _ 9 72 Try.underlying44 hi hz h1 h2 rfl (by decide) v act.length (act.flatMap itCells) hown ⟨X, 0, none⟩ 1 c (itCells a) rfl
    (fun j x hj => by
      have e : (⟨X, 0, none⟩ : Addr).add j = ⟨X, 0 + j, none⟩ := by (simp [Addr.add]; intro e; exact e.symm)
      rw [e]; exact hx j x hj) (itCells_one a) (by unfold maxLen; omega) (by omega) hB
  refine ⟨v', w', hrun, ?_, r2, r4⟩
  rw [List.length_append, List.flatMap_append, List.flatMap_singleton]
  exact r1
theorem append_mt (w : World) (B ty : Nat) (v : Value) (out : List Mt) (m : Mt) (X c : Nat) (hown : w.ownsRow B 36 3 v out.length (out.flatMap mtCells)) (hx : w.rangeAt X 0 (mtCells m)) (hl : out.length ≤ 1000000000) (hB : B ≤ w.heap.size) :
    ∃ v' w', (Builtin.append_ #[24, 24] ty #[v, .slice (some ⟨X, 0, none⟩) 1 c]).run Try.prog w = .ok v' w' ∧ w'.ownsRow B 36 3 v' (out ++ [m]).length ((out ++ [m]).flatMap mtCells) ∧ w.grownBy w' v.ownBlock ∧ (v'.ownBlock = v.ownBlock ∨ v'.ownBlock = some w.heap.size) := by
  obtain ⟨i, hi, hz, h1, h2⟩ := info_parts inf36
  obtain ⟨v', w', hrun, r1, r2, _, r4⟩ := run_append_own_at (P := Try.prog) w B 24 ty 36 i _ 3 24 Try.underlying24 hi hz h1 h2 rfl (by decide) v out.length (out.flatMap mtCells) hown ⟨X, 0, none⟩ 1 c (mtCells m) rfl
    (fun j x hj => by
      have e : (⟨X, 0, none⟩ : Addr).add j = ⟨X, 0 + j, none⟩ := by (simp [Addr.add]; intro e; exact e.symm)
      rw [e]; exact hx j x hj) (mtCells_one m) (by unfold maxLen; omega) (by omega) hB
  refine ⟨v', w', hrun, ?_, r2, r4⟩
  rw [List.length_append, List.flatMap_append, List.flatMap_singleton]
  exact r1

/-- What stands between the rounds: the items, those that are active, the meetings found. -/
structure St (w : World) (its : List It) (G : Nat) (va vo : Value) (act : List It) (out : List Mt) (wr : World) : Prop where
  ii : RowIs wr G its []
  ia : wr.ownsRow w.heap.size 49 9 va act.length (act.flatMap itCells)
  io : wr.ownsRow w.heap.size 36 3 vo out.length (out.flatMap mtCells)
  ab : va.ownBlock ≠ some G
  ob : vo.ownBlock ≠ some G
  ao : va.ownBlock = none ∨ va.ownBlock ≠ vo.ownBlock
  bl : Below w.heap.size w wr
  oB : ∀ b, vo.ownBlock = some b → w.heap.size ≤ b ∧ b < wr.heap.size
  aB : ∀ b, va.ownBlock = some b → w.heap.size ≤ b ∧ b < wr.heap.size
  gB : w.heap.size ≤ G ∧ G < wr.heap.size

theorem own_at {w : World} {base e size : Nat} {v : Value} {n : Nat} {xs : List Value} (h : w.ownsRow base e size v n xs) : ∀ b, v.ownBlock = some b → base ≤ b ∧ b < w.heap.size := by
  intro b hb
  rcases h.2 with ⟨rfl, _⟩ | ⟨g, cap, cur, rfl, h2, h3, _⟩
  · cases hb
  · cases hb; exact ⟨h2, (Array.getElem?_eq_some_iff.1 h3).1⟩
theorem blk_grown {w w' : World} {g : Nat} {cs : List Value} {t : TypeId} {row : Option Nat} (h : Blk w g cs t) (hg : w.grownBy w' row) (hn : row ≠ some g) : Blk w' g cs t := by
  unfold Blk
  rw [hg.block g h.lt (fun e => hn e.symm)]
  exact h
theorem below_grownB {w wr w' : World} {row : Option Nat} (h : Below w.heap.size w wr) (hg : wr.grownBy w' row) (hr : ∀ b, row = some b → w.heap.size ≤ b) : Below w.heap.size w w' :=
  h.grown hg h.size hr

theorem St.below {w wr w' : World} {its : List It} {G : Nat} {va vo : Value} {act : List It} {out : List Mt} (h : St w its G va vo act out wr) (hb : Below wr.heap.size wr w') : St w its G va vo act out w' :=
  ⟨h.ii.below hb, hv_below h.ia hb, hv_below h.io hb, h.ab, h.ob, h.ao, h.bl.trans (hb.mono h.bl.size), fun b e => ⟨(h.oB b e).1, Nat.lt_of_lt_of_le (h.oB b e).2 hb.size⟩, fun b e => ⟨(h.aB b e).1, Nat.lt_of_lt_of_le (h.aB b e).2 hb.size⟩, ⟨h.gB.1, Nat.lt_of_lt_of_le h.gB.2 hb.size⟩⟩
theorem St.act {w wr w' : World} {its : List It} {G : Nat} {va vo v' : Value} {act act' : List It} {out : List Mt} (h : St w its G va vo act out wr) (hown : w'.ownsRow w.heap.size 49 9 v' act'.length (act'.flatMap itCells)) (hg : wr.grownBy w' va.ownBlock) (he : v'.ownBlock = va.ownBlock ∨ v'.ownBlock = some wr.heap.size) : St w its G v' vo act' out w' := by
  have hao : vo.ownBlock = none ∨ vo.ownBlock ≠ va.ownBlock := by
    rcases h.ao with e | e
    · by_cases hn : vo.ownBlock = none
      · exact .inl hn
      · exact .inr (by rw [e]; exact hn)
    · exact .inr (fun k => e k.symm)
  refine ⟨blk_grown h.ii hg h.ab, hown, h.io.kept hg hao, ?_, h.ob, ?_, below_grownB h.bl hg (fun b e => (h.aB b e).1), fun b e => ⟨(h.oB b e).1, Nat.lt_of_lt_of_le (h.oB b e).2 hg.size⟩, own_at hown, ⟨h.gB.1, Nat.lt_of_lt_of_le h.gB.2 hg.size⟩⟩
  · rcases he with e | e
    · rw [e]; exact h.ab
    · rw [e]; intro k; have := h.gB.2; have := Option.some.inj k; omega
  · rcases he with e | e
    · rw [e]; exact h.ao
    · refine .inr fun k => ?_
      rw [e] at k
      have := (h.oB _ k.symm).2
      omega
theorem St.out {w wr w' : World} {its : List It} {G : Nat} {va vo v' : Value} {act : List It} {out out' : List Mt} (h : St w its G va vo act out wr) (hown : w'.ownsRow w.heap.size 36 3 v' out'.length (out'.flatMap mtCells)) (hg : wr.grownBy w' vo.ownBlock) (he : v'.ownBlock = vo.ownBlock ∨ v'.ownBlock = some wr.heap.size) : St w its G va v' act out' w' := by
  refine ⟨blk_grown h.ii hg h.ob, h.ia.kept hg h.ao, hown, h.ab, ?_, ?_, below_grownB h.bl hg (fun b e => (h.oB b e).1), own_at hown, fun b e => ⟨(h.aB b e).1, Nat.lt_of_lt_of_le (h.aB b e).2 hg.size⟩, ⟨h.gB.1, Nat.lt_of_lt_of_le h.gB.2 hg.size⟩⟩
  · rcases he with e | e
    · rw [e]; exact h.ob
    · rw [e]; intro k; have := h.gB.2; have := Option.some.inj k; omega
  · rcases he with e | e
    · rw [e]; exact h.ao
    · by_cases hn : va.ownBlock = none
      · exact .inl hn
      · refine .inr fun k => ?_
        rw [e] at k
        have := (h.aB _ k).2
        omega

/-- An item of its own beside them: the round's variable. -/
structure Own1 (wr : World) (A : Nat) (a : It) (va vo : Value) : Prop where
  b : Blk wr A (itCells a) 49
  na : va.ownBlock ≠ some A
  no : vo.ownBlock ≠ some A
theorem Own1.below {wr w' : World} {A : Nat} {a : It} {va vo : Value} (h : Own1 wr A a va vo) (hb : Below wr.heap.size wr w') : Own1 w' A a va vo := ⟨Blk.below h.b hb, h.na, h.no⟩
theorem Own1.act {wr w' : World} {A : Nat} {a : It} {va vo v' : Value} (h : Own1 wr A a va vo) (hg : wr.grownBy w' va.ownBlock) (he : v'.ownBlock = va.ownBlock ∨ v'.ownBlock = some wr.heap.size) : Own1 w' A a v' vo := by
  refine ⟨blk_grown h.b hg h.na, ?_, h.no⟩
  rcases he with e | e
  · rw [e]; exact h.na
  · rw [e]; intro k; have := h.b.lt; have := Option.some.inj k; omega
theorem Own1.out {wr w' : World} {A : Nat} {a : It} {va vo v' : Value} (h : Own1 wr A a va vo) (hg : wr.grownBy w' vo.ownBlock) (he : v'.ownBlock = vo.ownBlock ∨ v'.ownBlock = some wr.heap.size) : Own1 w' A a va v' := by
  refine ⟨blk_grown h.b hg h.no, h.na, ?_⟩
  rcases he with e | e
  · rw [e]; exact h.no
  · rw [e]; intro k; have := h.b.lt; have := Option.some.inj k; omega
theorem Own1.new {w wr : World} {its : List It} {G : Nat} {va vo : Value} {act : List It} {out : List Mt} (h : St w its G va vo act out wr) (a : It) : Own1 (wr.alloc (.cells (itCells a).toArray 49)) wr.heap.size a va vo :=
  ⟨blk_new _ _ _, fun e => by have := (h.aB _ e).2; omega, fun e => by have := (h.oB _ e).2; omega⟩

theorem row_range {w : World} {B : Nat} {v : Value} {l : List It} (h : w.ownsRow B 49 9 v l.length (l.flatMap itCells)) {k : Nat} (hk : k < l.length) : ∃ g cap, v = .slice (some ⟨g, 0, none⟩) l.length cap ∧ w.rangeAt g (k * 9) (itCells l[k]) := by
  rcases own_form h with ⟨A, c, rfl, h0⟩ | ⟨g, cap, rfl, h0⟩
  · omega
  · obtain ⟨rest, hr, _⟩ := own_row h
    exact ⟨g, cap, rfl, hr.range hk⟩

end Go.Proofs.Ytdpbihbcggpobaa
