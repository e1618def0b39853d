/- The walk of the library's DeleteFunc at items. -/
import Derived.Test.YtdpbihbcggpobaaT6
namespace Go.Proofs.Ytdpbihbcggpobaa
open Go.RowKit

theorem elem44 : Try.prog.underlying 44 = some (.slice (Try.prog.elem 44)) := by kernel_rfl
theorem size44 (W : World) : (sizeOf (Try.prog.elem 44)).run Try.prog W = .ok 9 W := by kernel_rfl

theorem zeros_list (n : Nat) : (Builtin.zeroCells (Value.agg #[.int .i64 0, .int .i64 0, .int .i64 0, .int .i64 0, .int .i64 0, .int .i64 0, .int .i64 0, .int .i64 0, .int .i64 0]).cells n).toList = List.replicate (n * 9) (.int .i64 0) := by
  unfold Builtin.zeroCells
  apply List.ext_getElem
  · simp [Value.cells]
  · intro i h1 h2
    have : i % 9 < 9 := Nat.mod_lt _ (by decide)
    have h9 : i % 9 = 0 ∨ i % 9 = 1 ∨ i % 9 = 2 ∨ i % 9 = 3 ∨ i % 9 = 4 ∨ i % 9 = 5 ∨ i % 9 = 6 ∨ i % 9 = 7 ∨ i % 9 = 8 := by omega
    simp [Value.cells]
    rcases h9 with h | h | h | h | h | h | h | h | h <;> simp [h]

theorem run_clear_items (w : World) (ty g o n c : Nat) (hn : 0 < n) (ht : w.there g o (n * 9)) :
    (Builtin.clear_ #[44] ty #[.slice (some ⟨g, o, none⟩) n c]).run Try.prog w = .ok (.tuple #[]) (w.setCells g o (List.replicate (n * 9) (.int .i64 0))) := by
  have hst := run_storeCells_cells (P := Try.prog) g o (List.replicate (n * 9) (.int .i64 0)) 0 w (by simpa using fun j hj => (ht j hj).1) (by simpa using fun j hj => (ht j hj).2) (by intro v hv'; rw [List.eq_of_mem_replicate hv']; rfl)
  simp only [Nat.add_zero] at hst
  obtain ⟨m, rfl⟩ : ∃ m, n = m + 1 := ⟨n - 1, by omega⟩
  have hz := zeros_list (m + 1)
  simp [Builtin.clear_, run_underlying Try.underlying44, Try.zeroValue49, hz, hst]

def DelPost (w : World) (base : Nat) (v : Value) (K : List It) (e : Ending) (w' : World) : Prop :=
  ∃ v', e = .returned v' ∧ w'.ownsRow base 49 9 v' K.length (K.flatMap itCells) ∧ w.grownBy w' v.ownBlock ∧ v'.ownBlock = v.ownBlock

theorem below_grown {w w' : World} (h : Below w.heap.size w w') (row : Option Nat) : w.grownBy w' row := ⟨h.os, h.tape, h.output, h.size, fun i hi _ => h.block i hi⟩

/-- A row of items that the call owns, as its block. -/
theorem own_row {w : World} {base g cap : Nat} {l : List It} (h : w.ownsRow base 49 9 (.slice (some ⟨g, 0, none⟩) l.length cap) l.length (l.flatMap itCells)) :
    ∃ rest, RowIs w g l rest ∧ base ≤ g ∧ l.length ≤ cap ∧ cap ≤ maxLen ∧ (l.length * 9 + rest.length = cap * 9) := by
  rcases h.2 with ⟨h1, _⟩ | ⟨g', cap', cur, h1, hbase, hb, c1, c2, c3, c4⟩
  · cases h1
  · cases h1
    refine ⟨cur.toList.drop (l.length * 9), ?_, hbase, c1, c2, ?_⟩
    · unfold RowIs Blk
      rw [← c4, List.take_append_drop, Array.toArray_toList]
      exact hb
    · have e : (cur.toList.drop (l.length * 9)).length = cur.size - l.length * 9 := by simp
      rw [e, c3]
      have : l.length * 9 ≤ cap * 9 := Nat.mul_le_mul_right 9 c1
      omega
theorem row_own {w : World} {base g cap : Nat} {K : List It} {rest : List Value} (h : Blk w g (K.flatMap itCells ++ rest) 49) (hb : base ≤ g) (h1 : K.length ≤ cap) (h2 : cap ≤ maxLen) (h3 : K.length * 9 + rest.length = cap * 9) :
    w.ownsRow base 49 9 (.slice (some ⟨g, 0, none⟩) K.length cap) K.length (K.flatMap itCells) := by
  have hl := flat_length itCells 9 itCells_len K
  refine ⟨hl, .inr ⟨g, cap, _, rfl, hb, h, h1, h2, ?_, ?_⟩⟩
  · rw [List.size_toArray, List.length_append, hl]; omega
  · rw [← hl]
    exact List.take_left

structure DelR (w : World) (g : Nat) (act : List It) (a : It) (rest : List Value) (jn : Nat) (K L : List It) (wr : World) : Prop where
  k : K = (act.take jn).filter (keeps a)
  lt : K.length < jn
  len : L.length = act.length
  tk : L.take K.length = K
  dr : L.drop jn = act.drop jn
  row : RowIs wr g L rest
  gr : w.grownBy wr (some g)

theorem drop_get {L M : List It} {j : Nat} (h : L.drop j = M.drop j) (hL : j < L.length) (hM : j < M.length) : L[j] = M[j] ∧ L.drop (j + 1) = M.drop (j + 1) := by
  rw [← List.getElem_cons_drop hL, ← List.getElem_cons_drop hM] at h
  exact ⟨(List.cons.inj h).1, (List.cons.inj h).2⟩
theorem filt_step {act : List It} {a : It} {j : Nat} (hj : j < act.length) : (act.take (j + 1)).filter (keeps a) = (act.take j).filter (keeps a) ++ (if keeps a act[j] = true then [act[j]] else []) := by
  rw [List.take_add_one, List.getElem?_eq_getElem hj, List.filter_append]
  by_cases h : keeps a act[j] = true <;> simp [h]

theorem take_set_app {v : It} : ∀ (K L : List It), L.take K.length = K → K.length < L.length → (L.set K.length v).take (K ++ [v]).length = K ++ [v]
  | [], [], _, h => by simp at h
  | [], x :: L, _, _ => by simp
  | k :: K, [], _, h => by simp at h
  | k :: K, x :: L, h, h2 => by
    simp only [List.length_cons, List.take_succ_cons, List.cons.injEq] at h
    have ih := take_set_app (v := v) K L h.2 (by simpa using h2)
    simp only [List.length_cons, List.set_cons_succ, List.cons_append, List.take_succ_cons]
    rw [ih, h.1]

theorem DelR.keep {w wr w3 : World} {g : Nat} {act : List It} {a : It} {rest : List Value} {jn : Nat} {K L : List It} (h : DelR w g act a rest jn K L wr) (hj : jn < act.length) (hk : keeps a act[jn] = true) (hb : Below wr.heap.size wr w3) :
    DelR w g act a rest (jn + 1) (K ++ [act[jn]]) (L.set K.length act[jn]) (w3.setCells g (K.length * 9) (itCells act[jn])) := by
  have hL : jn < L.length := by rw [h.len]; exact hj
  have hKL : K.length < L.length := Nat.lt_trans h.lt hL
  obtain ⟨d1, d2⟩ := drop_get h.dr hL hj
  have hr := (h.row.below hb).set hKL act[jn]
  have hg := h.gr
  have hk2 : K ++ [act[jn]] = (act.take (jn + 1)).filter (keeps a) := by rw [filt_step hj, if_pos hk, ← h.k]
  refine ⟨hk2, by simp; exact h.lt, by simpa using h.len, take_set_app K L h.tk hKL, ?_, hr, ?_⟩
  · rw [List.drop_set_of_lt (by have := h.lt; omega)]; exact d2
  · have h1 := setCells_grown g (itCells act[jn]) (K.length * 9) w3
    exact ⟨h1.os.trans (hb.os.trans hg.os), h1.tape.trans (hb.tape.trans hg.tape), h1.output.trans (hb.output.trans hg.output), Nat.le_trans hg.size (Nat.le_trans hb.size h1.size), fun i hi hn => (h1.block i (Nat.lt_of_lt_of_le hi (Nat.le_trans hg.size hb.size)) hn).trans ((hb.block i (Nat.lt_of_lt_of_le hi hg.size)).trans (hg.block i hi hn))⟩
theorem DelR.del {w wr w3 : World} {g : Nat} {act : List It} {a : It} {rest : List Value} {jn : Nat} {K L : List It} (h : DelR w g act a rest jn K L wr) (hj : jn < act.length) (hk : keeps a act[jn] = false) (hb : Below wr.heap.size wr w3) :
    DelR w g act a rest (jn + 1) K L w3 := by
  have hL : jn < L.length := by rw [h.len]; exact hj
  obtain ⟨d1, d2⟩ := drop_get h.dr hL hj
  have hg := h.gr
  exact ⟨by rw [filt_step hj, if_neg (by rw [hk]; simp), List.append_nil]; exact h.k, Nat.lt_succ_of_lt h.lt, h.len, h.tk, d2, h.row.below hb, ⟨hb.os.trans hg.os, hb.tape.trans hg.tape, hb.output.trans hg.output, Nat.le_trans hg.size hb.size, fun i hi hn => (hb.block i (Nat.lt_of_lt_of_le hi hg.size)).trans (hg.block i hi hn)⟩⟩

/-- What stands behind the loop, when the tail is cleared. -/
theorem DelR.done {w wr : World} {g base cap : Nat} {act : List It} {a : It} {rest : List Value} {K L : List It} (h : DelR w g act a rest act.length K L wr) (hb : base ≤ g) (h1 : act.length ≤ cap) (h2 : cap ≤ maxLen) (h3 : act.length * 9 + rest.length = cap * 9) :
    (wr.setCells g (K.length * 9) (List.replicate ((act.length - K.length) * 9) (.int .i64 0))).ownsRow base 49 9 (.slice (some ⟨g, 0, none⟩) K.length cap) K.length (K.flatMap itCells) ∧
    w.grownBy (wr.setCells g (K.length * 9) (List.replicate ((act.length - K.length) * 9) (.int .i64 0))) (some g) := by
  have hlt := h.lt
  have hKL : K.length ≤ L.length := by rw [h.len]; exact Nat.le_of_lt h.lt
  have e : L = K ++ L.drop K.length := by
    conv => lhs; rw [← List.take_append_drop K.length L, h.tk]
  have hrow : Blk wr g (K.flatMap itCells ++ (L.drop K.length).flatMap itCells ++ rest) 49 := by
    have := h.row
    unfold RowIs at this
    rw [e, List.flatMap_append] at this
    exact this
  have hm : ((L.drop K.length).flatMap itCells).length = (List.replicate ((act.length - K.length) * 9) (Value.int .i64 0)).length := by
    rw [flat_length itCells 9 itCells_len, List.length_drop, h.len, List.length_replicate]
  have hs := blk_splice _ (K.flatMap itCells) ((L.drop K.length).flatMap itCells) rest wr hm hrow
  rw [flat_length itCells 9 itCells_len] at hs
  rw [List.append_assoc] at hs
  refine ⟨row_own hs hb (by omega) h2 ?_, ?_⟩
  · rw [List.length_append, List.length_replicate]; omega
  · have h1 := setCells_grown g (List.replicate ((act.length - K.length) * 9) (Value.int .i64 0)) (K.length * 9) wr
    have hg := h.gr
    exact ⟨h1.os.trans hg.os, h1.tape.trans hg.tape, h1.output.trans hg.output, Nat.le_trans hg.size h1.size, fun i hi hn => (h1.block i (Nat.lt_of_lt_of_le hi hg.size) hn).trans (hg.block i hi hn)⟩
theorem DelR.tail {w wr : World} {g : Nat} {act : List It} {a : It} {rest : List Value} {K L : List It} (h : DelR w g act a rest act.length K L wr) : wr.there g (K.length * 9) ((act.length - K.length) * 9) := by
  intro j hj
  have hlt := h.lt
  have hlen : K.length * 9 + j < (L.flatMap itCells ++ rest).length := by
    rw [List.length_append, flat_length itCells 9 itCells_len, h.len]; omega
  exact ⟨by rw [Blk.c h.row _ (List.getElem?_eq_getElem hlen)]; rfl, Blk.f h.row _⟩

end Go.Proofs.Ytdpbihbcggpobaa
