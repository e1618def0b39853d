/- The walk of the reference's Meets. -/
import Derived.Test.YtdpbihbcggpobaaN3
namespace Go.Proofs.Ytdpbihbcggpobaa
open Go.RowKit Go.Maps

theorem ss_new (w : World) (s t : Sg) : SS w ((w.alloc (.cells #[.int .i64 s.1.1, .int .i64 s.1.2, .int .i64 s.2.1, .int .i64 s.2.2] 34)).alloc (.cells #[.int .i64 t.1.1, .int .i64 t.1.2, .int .i64 t.2.1, .int .i64 t.2.2] 34)) w.heap.size s t := by
  have k1 := blk_new w [.int .i64 s.1.1, .int .i64 s.1.2, .int .i64 s.2.1, .int .i64 s.2.2] 34
  have b1 := below_new w (.cells #[.int .i64 s.1.1, .int .i64 s.1.2, .int .i64 s.2.1, .int .i64 s.2.2] 34)
  have z1 := size_new w (.cells #[.int .i64 s.1.1, .int .i64 s.1.2, .int .i64 s.2.1, .int .i64 s.2.2] 34)
  have k2 := blk_new (w.alloc (.cells #[.int .i64 s.1.1, .int .i64 s.1.2, .int .i64 s.2.1, .int .i64 s.2.2] 34)) [.int .i64 t.1.1, .int .i64 t.1.2, .int .i64 t.2.1, .int .i64 t.2.2] 34
  have b2 := below_new (w.alloc (.cells #[.int .i64 s.1.1, .int .i64 s.1.2, .int .i64 s.2.1, .int .i64 s.2.2] 34)) (.cells #[.int .i64 t.1.1, .int .i64 t.1.2, .int .i64 t.2.1, .int .i64 t.2.2] 34)
  exact ⟨k1.below b2, blk_at k2 z1, b1.trans (b2.mono b1.size), rfl⟩

theorem PtL.lit (w : World) (L : List Pt) (_ : 0 < L.length) : PtL (w.alloc (.cells (L.flatMap ptC).toArray 32)) (.slice (some ⟨w.heap.size, 0, none⟩) L.length L.length) L := by
  refine ⟨_, L.length, rfl, .inr ⟨w.heap.size, rfl, by simp, fun i hi j v hj => ?_⟩⟩
  have hj3 : j < 2 := by
    have := (List.getElem?_eq_some_iff.1 hj).1; rw [ptC_len] at this; exact this
  refine (blk_new w (L.flatMap ptC) 32).c (i * 2 + j) ?_
  rw [flat_at ptC 2 ptC_len L i j hi hj3]; exact hj

set_option maxHeartbeats 8000000 in
set_option maxRecDepth 100000 in
/-- One of them is not near. -/
theorem rmeets_far (s t : Sg) (w : World) (h : (nearS s && nearS t) = false) : Calls Try.prog 28 #[sg s, sg t] w (IntB 0 w) := by
  have hn := ss_new w s t
  have hs := seg_any s
  have ht := seg_any t
  obtain ⟨⟨sax, say⟩, ⟨sbx, sby⟩⟩ := s
  obtain ⟨⟨tax, tay⟩, ⟨tbx, tby⟩⟩ := t
  unfold sg BoolB at *
  dsimp only at *
  have HN := Lib.hid hn
  have HS := Lib.hid hs
  have HT := Lib.hid ht
  clear hn hs ht
  cases q1 : nearS ((sax, say), (sbx, sby)) with
  | false =>
    rw [q1] at HS
    clear h
    go_enter Try.func28, Try.ntmps28
    go_upto_region 1 with fail
    have h2 := HN.out
    generalize World.alloc (World.alloc w _) _ = w2 at *
    have c0 := h2.s.c 0 rfl; have c1 := h2.s.c 1 rfl; have c2 := h2.s.c 2 rfl; have c3 := h2.s.c 3 rfl
    have H2 := Lib.hid h2
    clear h2
    go_wp2_with (first
      | (go_at_call 16; (with_reducible refine (HS.out _).mono ?_); rintro en w4 ⟨rfl, hb⟩; have H4 := Lib.hid (H2.out.below hb); clear hb))
    go_ret
    exact ⟨rfl, H4.out.b⟩
  | true =>
    rw [q1, Bool.true_and] at h
    rw [q1] at HS
    rw [h] at HT
    clear h
    go_enter Try.func28, Try.ntmps28
    go_upto_region 1 with fail
    have h2 := HN.out
    generalize World.alloc (World.alloc w _) _ = w2 at *
    have c0 := h2.s.c 0 rfl; have c1 := h2.s.c 1 rfl; have c2 := h2.s.c 2 rfl; have c3 := h2.s.c 3 rfl
    have H2 := Lib.hid h2
    clear h2
    go_wp2_with (first
      | (go_at_call 16; (with_reducible refine (HS.out _).mono ?_); rintro en w4 ⟨rfl, hb⟩; have h4 := H2.out.below hb; have d0 := h4.t.c 0 rfl; have d1 := h4.t.c 1 rfl; have d2 := h4.t.c 2 rfl; have d3 := h4.t.c 3 rfl; have H4 := Lib.hid h4; clear hb h4)
      | (go_at_call 16; (with_reducible refine (HT.out _).mono ?_); rintro en w5 ⟨rfl, hb⟩; have h5 := H4.out.below hb; have H5 := Lib.hid h5; clear hb h5))
    go_ret
    exact ⟨rfl, H5.out.b⟩

/-- The common ends behind some rounds. -/
def comm (s t : Sg) (i : Nat) : List Pt := ((endsR s t).take i).foldl (stepR s t) []
theorem comm_zero (s t : Sg) : comm s t 0 = [] := rfl
theorem comm_four (s t : Sg) : comm s t 4 = commonR s t := rfl
theorem comm_step (s t : Sg) {i : Nat} (h : i < (endsR s t).length) : comm s t (i + 1) = stepR s t (comm s t i) (endsR s t)[i] := by
  unfold comm
  rw [List.take_add_one, List.getElem?_eq_getElem h, List.foldl_append]
  rfl
theorem comm_len (s t : Sg) (i : Nat) : (comm s t i).length ≤ i := by
  induction i with
  | zero => rw [comm_zero]; exact Nat.le_refl _
  | succ i ih =>
    by_cases h : i < (endsR s t).length
    · rw [comm_step s t h]
      unfold stepR
      split
      · rw [List.length_append]; simp; omega
      · omega
    · have : comm s t (i + 1) = comm s t i := by
        unfold comm
        rw [List.take_of_length_le (by omega), List.take_of_length_le (by omega)]
      rw [this]; omega

/-- What is known behind the two loops. -/
structure Known (w W1 wr : World) (s t : Sg) (cv : Value) (C : List Pt) : Prop where
  ss : SS w wr w.heap.size s t
  cc : PtL wr cv C

theorem four_pt {w : World} {g o g2 o2 : Nat} {p q : Pt} (hx : w.rangeAt g o (ptC p)) (hy : w.rangeAt g2 o2 (ptC q)) :
    w.cell? ⟨g, o, none⟩ = some (.int .i64 p.1) ∧ w.cell? ⟨g, o + 1, none⟩ = some (.int .i64 p.2) ∧ w.cell? ⟨g2, o2, none⟩ = some (.int .i64 q.1) ∧ w.cell? ⟨g2, o2 + 1, none⟩ = some (.int .i64 q.2) :=
  ⟨hx 0 _ rfl, hx 1 _ rfl, hy 0 _ rfl, hy 1 _ rfl⟩

set_option maxHeartbeats 16000000 in
set_option maxRecDepth 100000 in
/-- They are the same. -/
theorem rmeets_same (s t : Sg) (w : World) (ns : nearS s = true) (nt : nearS t = true) (h : s = t ∨ (s.1 = t.2 ∧ s.2 = t.1)) : Calls Try.prog 28 #[sg s, sg t] w (IntB 4 w) := by
  have heq := eql32
  have heq4 := eql34
  have hg := guard32
  have hg4 := guard34
  have hq : sgEq s.1.1 s.1.2 s.2.1 s.2.2 t.1.1 t.1.2 t.2.1 t.2.2 = true ∨ (sgEq s.1.1 s.1.2 s.2.1 s.2.2 t.1.1 t.1.2 t.2.1 t.2.2 = false ∧ ptEq s.1.1 s.1.2 t.2.1 t.2.2 = true ∧ ptEq s.2.1 s.2.2 t.1.1 t.1.2 = true) := by
    rw [sgEq_dec, ptEq_dec, ptEq_dec]
    by_cases e : s = t
    · exact .inl (decide_eq_true e)
    · rcases h with h | h
      · exact absurd h e
      · exact .inr ⟨decide_eq_false e, decide_eq_true h.1, decide_eq_true h.2⟩
  clear h
  have hn := ss_new w s t
  have hs := seg_any s
  have ht := seg_any t
  rw [ns] at hs
  rw [nt] at ht
  clear ns nt
  obtain ⟨⟨sax, say⟩, ⟨sbx, sby⟩⟩ := s
  obtain ⟨⟨tax, tay⟩, ⟨tbx, tby⟩⟩ := t
  unfold sg BoolB at *
  dsimp only at *
  have HN := Lib.hid hn
  have HS := Lib.hid hs
  have HT := Lib.hid ht
  clear hn hs ht
  rcases hq with hq | ⟨q0, q1, q2⟩
  · go_enter Try.func28, Try.ntmps28
    go_upto_region 1 with fail
    have h2 := HN.out
    generalize World.alloc (World.alloc w _) _ = w2 at *
    have c0 := h2.s.c 0 rfl; have c1 := h2.s.c 1 rfl; have c2 := h2.s.c 2 rfl; have c3 := h2.s.c 3 rfl
    have H2 := Lib.hid h2
    clear h2
    go_wp2_with (first
      | (go_at_call 16; (with_reducible refine (HS.out _).mono ?_); rintro en w4 ⟨rfl, hb⟩; have h4 := H2.out.below hb; have d0 := h4.t.c 0 rfl; have d1 := h4.t.c 1 rfl; have d2 := h4.t.c 2 rfl; have d3 := h4.t.c 3 rfl; have H4 := Lib.hid h4; clear hb h4)
      | (go_at_call 16; (with_reducible refine (HT.out _).mono ?_); rintro en w5 ⟨rfl, hb⟩; have h5 := H4.out.below hb; have e0 := h5.s.c 0 rfl; have e1 := h5.s.c 1 rfl; have e2 := h5.s.c 2 rfl; have e3 := h5.s.c 3 rfl; have f0 := h5.t.c 0 rfl; have f1 := h5.t.c 1 rfl; have f2 := h5.t.c 2 rfl; have f3 := h5.t.c 3 rfl; have H5 := Lib.hid h5; clear hb h5))
    go_ret
    exact ⟨rfl, H5.out.b⟩
  · go_enter Try.func28, Try.ntmps28
    go_upto_region 1 with fail
    have h2 := HN.out
    generalize World.alloc (World.alloc w _) _ = w2 at *
    have c0 := h2.s.c 0 rfl; have c1 := h2.s.c 1 rfl; have c2 := h2.s.c 2 rfl; have c3 := h2.s.c 3 rfl
    have H2 := Lib.hid h2
    clear h2
    go_wp2_with (first
      | (go_at_call 16; (with_reducible refine (HS.out _).mono ?_); rintro en w4 ⟨rfl, hb⟩; have h4 := H2.out.below hb; have d0 := h4.t.c 0 rfl; have d1 := h4.t.c 1 rfl; have d2 := h4.t.c 2 rfl; have d3 := h4.t.c 3 rfl; have H4 := Lib.hid h4; clear hb h4)
      | (go_at_call 16; (with_reducible refine (HT.out _).mono ?_); rintro en w5 ⟨rfl, hb⟩; have h5 := H4.out.below hb; have e0 := h5.s.c 0 rfl; have e1 := h5.s.c 1 rfl; have e2 := h5.s.c 2 rfl; have e3 := h5.s.c 3 rfl; have f0 := h5.t.c 0 rfl; have f1 := h5.t.c 1 rfl; have f2 := h5.t.c 2 rfl; have f3 := h5.t.c 3 rfl; have H5 := Lib.hid h5; clear hb h5))
    go_ret
    exact ⟨rfl, H5.out.b⟩

end Go.Proofs.Ytdpbihbcggpobaa
