/- The walk of LineageRefuses. -/
import Derived.Test.YtkbjfmlfmmmknaaL6
namespace Go.Proofs.Ytkbjfmlfmmmknaa
open Go.RowKit Go.Maps Go.WideMaps Go.ChangeMaps Go.Sort

set_option maxHeartbeats 8000000 in
set_option maxRecDepth 100000 in
theorem refuses_walk (w : World) (v : Value) (es : List EdC) (a : EdC) (id : ByteArray) (h : Eds w v es) (hao : a.ok) (hid : id.size ≤ maxLen) :
    Calls Try.prog 9 #[v, a.val, .string id] w (HeadPost w) := by
  have H := Lib.hid h
  clear h
  obtain ⟨op, aid, aother, aobj, c3, c4, c5, c6, c7, c8, c10, c11, c12, c13, c14⟩ := a
  have HOK := Lib.hid hao
  clear hao
  unfold EdC.val EdC.cells
  dsimp only
  go_enter Try.func9, Try.ntmps9
  go_wp2_with fail
  have hra := boxed_range w [.int .i64 op, .string aid, .string aother, c3, c4, c5, c6, c7, c8, .string aobj, c10, c11, c12, c13, c14] 38
  have hb0 := boxed_below w (.cells (#[.int .i64 op, .string aid, .string aother, c3, c4, c5, c6, c7, c8, .string aobj, c10, c11, c12, c13, c14]) 38)
  have hz0 := boxed_size w (.cells (#[.int .i64 op, .string aid, .string aother, c3, c4, c5, c6, c7, c8, .string aobj, c10, c11, c12, c13, c14]) 38)
  have hh := H.out.turn hb0
  refine (head_any _).mono ?_
  rintro en w1 ⟨rfl, hb1⟩
  generalize World.alloc w _ = w0 at *
  generalize hB : w.heap.size = B at *
  have hBlt : B < w0.heap.size := by omega
  have HH := Lib.hid hh
  have HW := Lib.hid (And.intro hb0 hBlt)
  have HRA := Lib.hid hra
  clear hra hb0 hz0 hh H
  go_wp2_with fail
  refine (few_any w1 v es 40 (HH.out.turn hb1) (by omega)).mono ?_
  rintro en w2 ⟨bf, rfl, hfew, rfl⟩
  have HEND : Hid (HeadPost w (.returned (.bool true)) w1) := Lib.hid ⟨rfl, hB ▸ (HW.out.1.trans (hb1.mono (Nat.le_of_lt HW.out.2)))⟩
  have HB1 := Lib.hid hb1
  clear hb1
  have HI := Lib.hid hid
  unfold maxLen at hid
  cases bf with
  | false =>
    clear hfew
    go_wp2_with fail
    go_ret
    exact HEND.out
  | true =>
    have hlen := hfew rfl
    clear hfew
    have hr1 : w1.rangeAt B 0 _ := rangeAt_turn HRA.out (HB1.out.block B HW.out.2)
    have HR1 := Lib.hid hr1
    clear hr1
    go_wp2_with ((with_reducible refine at_load38 _ rfl ?_); refine wpList_load_want rfl 38 _ rfl B 0 rfl _ _ HR1.out Try.underlying38 rfl info38 ?_)
    have hel := eds_lit w1 [⟨op, aid, aother, aobj, c3, c4, c5, c6, c7, c8, c10, c11, c12, c13, c14⟩] (by intro e he; rw [List.mem_singleton.1 he]; exact HOK.out) (show 1 ≤ maxLen by decide) [.int .i64 op, .string aid, .string aother, c3, c4, c5, c6, c7, c8, .string aobj, c10, c11, c12, c13, c14] rfl 38
    have hb2 := boxed_below w1 (.cells (#[.int .i64 op, .string aid, .string aother, c3, c4, c5, c6, c7, c8, .string aobj, c10, c11, c12, c13, c14]) 38)
    refine (few_any _ _ [⟨op, aid, aother, aobj, c3, c4, c5, c6, c7, c8, c10, c11, c12, c13, c14⟩] 1 hel (by omega)).mono ?_
    rintro en w2 ⟨bf, rfl, hfew, rfl⟩
    clear hel hfew
    generalize World.alloc w1 _ = w1' at *
    have HB1' : Hid (Below w0.heap.size w0 w1') := Lib.hid (HB1.out.trans (hb2.mono HB1.out.size))
    have HEND : Hid (HeadPost w (.returned (.bool true)) w1') := Lib.hid ⟨rfl, hB ▸ (HW.out.1.trans (HB1'.out.mono (Nat.le_of_lt HW.out.2)))⟩
    clear hb2 HB1 HR1
    cases bf with
    | false =>
      go_wp2_with fail
      go_ret
      exact HEND.out
    | true =>
      by_cases t0 : 100 < id.size
      · have b0 : decide (100 < id.size) = true := by simp; omega
        have b0' : decide ((100 : Int) < (id.size : Int)) = true := by simp; omega
        go_wp2_with fail
        go_ret
        exact HEND.out
      have b0 : decide (100 < id.size) = false := by simp; omega
      have b0' : decide ((100 : Int) < (id.size : Int)) = false := by simp; omega
      go_wp2_with fail
      clear b0 b0' t0 hid
      refine (start_followed w0 w1' HB1'.out v es HH.out (by omega)).mono ?_
      rintro en w2 ⟨x, rfl, hE⟩
      generalize runS (fun _ => none) es = st at *
      go_wp2_with fail
      refine (hE.now (by omega) id HI.out).mono ?_
      rintro en w3 ⟨v1, ks, rfl, hE, hp, hm⟩
      have HM := Lib.hid hm
      have HP := Lib.hid hp
      clear hm hp
      go_wp2_with fail
      refine (hE.then_ (by omega) id HI.out).mono ?_
      rintro en w4 ⟨v2, ls, rfl, hE, hp2, hm2⟩
      have HM2 := Lib.hid hm2
      have HP2 := Lib.hid hp2
      clear hm2 hp2
      have hr4 : w4.rangeAt B 0 _ := rangeAt_turn HRA.out (hE.old.block B HW.out.2)
      have HR4 := Lib.hid hr4
      clear hr4
      go_wp2_with ((with_reducible refine at_load38 _ rfl ?_); refine wpList_load_want rfl 38 _ rfl B 0 rfl _ _ HR4.out Try.underlying38 rfl info38 ?_)
      refine (hE.follow_at (by omega) ⟨op, aid, aother, aobj, c3, c4, c5, c6, c7, c8, c10, c11, c12, c13, c14⟩ HOK.out _ _ rfl rfl).mono ?_
      rintro en w5 ⟨rfl, hE⟩
      have hr5 : w5.rangeAt B 0 _ := rangeAt_turn HRA.out (hE.old.block B HW.out.2)
      have hc0 : w5.cell? ⟨B, 0, none⟩ = some (.int .i64 op) := hr5 0 _ rfl
      clear hr5
      have hlaw : err st (EdC.ed ⟨op, aid, aother, aobj, c3, c4, c5, c6, c7, c8, c10, c11, c12, c13, c14⟩) ≠ 0 ∨ op < 5 → ofS (step st (EdC.ed ⟨op, aid, aother, aobj, c3, c4, c5, c6, c7, c8, c10, c11, c12, c13, c14⟩)) = ofS st := fun h => refuses_law h
      by_cases he : err st (EdC.ed ⟨op, aid, aother, aobj, c3, c4, c5, c6, c7, c8, c10, c11, c12, c13, c14⟩) = 0
      · rw [he]
        by_cases h5 : 5 ≤ op
        · have d5 : decide (5 ≤ op) = true := by simpa using h5
          have HFIN : Hid (HeadPost w (.returned (.bool true)) w5) := Lib.hid ⟨rfl, hB ▸ (HW.out.1.trans (hE.old.mono (Nat.le_of_lt HW.out.2)))⟩
          clear hE
          go_wp2_with fail
          go_ret
          exact HFIN.out
        · have d5 : decide (5 ≤ op) = false := by simp; omega
          have HLAW := Lib.hid (hlaw (.inr (by omega)))
          clear hlaw
          generalize step st (EdC.ed ⟨op, aid, aother, aobj, c3, c4, c5, c6, c7, c8, c10, c11, c12, c13, c14⟩) = st' at *
          clear he h5
          go_wp2_with fail
          refine (hE.now_at (by omega) id HI.out ks HP.out (fun k => by rw [HLAW.out]; exact (HM.out k).symm)).mono ?_
          rintro en w6 ⟨v3, rfl, hE⟩
          go_wp2_with fail
          refine (hE.same_at (.head _) (.tail _ (.tail _ (.head _)))).mono ?_
          rintro en w7 ⟨rfl, hE⟩
          go_wp2_with fail
          refine (hE.then_at (by omega) id HI.out ls HP2.out (fun k => by rw [HLAW.out]; exact (HM2.out k).symm)).mono ?_
          rintro en w8 ⟨v4, rfl, hE⟩
          go_wp2_with fail
          refine (hE.same_at (.head _) (.tail _ (.tail _ (.head _)))).mono ?_
          rintro en w9 ⟨rfl, hE⟩
          have HFIN : Hid (HeadPost w (.returned (.bool true)) w9) := Lib.hid ⟨rfl, hB ▸ (HW.out.1.trans (hE.old.mono (Nat.le_of_lt HW.out.2)))⟩
          clear hE
          go_wp2_with fail
          go_ret
          exact HFIN.out
      · have HLAW := Lib.hid (hlaw (.inl he))
        clear hlaw
        generalize step st (EdC.ed ⟨op, aid, aother, aobj, c3, c4, c5, c6, c7, c8, c10, c11, c12, c13, c14⟩) = st' at *
        generalize err st (EdC.ed ⟨op, aid, aother, aobj, c3, c4, c5, c6, c7, c8, c10, c11, c12, c13, c14⟩) = c at *
        have hc2 : (c == 0) = false := beq_eq_false_iff_ne.2 he
        clear he
        go_wp2_with fail
        refine (hE.now_at (by omega) id HI.out ks HP.out (fun k => by rw [HLAW.out]; exact (HM.out k).symm)).mono ?_
        rintro en w6 ⟨v3, rfl, hE⟩
        go_wp2_with fail
        refine (hE.same_at (.head _) (.tail _ (.tail _ (.head _)))).mono ?_
        rintro en w7 ⟨rfl, hE⟩
        go_wp2_with fail
        refine (hE.then_at (by omega) id HI.out ls HP2.out (fun k => by rw [HLAW.out]; exact (HM2.out k).symm)).mono ?_
        rintro en w8 ⟨v4, rfl, hE⟩
        go_wp2_with fail
        refine (hE.same_at (.head _) (.tail _ (.tail _ (.head _)))).mono ?_
        rintro en w9 ⟨rfl, hE⟩
        have HFIN : Hid (HeadPost w (.returned (.bool true)) w9) := Lib.hid ⟨rfl, hB ▸ (HW.out.1.trans (hE.old.mono (Nat.le_of_lt HW.out.2)))⟩
        clear hE
        go_wp2_with fail
        go_ret
        exact HFIN.out

end Go.Proofs.Ytkbjfmlfmmmknaa
