/- The walk of the law's own examples. -/
import Derived.Test.YtdpbihbcggpobaaT12
namespace Go.Proofs.Ytdpbihbcggpobaa
open Go.RowKit Go.Maps

set_option maxHeartbeats 4000000 in
theorem head_any (w : World) : Calls Try.prog 9 #[] w (fun e w' => e = .returned (.bool true) ∧ Below w.heap.size w w') := by
  have s1 := side_any 0 0 4 4
  have s2 := side_any 0 4 4 0
  have s3 := side_any 9 9 9 9
  have s4 := side_any 0 0 4 0
  have s5 := side_any 4 0 4 4
  have s6 := side_any 2 0 2 5
  have s7 := side_any 4 0 0 0
  unfold sg at s1 s2 s3 s4 s5 s6 s7
  have HS := Lib.hid (And.intro s1 (And.intro s2 (And.intro s3 (And.intro s4 (And.intro s5 (And.intro s6 s7))))))
  clear s1 s2 s3 s4 s5 s6 s7
  go_enter Try.func9, Try.ntmps9
  go_upto_region 2 with (first
    | (go_at_call 17; (with_reducible refine (HS.out.1 _).mono ?_); rintro en w1 ⟨rfl, hb⟩; have HB1 := Lib.hid hb; clear hb)
    | (go_at_call 17; (with_reducible refine (HS.out.2.1 _).mono ?_); rintro en w2 ⟨rfl, hb⟩; have HB2 := Lib.hid (HB1.out.trans (hb.mono HB1.out.size)); clear hb)
    | (go_at_call 17; (with_reducible refine (HS.out.2.2.1 _).mono ?_); rintro en w3 ⟨rfl, hb⟩; have HB3 := Lib.hid (HB2.out.trans (hb.mono HB2.out.size)); clear hb)
    | (go_at_call 10; refine (all_ex1 w3).mono ?_; rintro en w4 ⟨v4, rfl, hm, hb⟩; have HB4 := Lib.hid (HB3.out.trans (hb.mono HB3.out.size)); have HM4 := Lib.hid hm; clear hb hm))
  go_upto_region 3 with (first
    | (go_at_call 17; (with_reducible refine (HS.out.2.2.2.1 _).mono ?_); rintro en w5 ⟨rfl, hb⟩; have HM5 := Lib.hid (HM4.out.below hb); have HB5 := Lib.hid (HB4.out.trans (hb.mono HB4.out.size)); clear hb)
    | (go_at_call 17; (with_reducible refine (HS.out.2.2.2.2.1 _).mono ?_); rintro en w6 ⟨rfl, hb⟩; have HM6 := Lib.hid (HM5.out.below hb); have HB6 := Lib.hid (HB5.out.trans (hb.mono HB5.out.size)); clear hb)
    | (go_at_call 17; (with_reducible refine (HS.out.2.2.2.2.2.1 _).mono ?_); rintro en w7 ⟨rfl, hb⟩; have HM7 := Lib.hid (HM6.out.below hb); have HB7 := Lib.hid (HB6.out.trans (hb.mono HB6.out.size)); clear hb)
    | (go_at_call 17; (with_reducible refine (HS.out.2.2.2.2.2.2 _).mono ?_); rintro en w8 ⟨rfl, hb⟩; have HM8 := Lib.hid (HM7.out.below hb); have HB8 := Lib.hid (HB7.out.trans (hb.mono HB7.out.size)); clear hb)
    | (go_at_call 10; refine (all_ex2 w8).mono ?_; rintro en w9 ⟨v9, rfl, hm, hb⟩; have HM9 := Lib.hid (HM8.out.below hb); have HB9 := Lib.hid (HB8.out.trans (hb.mono HB8.out.size)); have HN9 := Lib.hid hm; clear hb hm))
  go_upto_region 4 with fail
  have hw : w9.alloc (.cells (#[.int .i64 0, .int .i64 1, .int .i64 1, .int .i64 0, .int .i64 2, .int .i64 2, .int .i64 0, .int .i64 3, .int .i64 4, .int .i64 1, .int .i64 3, .int .i64 1, .int .i64 2, .int .i64 3, .int .i64 2]) 36) = w9.alloc (.cells (want2.flatMap mtCells).toArray 36) := rfl
  rw [hw]
  clear hw
  have hn := below_new w9 (.cells (want2.flatMap mtCells).toArray 36)
  have h1 := HM9.out.below hn
  have h2 := HN9.out.below hn
  have h3 : MsAt (w9.alloc (.cells (want2.flatMap mtCells).toArray 36)) (.slice (some ⟨w9.heap.size, 0, none⟩) 5 5) want2 := MsAt.lit w9 want2 (by decide)
  have h4 := HB9.out.trans (hn.mono HB9.out.size)
  generalize w9.alloc _ = w10 at *
  have H1 := Lib.hid h1
  have H2 := Lib.hid h2
  have H3 := Lib.hid h3
  have H4 := Lib.hid h4
  clear h1 h2 h3 h4 hn
  have HC1 : Hid (Calls Try.prog 12 #[v4, .slice (some ⟨w10.heap.size, 0, none⟩) 1 1] (w10.alloc (.cells #[.int .i64 0, .int .i64 1, .int .i64 3] 36)) (fun e w' => e = .returned (.bool true) ∧ Below w10.heap.size w10 w')) :=
    Lib.hid ((same_yes want1 v4 (.slice (some ⟨w10.heap.size, 0, none⟩) 1 1) _ (H1.out.below (below_new w10 _)) (MsAt.lit w10 want1 (by decide)) (by decide)).mono fun e w' h => ⟨h.1, (below_new w10 _).trans (h.2.mono (by simp))⟩)
  have HC2 : Hid (∀ w', Below w10.heap.size w10 w' → Calls Try.prog 12 #[v9, .slice (some ⟨w9.heap.size, 0, none⟩) 5 5] w' (fun e w' => e = .returned (.bool true) ∧ Below w10.heap.size w10 w')) :=
    Lib.hid fun w' hb => (same_yes want2 v9 _ _ (H2.out.below hb) (H3.out.below hb) (by decide)).mono fun e w2 h => ⟨h.1, hb.trans (h.2.mono hb.size)⟩
  clear H1 H2 H3 HM4 HM5 HM6 HM7 HM8 HM9 HN9 HB1 HB2 HB3 HB4 HB5 HB6 HB7 HB8 HB9 HS
  generalize w9.heap.size = G9 at *
  go_wp2_with (first
    | (go_at_call 12; (with_reducible refine HC1.out.mono ?_); rintro en w11 ⟨rfl, hb⟩; have HB11 := Lib.hid hb; clear hb)
    | (go_at_call 12; (with_reducible refine (HC2.out _ HB11.out).mono ?_); rintro en w12 ⟨rfl, hb⟩; have HB12 := Lib.hid hb; clear hb))
  go_ret
  exact ⟨rfl, H4.out.trans (HB12.out.mono H4.out.size)⟩

end Go.Proofs.Ytdpbihbcggpobaa
