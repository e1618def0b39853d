/- The walk of SweepLimit. -/
import Derived.Test.YtdpbihbcggpobaaF8
namespace Go.Proofs.Ytdpbihbcggpobaa
open Go.RowKit Go.Maps

set_option maxHeartbeats 8000000 in
theorem limit_walk (W : World) (R : Nat) (hR : R < 256) : Calls Try.prog 8 #[.int .u8 R] W (Yes W) := by
  obtain ⟨n, k, hN, hnk, hk1, hk2⟩ : ∃ (n : Int) (k : Nat), (19990 : Int) + (R : Int) % 20 = n ∧ n = (k : Int) + 2 ∧ 19988 ≤ k ∧ k ≤ 20007 := ⟨_, 19988 + R % 20, rfl, by omega, by omega, by omega⟩
  have HNK := Lib.hid (And.intro hnk (And.intro hk1 hk2))
  have HS : Hid (∀ (a b c d : Int) (w : World), Calls Try.prog 17 #[.int .i64 a, .int .i64 b, .int .i64 c, .int .i64 d] w (fun e w' => e = .returned (.agg #[.int .i64 a, .int .i64 b, .int .i64 c, .int .i64 d]) ∧ Below w.heap.size w w')) := Lib.hid fun a b c d w => side_any a b c d w
  clear hnk hk1 hk2
  go_enter Try.func8, Try.ntmps8
  go_upto_region 3 with (first
    | (go_at_call 9; refine (head_any _).mono ?_; rintro en w1 ⟨rfl, hb⟩; have HB1 := Lib.hid hb; clear hb))
  clear hN
  go_upto_region 5 with fail
  go_loopg [5, 6] k (fun c' lv iv wr => ∃ i : Nat, i + c' = k ∧ iv = .int .i64 i ∧ wr.ownsRow w1.heap.size 34 4 lv (fam i).length ((fam i).flatMap sgCells) ∧ Below w1.heap.size w1 wr)
  case atStart => exact ⟨0, by omega, rfl, World.ownsRow_nil _ _ _ _, Below.refl _ _⟩
  case round =>
    obtain ⟨i, hi, rfl, hown, hb⟩ := hrel
    have HB2 := Lib.hid hb
    have HO := Lib.hid hown
    have HI := Lib.hid hi
    have hnk := HNK.out.1
    have hk2 := HNK.out.2.2
    clear hb hown hi
    by_cases hik : i < k
    · have hki : decide ((i : Int) < n - 2) = true := by simp; omega
      have hbnd : -1000000 ≤ n ∧ n ≤ 1000000 := by omega
      have hn1 := hbnd.1
      have hn2 := hbnd.2
      have hi7 : 0 ≤ (i : Int) % 7 ∧ (i : Int) % 7 ≤ 6 := by omega
      have h71 := hi7.1
      have h72 := hi7.2
      have HFL : Hid ((fam i).length + 1 ≤ 1000000) := Lib.hid (by rw [fam_len]; omega)
      have HFS := Lib.hid (fam_succ i)
      have HBS := Lib.hid HB2.out.size
      clear hbnd hi7 hnk
      go_wp2_with (first
        | (go_at_call 17; refine (HS.out _ _ _ _ _).mono ?_; rintro en w5 ⟨rfl, hb⟩; have HB5 := Lib.hid (HB2.out.trans (hb.mono HBS.out)); have HO5 := Lib.hid (hv_below HO.out hb); have HS5 := Lib.hid HB5.out.size; clear hb)
        | (at_builtin; refine wpList_append_sg _ rfl (.tmp 24) (.tmp 32) rfl w1.heap.size u5 (fam i) [famAt i] w5.heap.size 1 1 rfl rfl rfl (hv_below HO5.out (below_new w5 _)) (sg_range w5 [famAt i]) HFL.out (Nat.le_trans HS5.out (by simp)) ?_; intro v6 w6 hown hg; have hb6 := (HB5.out.trans ((below_new w5 (.cells ([famAt i].flatMap sgCells).toArray 34)).mono HS5.out)).grown hg (Nat.le_trans HS5.out (by simp)) (fun b e => (own_at HO5.out b e).1); have HB6 := Lib.hid hb6; have HO6 := Lib.hid hown; clear hown hg hb6))
      have hi1 := HI.out
      go_roundg (gk - 1)
      case measure => omega
      case rel => exact ⟨i + 1, by omega, by congr 1, by rw [HFS.out]; exact HO6.out, HB6.out⟩
    · obtain rfl : i = k := by have := HI.out; omega
      have hki : decide ((i : Int) < n - 2) = false := by simp; omega
      have hn1 : -1000000 ≤ n := by omega
      have hn2 : n ≤ 1000000 := by omega
      have HFL : Hid ((fam i).length + 2 ≤ 1000000) := Lib.hid (by rw [fam_len]; omega)
      have HBS := Lib.hid HB2.out.size
      have HPL := Lib.hid (limit_plain i)
      have HLN : Hid ((fam i ++ [lastA, lastB]).length = i + 2) := Lib.hid (by simp [fam_len])
      clear hnk
      go_upto_region 10 with (first
        | (go_at_call 17; (with_reducible refine (HS.out (-1000000) 0 1000000 5 _).mono ?_); rintro en w5 ⟨rfl, hb⟩; have HB5 := Lib.hid (HB2.out.trans (hb.mono HBS.out)); have HO5 := Lib.hid (hv_below HO.out hb); clear hb)
        | (go_at_call 17; (with_reducible refine (HS.out (-1000000) 5 1000000 0 _).mono ?_); rintro en w6 ⟨rfl, hb⟩; have HB6 := Lib.hid (HB5.out.trans (hb.mono HB5.out.size)); have HO6 := Lib.hid (hv_below HO5.out hb); have HS6 := Lib.hid HB6.out.size; clear hb)
        | (at_builtin; refine wpList_append_sg _ rfl (.tmp 34) (.tmp 37) rfl w1.heap.size u5 (fam i) [lastA, lastB] w6.heap.size 2 2 rfl rfl rfl (hv_below HO6.out (below_new w6 _)) (sg_range w6 [lastA, lastB]) HFL.out (Nat.le_trans HS6.out (by simp)) ?_; intro v7 w7 hown hg; have hb7 := (HB6.out.trans ((below_new w6 (.cells ([lastA, lastB].flatMap sgCells).toArray 34)).mono HS6.out)).grown hg (Nat.le_trans HS6.out (by simp)) (fun b e => (own_at HO6.out b e).1); have HB7 := Lib.hid (HB1.out.trans (hb7.mono HB1.out.size)); have HO7 := Lib.hid (SegsAt.own hown); clear hown hg hb7))
      obtain ⟨p, c, rfl, hp⟩ := HO7.out
      clear hp
      generalize fam i ++ [lastA, lastB] = L at *
      by_cases hbig : 20000 < L.length
      · have hg1 : decide (n > 20000) = true := by have := HLN.out; have := HNK.out.1; simp; omega
        have hg2 : decide (20000 < n) = true := hg1
        have HA := Lib.hid (all_many L.length c p w7 hbig (by have := HLN.out; omega))
        go_wp2_with (first | (go_at_call 10; (with_reducible refine HA.out.mono ?_); rintro en w8 ⟨rfl, hb⟩; have HB8 := Lib.hid (HB7.out.trans (hb.mono HB7.out.size)); clear hb))
        go_ret
        exact ⟨rfl, HB8.out⟩
      · have hg1 : decide (n > 20000) = false := by have := HLN.out; have := HNK.out.1; simp; omega
        have hg2 : decide (20000 < n) = false := hg1
        have HA := Lib.hid (all_m L _ w7 HO7.out (by omega))
        have HE : Hid (n - 2 = (i : Int) ∧ n - 1 = ((i + 1 : Nat) : Int)) := Lib.hid (by have := HNK.out.1; omega)
        unfold AllM at HA
        rw [HPL.out] at HA
        clear hbig
        go_upto_region 11 with (first
          | (go_at_call 10; (with_reducible refine HA.out.mono ?_); rintro en w8 ⟨v8, rfl, hm, hb⟩; have HB8 := Lib.hid (HB7.out.trans (hb.mono HB7.out.size)); have HM8 := Lib.hid hm; clear hb hm))
        have HC : Hid (Calls Try.prog 12 #[v8, .slice (some ⟨w8.heap.size, 0, none⟩) 1 1] (w8.alloc (.cells #[.int .i64 (i : Int), .int .i64 ((i + 1 : Nat) : Int), .int .i64 3] 36)) (fun e w' => e = .returned (.bool true) ∧ Below w8.heap.size w8 w')) :=
          Lib.hid ((same_yes [(i, i + 1, 3)] v8 _ _ (HM8.out.below (below_new w8 _)) (MsAt.lit w8 [(i, i + 1, 3)] (by simp)) (by simp)).mono fun e w' h => ⟨h.1, (below_new w8 _).trans (h.2.mono (by simp))⟩)
        go_wp2_with (first
          | (go_at_call 12; rw [HE.out.1, HE.out.2]; (with_reducible refine HC.out.mono ?_); rintro en w9 ⟨rfl, hb⟩; have HB9 := Lib.hid (HB8.out.trans (hb.mono HB8.out.size)); clear hb))
        go_ret
        exact ⟨rfl, HB9.out⟩

end Go.Proofs.Ytdpbihbcggpobaa
