/- The walks of the reference's All and of SweepMatchesReference, given that the reference's Meets tells what ours does. -/
import Derived.Test.YtdpbihbcggpobaaL6
namespace Go.Proofs.Ytdpbihbcggpobaa
open Go.RowKit Go.Maps

/-- What is left to show: the reference's Meets. -/
def RefMeets : Prop := ∀ (s t : Sg) (w : World), Calls Try.prog 28 #[sg s, sg t] w (IntB (meets s t) w)

set_option maxHeartbeats 8000000 in
theorem refall_any (HRM : RefMeets) (l : List Sg) (v : Value) (w : World) (hv : SegsAt w v l) (hn : l.length ≤ 60) : Calls Try.prog 11 #[v] w (AllM l w) := by
  obtain ⟨p, c, rfl, hp⟩ := hv
  have hcm : decide ((l.length : Int) > 20000) = false := by simp; omega
  have hcm2 : decide ((20000 : Int) < (l.length : Int)) = false := by simp; omega
  have HN := Lib.hid hn
  have HRM2 := Lib.hid HRM
  have HV := Lib.hid (show SegsAt w (.slice p l.length c) l from ⟨p, c, rfl, hp⟩)
  clear hp hn HRM
  go_enter Try.func11, Try.ntmps11
  go_upto_region 5 with fail
  go_loopg [4, 5] l.length (fun c' ov iv wr => ∃ i : Nat, i + c' = l.length ∧ iv = .int .i64 i ∧ wr.ownsRow w.heap.size 36 3 ov (allP (kindOf l) i l.length).length ((allP (kindOf l) i l.length).flatMap mtCells) ∧ Below w.heap.size w wr)
  case atStart => exact ⟨0, by omega, rfl, World.ownsRow_nil _ _ _ _, Below.refl _ _⟩
  case round =>
    obtain ⟨i, hi, rfl, hown, hb⟩ := hrel
    have HB3 := Lib.hid hb
    have HO3 := Lib.hid hown
    have HI := Lib.hid hi
    clear hb hi hown
    have hn1 := HN.out
    by_cases hil : i < l.length
    · have hki : decide ((i : Int) < (l.length : Int)) = true := by simp; omega
      go_upto_region 8 with fail
      go_loopg [4, 6] (l.length - (i + 1)) (fun c' ov jv wr => ∃ (j : Nat) (P : List Mt), j + c' = l.length ∧ i + 1 ≤ j ∧ jv = .int .i64 j ∧ wr.ownsRow w.heap.size 36 3 ov P.length (P.flatMap mtCells) ∧ P ++ rowP (kindOf l) i j l.length = allP (kindOf l) (i + 1) l.length ∧ Below w.heap.size w wr)
      case atStart => exact ⟨i + 1, allP (kindOf l) i l.length, by omega, by omega, by congr 1, HO3.out, by rw [allP_step], HB3.out⟩
      case round =>
        obtain ⟨j, P, hj, hij, rfl, hown, hP, hb⟩ := hrel
        have HB4 := Lib.hid hb
        have HO4 := Lib.hid hown
        have HJ := Lib.hid (And.intro hj hij)
        clear hb hj hij HB3 HO3 hown
        by_cases hjl : j < l.length
        · have hkj : decide ((j : Int) < (l.length : Int)) = true := by simp; omega
          have HPL : Hid (P.length ≤ 1000000) := Lib.hid (by
            have h1 := allP_len (kindOf l) l.length (i + 1)
            rw [← hP, List.length_append] at h1
            have h2 : (i + 1) * l.length ≤ 60 * 60 := Nat.mul_le_mul (by omega) hn1
            omega)
          have hst := rowP_step (kindOf l) (i := i) hjl
          rw [hst] at hP
          clear hst
          have hkd := kind_at hil hjl
          unfold one at hP
          rw [hkd] at hP
          clear hkd
          obtain ⟨p', c', e', hpp⟩ := HV.out
          obtain ⟨rfl, rfl⟩ : p = p' ∧ c = c' := by cases e'; exact ⟨rfl, rfl⟩
          clear e'
          rcases hpp with hpp | ⟨g, o, rfl, hgl, hra⟩
          · rw [hpp] at hil; simp at hil
          have hx := range_old (hra i hil) hgl HB4.out
          have hy := range_old (hra j hjl) hgl HB4.out
          have hE := eight hx hy
          have HE := Lib.hid hE
          have HGL := Lib.hid (Nat.lt_of_lt_of_le hgl HB4.out.size)
          clear hra hx hy hgl hE
          generalize l[i] = s at *
          generalize l[j] = t at *
          have HP := Lib.hid hP
          clear hP
          have hmt := HRM2.out s t
          unfold IntB sg at hmt
          have HM := Lib.hid hmt
          clear hmt
          go_upto_region 10 with fail
          go_region_held3 (fun w' => w'.cell? ⟨g, o + i * 4, none⟩ = some (.int .i64 s.1.1) ∧ w'.cell? ⟨g, o + i * 4 + 1, none⟩ = some (.int .i64 s.1.2) ∧ w'.cell? ⟨g, o + i * 4 + 2, none⟩ = some (.int .i64 s.2.1) ∧ w'.cell? ⟨g, o + i * 4 + 3, none⟩ = some (.int .i64 s.2.2) ∧ w'.cell? ⟨g, o + j * 4, none⟩ = some (.int .i64 t.1.1) ∧ w'.cell? ⟨g, o + j * 4 + 1, none⟩ = some (.int .i64 t.1.2) ∧ w'.cell? ⟨g, o + j * 4 + 2, none⟩ = some (.int .i64 t.2.1) ∧ w'.cell? ⟨g, o + j * 4 + 3, none⟩ = some (.int .i64 t.2.2)) (first | exact HE.out | exact HE2.out)
            (first | (go_at_call 28; (with_reducible refine (HM.out _).mono ?_); rintro en w5 ⟨rfl, hb⟩; have hb5 : Below wr.heap.size wr w5 := (by first | exact hb | exact (below_drewN wr 1).trans hb); have HE2 := Lib.hid (eight_below HE.out HGL.out hb5); have HB5 := Lib.hid (HB4.out.trans (hb5.mono HB4.out.size)); have HO5 := Lib.hid (hv_below HO4.out hb5); clear hb hb5))
          generalize meets s t = M at *
          have hj1 := HJ.out
          by_cases hM : M = 0
          · subst hM
            rw [if_pos rfl, List.nil_append] at HP
            go_wp2_with fail
            go_roundg (gk - 1)
            case measure => omega
            case rel => exact ⟨j + 1, P, by omega, by omega, by congr 1, HO5.out, HP.out, HB5.out⟩
          · rw [if_neg hM] at HP
            have hm1 : decide (M = 0) = false := by simpa using hM
            have hm2 : (M == 0) = false := by simpa using hM
            have HS5 := Lib.hid HB5.out.size
            go_upto_region 12 with fail
            clear hcm hcm2 hki hkj hm1 hm2 hM
            go_wp2_with (at_builtin; refine wpList_append_mt _ rfl (.tmp 36) (.tmp 41) rfl w.heap.size u4 P (i, j, M) w5.heap.size 1 rfl rfl (hv_below HO5.out (below_new w5 _)) (mt_range w5 (i, j, M)) (by have := HPL.out; omega) (Nat.le_trans HS5.out (by simp)) ?_; intro v6 w6 hown hg he; have hb6 := (HB5.out.trans ((below_new w5 (.cells (mtCells (i, j, M)).toArray 36)).mono HS5.out)).grown hg (Nat.le_trans HS5.out (by simp)) (fun b e => (own_at HO5.out b e).1); have HB6 := Lib.hid hb6; have HO6 := Lib.hid hown; clear hown hg he hb6)
            go_roundg (gk - 1)
            case measure => omega
            case rel => exact ⟨j + 1, P ++ [(i, j, M)], by omega, by omega, by congr 1 <;> (unfold wrap64; omega), HO6.out, by rw [List.append_assoc]; exact HP.out, HB6.out⟩
        · have hkj : decide ((j : Int) < (l.length : Int)) = false := by simp; omega
          rw [rowP_end _ (by omega), List.append_nil] at hP
          subst hP
          have hi1 := HI.out
          go_wp2_with fail
          go_roundg (l.length - (i + 1))
          case measure => omega
          case rel => exact ⟨i + 1, by omega, by congr 1, HO4.out, HB4.out⟩
    · have hki : decide ((i : Int) < (l.length : Int)) = false := by simp; omega
      have hi1 := HI.out
      obtain rfl : i = l.length := by omega
      have hfin : AllM l w (.returned (.tuple #[u4, .int .i64 0])) wr := ⟨u4, rfl, MsAt.own HO3.out, HB3.out⟩
      have HFI := Lib.hid hfin
      clear hfin
      go_wp2_with fail
      exact bodyPost_ret (v := .tuple #[u4, .int .i64 0]) (by simp [results, Try.results11, go_sem]) rfl HFI.out

theorem allP_small60 {l : List Sg} (h : l.length ≤ 60) : (allP (kindOf l) l.length l.length).length ≤ 3600 :=
  Nat.le_trans (allP_len _ _ _) (Nat.mul_le_mul h h)
set_option maxHeartbeats 4000000 in
theorem matches_walk (HRM : RefMeets) (W : World) (v : Value) (l : List Sg) (hv : SegsAt W v l) : Calls Try.prog 3 #[v] W (Yes W) := by
  obtain ⟨p, c, rfl, hp⟩ := hv
  by_cases hn : l.length ≤ 60
  · have hcm : decide ((l.length : Int) > 60) = false := by simp; omega
    have hcm2 : decide ((60 : Int) < (l.length : Int)) = false := by simp; omega
    have hv' : SegsAt W (.slice p l.length c) l := ⟨p, c, rfl, hp⟩
    have HA1 : Hid (∀ w', Below W.heap.size W w' → Calls Try.prog 10 #[.slice p l.length c] w' (AllM l w')) := Lib.hid fun w' hb => all_m l _ _ (hv'.below hb) (by omega)
    have HA2 : Hid (∀ w', Below W.heap.size W w' → Calls Try.prog 11 #[.slice p l.length c] w' (AllM l w')) := Lib.hid fun w' hb => refall_any HRM l _ _ (hv'.below hb) hn
    have HLB : Hid ((allP (kindOf l) l.length l.length).length ≤ 1000000000) := Lib.hid (by have := allP_small60 hn; omega)
    unfold AllM at HA1 HA2
    clear hp hv' HRM
    go_enter Try.func3, Try.ntmps3
    go_upto_region 6 with (first
      | (go_at_call 9; refine (head_any _).mono ?_; rintro en w1 ⟨rfl, hb⟩; have HB1 := Lib.hid hb; clear hb)
      | (go_at_call 10; (with_reducible refine (HA1.out _ HB1.out).mono ?_); rintro en w2 ⟨v2, rfl, hm, hb⟩; have HB2 := Lib.hid (HB1.out.trans (hb.mono HB1.out.size)); have HM2 := Lib.hid hm; clear hm hb)
      | (go_at_call 11; (with_reducible refine (HA2.out _ HB2.out).mono ?_); rintro en w3 ⟨v3, rfl, hm, hb⟩; have HB3 := Lib.hid (HB2.out.trans (hb.mono HB2.out.size)); have HM3 := Lib.hid hm; have HM23 := Lib.hid (HM2.out.below hb); clear hm hb))
    have HSM := Lib.hid (same_yes _ v2 v3 w3 HM23.out HM3.out HLB.out)
    go_wp2_with (first | (go_at_call 12; (with_reducible refine HSM.out.mono ?_); rintro en w4 ⟨rfl, hb⟩; have HB4 := Lib.hid (HB3.out.trans (hb.mono HB3.out.size)); clear hb))
    go_ret
    exact ⟨rfl, HB4.out⟩
  · have hcm : decide ((l.length : Int) > 60) = true := by simp; omega
    have hcm2 : decide ((60 : Int) < (l.length : Int)) = true := by simp; omega
    clear hp
    go_enter Try.func3, Try.ntmps3
    go_wp2_with (go_at_call 9; refine (head_any _).mono ?_; rintro en w1 ⟨rfl, hb⟩; have HB1 := Lib.hid hb; clear hb)
    go_ret
    exact ⟨rfl, HB1.out⟩

end Go.Proofs.Ytdpbihbcggpobaa
