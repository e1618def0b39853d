/- The walk of LineageJoined. -/
import Derived.Test.YtkbjfmlfmmmknaaL5
namespace Go.Proofs.Ytkbjfmlfmmmknaa
open Go.RowKit Go.Maps Go.WideMaps Go.ChangeMaps Go.Sort

set_option maxHeartbeats 8000000 in
set_option maxRecDepth 100000 in
theorem joined_walk (w : World) (v : Value) (es : List EdC) (a b id : ByteArray) (h : Eds w v es) (ha : a.size ≤ maxLen) (hb : b.size ≤ maxLen) (hid : id.size ≤ maxLen) :
    Calls Try.prog 6 #[v, .string a, .string b, .string id] w (HeadPost w) := by
  have hhead := head_any w
  have H := Lib.hid h
  clear h
  go_enter Try.func6, Try.ntmps6
  go_wp2_with fail
  refine hhead.mono ?_
  rintro en w1 ⟨rfl, hb1⟩
  clear hhead
  go_wp2_with fail
  refine (few_any w1 v es 40 (H.out.turn hb1) (by omega)).mono ?_
  rintro en w2 ⟨bf, rfl, hfew, rfl⟩
  have HEND : Hid (HeadPost w (.returned (.bool true)) w1) := Lib.hid ⟨rfl, hb1⟩
  have HB1 := Lib.hid hb1
  clear hb1
  have HA := Lib.hid ha
  have HB := Lib.hid hb
  have HI := Lib.hid hid
  unfold maxLen at ha hb hid
  cases bf with
  | false =>
    clear hfew
    go_wp2_with fail
    go_ret
    exact HEND.out
  | true =>
    have hlen := hfew rfl
    clear hfew
    by_cases t0 : 100 < a.size
    · have b0 : decide (100 < a.size) = true := by simp; omega
      have b0' : decide ((100 : Int) < (a.size : Int)) = true := by simp; omega
      go_wp2_with fail
      go_ret
      exact HEND.out
    by_cases t1 : 100 < b.size
    · have b0 : decide (100 < a.size) = false := by simp; omega
      have b0' : decide ((100 : Int) < (a.size : Int)) = false := by simp; omega
      have b1 : decide (100 < b.size) = true := by simp; omega
      have b1' : decide ((100 : Int) < (b.size : Int)) = true := by simp; omega
      go_wp2_with fail
      go_ret
      exact HEND.out
    by_cases t2 : 100 < id.size
    · have b0 : decide (100 < a.size) = false := by simp; omega
      have b0' : decide ((100 : Int) < (a.size : Int)) = false := by simp; omega
      have b1 : decide (100 < b.size) = false := by simp; omega
      have b1' : decide ((100 : Int) < (b.size : Int)) = false := by simp; omega
      have b2 : decide (100 < id.size) = true := by simp; omega
      have b2' : decide ((100 : Int) < (id.size : Int)) = true := by simp; omega
      go_wp2_with fail
      go_ret
      exact HEND.out
    by_cases t3 : id = b
    · have b0 : decide (100 < a.size) = false := by simp; omega
      have b0' : decide ((100 : Int) < (a.size : Int)) = false := by simp; omega
      have b1 : decide (100 < b.size) = false := by simp; omega
      have b1' : decide ((100 : Int) < (b.size : Int)) = false := by simp; omega
      have b2 : decide (100 < id.size) = false := by simp; omega
      have b2' : decide ((100 : Int) < (id.size : Int)) = false := by simp; omega
      have b3 : (id.toList == b.toList) = true := by rw [t3]; simp
      go_wp2_with fail
      go_ret
      exact HEND.out
    have b0 : decide (100 < a.size) = false := by simp; omega
    have b0' : decide ((100 : Int) < (a.size : Int)) = false := by simp; omega
    have b1 : decide (100 < b.size) = false := by simp; omega
    have b1' : decide ((100 : Int) < (b.size : Int)) = false := by simp; omega
    have b2 : decide (100 < id.size) = false := by simp; omega
    have b2' : decide ((100 : Int) < (id.size : Int)) = false := by simp; omega
    have b3 : (id.toList == b.toList) = false := beq_eq_false_iff_ne.2 (fun e => t3 (str_eq (by simpa only [ByteArray.toList_eq] using e)))
    go_wp2_with fail
    clear b0 b0' b1 b1' b2 b2' b3
    refine (start_followed w w1 HB1.out v es H.out (by omega)).mono ?_
    rintro en w2 ⟨x, rfl, hE⟩
    have hinv := inv_run es
    generalize runS (fun _ => none) es = st at *
    have HINV := Lib.hid hinv
    clear hinv
    have HNE : Hid (id.data.toList ≠ b.data.toList) := Lib.hid (fun e => t3 (str_eq e))
    clear ha hb hid t0 t1 t2 t3
    go_wp2_with fail
    refine (hE.now (by omega) id HI.out).mono ?_
    rintro en w3 ⟨v1, ks, rfl, hE, hp, hm⟩
    have HM := Lib.hid hm
    have HP := Lib.hid hp
    clear hm hp
    go_wp2_with fail
    refine (hE.split _ _).mono ?_
    rintro en w4 ⟨rfl, hE⟩
    go_wp2_with fail
    by_cases he : err st (edE 6 a b ⟨#[110]⟩).ed = 0
    · have hlaw := joined_law HINV.out (a := a.data.toList) (b := b.data.toList) (x := []) he
      obtain ⟨e2, j1, j2, j3⟩ := hlaw
      have HE2 := Lib.hid e2
      have HJ1 := Lib.hid (j1 _ HNE.out)
      have HJ2 := Lib.hid (j2 _ HNE.out)
      have HJ3 := Lib.hid j3
      clear e2 j1 j2 j3
      have HE := Lib.hid he
      clear he
      refine (hE.follow_at (by omega) _ (edE_ok HA.out HB.out) 0 _ HE.out rfl).mono ?_
      rintro en w5 ⟨rfl, hE⟩
      go_wp2_with fail
      refine (hE.in_ (.head _) a).mono ?_
      rintro en w6 ⟨r1, rfl, hr1, hE⟩
      have HR1 := Lib.hid hr1
      clear hr1
      go_wp2_with fail
      refine (hE.now (by omega) id HI.out).mono ?_
      rintro en w7 ⟨v2, ks2, rfl, hE, hp2, hm2⟩
      have HM2 := Lib.hid hm2
      clear hm2 hp2
      go_wp2_with fail
      refine (hE.in_ (.head _) b).mono ?_
      rintro en w8 ⟨r2, rfl, hr2, hE⟩
      have hrr : r1 = r2 := by
        rw [Bool.eq_iff_iff, HR1.out, hr2, mem_toB, mem_toB, HM.out, HM2.out]
        exact (Bool.eq_iff_iff.1 HJ1.out).symm
      clear hr2 HR1
      subst hrr
      go_wp2_with fail
      refine (hE.join _ _).mono ?_
      rintro en w9 ⟨rfl, hE⟩
      go_wp2_with fail
      refine (hE.follow_at (by omega) _ (edE_ok HA.out HB.out) 0 _ HE2.out rfl).mono ?_
      rintro en w10 ⟨rfl, hE⟩
      go_wp2_with fail
      refine (hE.now_at (by omega) id HI.out ks HP.out (fun k => by rw [HM.out k]; exact Bool.eq_iff_iff.1 (congrFun HJ2.out k))).mono ?_
      rintro en w11 ⟨v3, rfl, hE⟩
      go_wp2_with fail
      refine (hE.same_at (.head _) (.tail _ (.tail _ (.head _)))).mono ?_
      rintro en w12 ⟨rfl, hE⟩
      go_wp2_with fail
      refine (hE.now_at (by omega) b HB.out [a.data.toList] (rise1 _) (fun k => (Bool.eq_iff_iff.1 (HJ3.out k)).trans (by simp))).mono ?_
      rintro en w13 ⟨v4, rfl, hE⟩
      rw [show ([a.data.toList] : List Key).map toB = [a] from by simp [toB_of]] at hE
      go_wp2_with fail
      have hE2 := hE.lit [a] (by simp)
      refine (hE2.same_at (.tail _ (.head _)) (.head _)).mono ?_
      rintro en w14 ⟨rfl, hE⟩
      have HFIN : Hid (HeadPost w (.returned (.bool true)) w14) := Lib.hid ⟨rfl, hE.old⟩
      clear hE hE2
      go_wp2_with fail
      go_ret
      exact HFIN.out
    · refine (hE.follow_at (by omega) _ (edE_ok HA.out HB.out) _ _ rfl rfl).mono ?_
      rintro en w5 ⟨rfl, hE⟩
      generalize err st (edE 6 a b ⟨#[110]⟩).ed = c at *
      have hc1 : (c != 0) = true := by rw [bne_iff_ne]; exact he
      have hc2 : (c == 0) = false := beq_eq_false_iff_ne.2 he
      clear he
      have HFIN : Hid (HeadPost w (.returned (.bool true)) w5) := Lib.hid ⟨rfl, hE.old⟩
      clear hE
      go_wp2_with fail
      go_ret
      exact HFIN.out

end Go.Proofs.Ytkbjfmlfmmmknaa
