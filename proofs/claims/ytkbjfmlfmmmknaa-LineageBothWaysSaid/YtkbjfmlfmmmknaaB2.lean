/- The walk of LineageBothWays. -/
import Derived.Test.YtkbjfmlfmmmknaaL4
namespace Go.Proofs.Ytkbjfmlfmmmknaa
open Go.RowKit Go.Maps Go.WideMaps Go.ChangeMaps Go.Sort

set_option maxHeartbeats 4000000 in
set_option maxRecDepth 100000 in
theorem bothWays_walk (w : World) (v : Value) (es : List EdC) (a b : ByteArray) (h : Eds w v es) (ha : a.size ≤ maxLen) (hb : b.size ≤ maxLen) :
    Calls Try.prog 4 #[v, .string a, .string b] w (HeadPost w) := by
  have hhead := head_any w
  have H := Lib.hid h
  clear h
  go_enter Try.func4, Try.ntmps4
  go_wp2_with fail
  refine hhead.mono ?_
  rintro en w1 ⟨rfl, hb1⟩
  clear hhead
  go_wp2_with fail
  refine (few_any w1 v es 40 (H.out.turn hb1) (by omega)).mono ?_
  rintro en w2 ⟨bf, rfl, hfew, rfl⟩
  have HEND : Hid (HeadPost w (.returned (.bool true)) w1) := Lib.hid ⟨rfl, hb1⟩
  have HB1 := Lib.hid hb1
  clear hb1
  unfold maxLen at ha hb
  cases bf with
  | false =>
    clear hfew
    go_wp2_with fail
    go_ret
    exact HEND.out
  | true =>
    have hlen := hfew rfl
    clear hfew
    by_cases t1 : 100 < a.size
    · have b1 : decide (100 < a.size) = true := by simp; omega
      have b1' : decide ((100 : Int) < (a.size : Int)) = true := by simp; omega
      go_wp2_with fail
      go_ret
      exact HEND.out
    by_cases t2 : 100 < b.size
    · have b1 : decide (100 < a.size) = false := by simp; omega
      have b1' : decide ((100 : Int) < (a.size : Int)) = false := by simp; omega
      have b2 : decide (100 < b.size) = true := by simp; omega
      have b2' : decide ((100 : Int) < (b.size : Int)) = true := by simp; omega
      go_wp2_with fail
      go_ret
      exact HEND.out
    have b1 : decide (100 < a.size) = false := by simp; omega
    have b1' : decide ((100 : Int) < (a.size : Int)) = false := by simp; omega
    have b2 : decide (100 < b.size) = false := by simp; omega
    have b2' : decide ((100 : Int) < (b.size : Int)) = false := by simp; omega
    go_wp2_with fail
    clear b1 b1' b2 b2'
    refine (start_followed w w1 HB1.out v es H.out (by omega)).mono ?_
    rintro en w2 ⟨x, rfl, hE⟩
    have hma : a.size ≤ maxLen := by unfold maxLen; omega
    have hmb : b.size ≤ maxLen := by unfold maxLen; omega
    go_wp2_with fail
    refine (hE.now (by omega) a hma).mono ?_
    rintro en w3 ⟨nv, ks, rfl, hE3, hp, hm⟩
    have HM := Lib.hid hm
    clear hm hE
    go_wp2_with fail
    refine (hE3.then_ (by omega) b hmb).mono ?_
    rintro en w4 ⟨tv, ls, rfl, hE4, hp2, hm2⟩
    have HM2 := Lib.hid hm2
    have HP := Lib.hid hp
    have HP2 := Lib.hid hp2
    have HE := Lib.hid hE4
    obtain ⟨A, c, rfl, hn1, hA⟩ := hE4.shape (.tail _ (.head _))
    obtain ⟨B, d, rfl, hn2, hB⟩ := hE4.shape (.head _)
    have HA := Lib.hid hA
    have HB := Lib.hid hB
    clear hm2 hp hp2 hE3 hE4 hA hB
    go_wp2_with fail
    go_loopw [11] (fun i wr => ∃ k q : Nat, 1 ≤ k ∧ k ≤ ks.length + 1 ∧ i = .int .i64 k ∧ wr = w4.drewN q) (fun i _ => ks.length + 1 - (intOf i).toNat)
    case atStart => exact ⟨1, 0, Nat.le_refl _, by omega, rfl, rfl⟩
    case round =>
      obtain ⟨k, q, hk1, hk2, rfl, hW⟩ := hrel
      have HW := Lib.hid hW
      clear hW
      by_cases hlt : k < ks.length
      · obtain ⟨g, rfl, hg⟩ := HA.out (by omega)
        have hc1 : wr.cell? ⟨g, k, none⟩ = some (.string (toB ks[k])) := by rw [HW.out]; exact hg.at_ hlt
        have hc2 : wr.cell? ⟨g, k - 1, none⟩ = some (.string (toB (ks[k - 1]'(by omega)))) := by rw [HW.out]; exact hg.at_ (by omega)
        have hless := rise_less HP.out hk1 hlt
        have hki : (k : Int) < (ks.length : Int) := by omega
        have hki0 : (0 : Int) ≤ (k : Int) - 1 := by omega
        have hki1 : (k : Int) - 1 < (ks.length : Int) := by omega
        have hto : ((k : Int) - 1).toNat = k - 1 := by omega
        generalize toB ks[k] = u1 at *
        generalize toB (ks[k - 1]'(by omega)) = u2 at *
        clear hg
        go_wp2_with fail
        go_quiet (fail)
        go_wp2_with fail
        go_roundw
        case rel => exact ⟨k + 1, q + nq, by omega, by omega, by go_num, by rw [HW.out, World.drewN_drewN]⟩
        case measure => simp [intOf]; omega
      · have hki : decide ((k : Int) < (ks.length : Int)) = false := by simp; omega
        have hki2 : decide (k < ks.length) = false := by simp; omega
        go_wp2_with fail
        have hE5 : Env1 w wr (4 * es.length) x (runS (fun _ => none) es) _ := HE.out.below (by rw [HW.out]; exact below_drewN _ q)
        have hB5 : 0 < ls.length → ∃ g, B = some ⟨g, 0, none⟩ ∧ SLat wr g (ls.map toB) := by
          intro h0
          obtain ⟨g, e, hs⟩ := HB.out h0
          exact ⟨g, e, by rw [HW.out]; exact hs.turn (F := fun _ => False) (turn_drewN _ _ _) (fun h => h)⟩
        clear HW hki hki2 hlt
        generalize wr = w4 at *
        have HE := Lib.hid hE5
        have HB := Lib.hid hB5
        clear hE5 hB5
        go_loopw [12] (fun i wr => ∃ k q : Nat, 1 ≤ k ∧ k ≤ ls.length + 1 ∧ i = .int .i64 k ∧ wr = w4.drewN q) (fun i _ => ls.length + 1 - (intOf i).toNat)
        case atStart => exact ⟨1, 0, Nat.le_refl _, by omega, rfl, rfl⟩
        case round =>
          obtain ⟨k, q, hk1, hk2, rfl, hW⟩ := hrel
          have HW := Lib.hid hW
          clear hW
          by_cases hlt : k < ls.length
          · obtain ⟨g, rfl, hg⟩ := HB.out (by omega)
            have hc1 : wr.cell? ⟨g, k, none⟩ = some (.string (toB ls[k])) := by rw [HW.out]; exact hg.at_ hlt
            have hc2 : wr.cell? ⟨g, k - 1, none⟩ = some (.string (toB (ls[k - 1]'(by omega)))) := by rw [HW.out]; exact hg.at_ (by omega)
            have hless := rise_less HP2.out hk1 hlt
            have hki : (k : Int) < (ls.length : Int) := by omega
            have hki0 : (0 : Int) ≤ (k : Int) - 1 := by omega
            have hki1 : (k : Int) - 1 < (ls.length : Int) := by omega
            have hto : ((k : Int) - 1).toNat = k - 1 := by omega
            generalize toB ls[k] = u1 at *
            generalize toB (ls[k - 1]'(by omega)) = u2 at *
            clear hg
            go_wp2_with fail
            go_quiet (fail)
            go_wp2_with fail
            go_roundw
            case rel => exact ⟨k + 1, q + nq, by omega, by omega, by go_num, by rw [HW.out, World.drewN_drewN]⟩
            case measure => simp [intOf]; omega
          · have hki : decide ((k : Int) < (ls.length : Int)) = false := by simp; omega
            have hki2 : decide (k < ls.length) = false := by simp; omega
            go_wp2_with fail
            have hE5 : Env1 w wr (4 * es.length) x (runS (fun _ => none) es) _ := HE.out.below (by rw [HW.out]; exact below_drewN _ q)
            clear HW hki hki2 hlt
            refine (hE5.in_ (.tail _ (.head _)) b).mono ?_
            rintro en w5 ⟨r1, rfl, hr1, hE6⟩
            clear hE5
            go_wp2_with fail
            refine (hE6.in_ (.head _) a).mono ?_
            rintro en w6 ⟨r2, rfl, hr2, hE7⟩
            clear hE6
            have hrr : r1 = r2 := by
              rw [Bool.eq_iff_iff, hr1, hr2, mem_toB, mem_toB, HM.out, HM2.out]
            clear hr1 hr2
            subst hrr
            go_wp2_with fail
            refine (hE7.gone a hma).mono ?_
            rintro en w7 ⟨r3, rfl, hr3, hE8⟩
            clear hE7
            have hr3' : r3 = ((ks.length : Int) == 0) := by
              rw [Bool.eq_iff_iff, hr3]
              simp only [beq_iff_eq]
              constructor
              · intro hn
                cases hks : ks with
                | nil => rfl
                | cons z zs =>
                  have := (HM.out z).1 (by rw [hks]; simp)
                  rw [hn z] at this; cases this
              · intro h0 z
                have h00 : ks = [] := List.eq_nil_of_length_eq_zero (by omega)
                cases hz : ofS (runS (fun _ => none) es) a.data.toList z with
                | false => rfl
                | true => have := (HM.out z).2 hz; rw [h00] at this; cases this
            clear hr3
            subst hr3'
            have HFIN : Hid (HeadPost w (.returned (.bool true)) w7) := Lib.hid ⟨rfl, hE8.old⟩
            clear hE8
            go_wp2_with fail
            go_ret
            exact HFIN.out
        

end Go.Proofs.Ytkbjfmlfmmmknaa
