/- The walk of the reference's Follow: a split, a join. -/
import Derived.Test.YtkbjfmlfmmmknaaM6
namespace Go.Proofs.Ytkbjfmlfmmmknaa
open Go.RowKit Go.Maps Go.WideMaps Go.ChangeMaps Go.Sort

set_option maxHeartbeats 10000000 in
set_option maxRecDepth 100000 in
theorem rfollow_ok6 (w : World) (y : Nat) (vp vm : Value) (r : RS) (h : RLin w y vp vm r) (hl1 : r.ps.length ≤ 400000) (hl2 : r.ms.length ≤ 400000) (aid aother aobj : ByteArray) (c3 c4 c5 c6 c7 c8 c10 c11 c12 c13 c14 : Value) (hne : aid ≠ aother) (hp : r.pair aid.data.toList aid.data.toList = true) (hk : aother.data.toList ∉ r.ms) :
    Calls Try.prog 15 #[.pointer (some ⟨y, 0, none⟩), .agg #[.int .i64 6, .string aid, .string aother, c3, c4, c5, c6, c7, c8, .string aobj, c10, c11, c12, c13, c14]] w (RFollowPost w y vp vm 0 (((r.mention aid.data.toList).mention aother.data.toList).adds ((r.mention aid.data.toList).mention aother.data.toList).ms aid.data.toList aother.data.toList)) := by
  have hbx := boxed_all h (6) aid aother aobj c3 c4 c5 c6 c7 c8 c10 c11 c12 c13 c14
  clear h
  go_enter Try.func15, Try.ntmps15
  go_upto_region 1 with fail
  generalize World.alloc w _ = w0 at *
  generalize w.heap.size = B at *
  have a0 := hbx.ed.a0
  have a1 := hbx.ed.a1
  have a2 := hbx.ed.a2
  have a9 := hbx.ed.a9
  have d0 := hbx.rl.c0
  have d1 := hbx.rl.c1
  have hylt := YAt.lt (a := vp) (b := vm) hbx.rl.yc
  have HB := Lib.hid hbx
  clear hbx
  have e0 : (aid.toList == aother.toList) = false := beq_eq_false_iff_ne.2 (fun e => hne (str_eq (by simpa only [ByteArray.toList_eq] using e)))
  clear hne
  have HP := Lib.hid hp
  have HK : Hid (decide (aother.data.toList ∈ r.ms) = false) := Lib.hid (by simpa using hk)
  clear hk hp
  have HM0 := Lib.hid (Mid.start HB.out)
  have HL : Hid (((r.mention aid.data.toList).mention aother.data.toList).ps.length ≤ 400002 ∧ ((r.mention aid.data.toList).mention aother.data.toList).ms.length ≤ 400002 ∧ (r.mention aid.data.toList).ps.length ≤ 400001 ∧ (r.mention aid.data.toList).ms.length ≤ 400001) := Lib.hid (by have h1 := mention_len r aid.data.toList; have h2 := mention_len (r.mention aid.data.toList) aother.data.toList; omega)
  go_wp2_with (go_at_call 32; (with_reducible refine (pair_is w0 y vp vm r aid aid true HB.out.rl HP.out).mono ?_); rintro en w' ⟨rfl, rfl⟩)
  go_quiet ((go_at_call 24; exact Calls.quiet_of_same (in_q w0 _ vm r.ms aother false HB.out.rl.m HK.out)))
  go_upto_region 12 with (go_at_call 33; (with_reducible refine (rmention_any _ y vp vm r aid (HB.out.rl.drewN nq) (by omega) (by omega)).mono ?_); rintro en w2 ⟨rfl, hc⟩; obtain ⟨vp1, vm1, hm⟩ := Mid.next (HM0.out.drew nq) hc; have HM1 := Lib.hid hm; clear hc hm)
  clear a0 a1 a2 a9 d0 d1
  have a01 := HM1.out.ed.a0
  have a11 := HM1.out.ed.a1
  have a21 := HM1.out.ed.a2
  have a91 := HM1.out.ed.a9
  have d01 := HM1.out.rl.c0
  have d11 := HM1.out.rl.c1
  have hy1 := YAt.lt (a := vp1) (b := vm1) HM1.out.rl.yc
  go_upto_region 14 with (go_at_call 33; (with_reducible refine (rmention_any _ y vp1 vm1 _ aother HM1.out.rl (by have := HL.out; omega) (by have := HL.out; omega)).mono ?_); rintro en w3 ⟨rfl, hc⟩; obtain ⟨vp2, vm2, hm⟩ := Mid.next HM1.out hc; have HM2 := Lib.hid hm; clear hc hm)
  clear a01 a11 a21 a91 d01 d11
  have a02 := HM2.out.ed.a0
  have a12 := HM2.out.ed.a1
  have a22 := HM2.out.ed.a2
  have a92 := HM2.out.ed.a9
  have d02 := HM2.out.rl.c0
  have d12 := HM2.out.rl.c1
  have hy2 := YAt.lt (a := vp2) (b := vm2) HM2.out.rl.yc
  generalize hr2 : ((r.mention aid.data.toList).mention aother.data.toList) = r2 at *
  have HR2 := Lib.hid hr2
  clear hr2
  obtain ⟨A, c, rfl, hA1, hA⟩ := HM2.out.rl.m.shape
  have HA := Lib.hid hA
  clear hA
  have HSTART : Hid (AddsR w0 y B vp vm 6 aid aother aobj r2 (.slice A r2.ms.length c) aid.data.toList aother.data.toList 0 w3) := Lib.hid ⟨_, _, HM2.out, HM2.out.rl.m, HM2.out.rl.my⟩
  go_wp2_with fail
  go_loopg [7] r2.ms.length (fun c' i wr => ∃ k : Nat, k + c' = r2.ms.length ∧ i = .int .i64 k ∧ AddsR w0 y B vp vm 6 aid aother aobj r2 (.slice A r2.ms.length c) aid.data.toList aother.data.toList k wr)
  case atStart => exact ⟨0, by omega, rfl, HSTART.out⟩
  case round =>
    clear HSTART a02 a12 a22 a92 d02 d12
    obtain ⟨k, hk, rfl, vp3, vm3, hm3, hs3, hg3⟩ := hrel
    have hkl : k ≤ r2.ms.length := by omega
    have HK3 := Lib.hid hk
    have HM3 := Lib.hid hm3
    have HS3 := Lib.hid hs3
    have HG3 := Lib.hid hg3
    clear hk hm3 hs3 hg3
    have a03 := HM3.out.ed.a0
    have a13 := HM3.out.ed.a1
    have a23 := HM3.out.ed.a2
    have a93 := HM3.out.ed.a9
    have d03 := HM3.out.rl.c0
    have d13 := HM3.out.rl.c1
    have hy3 := YAt.lt (a := vp3) (b := vm3) HM3.out.rl.yc
    by_cases hlt : k < r2.ms.length
    · have hki : (k : Int) < (r2.ms.length : Int) := by omega
      have HNX := Lib.hid (fun W (hc : RChange wr y vp3 vm3 (RS.addOne aid.data.toList aother.data.toList (r2.adds (r2.ms.take k) aid.data.toList aother.data.toList) r2.ms[k]) W) => AddsR.next hlt HM3.out HS3.out HG3.out hc)
      obtain ⟨A', c'', hAc, _, hA'⟩ := HS3.out.shape
      obtain ⟨rfl, rfl⟩ : A = A' ∧ c = c'' := by simpa using hAc
      obtain ⟨g, rfl, hSL⟩ := hA' (by omega)
      have e0 := hSL.at_ hlt
      have hTB := toB_data r2.ms[k]
      have HTB := Lib.hid hTB
      have hln := adds_len aid.data.toList aother.data.toList (r2.ms.take k) r2
      have HLN : Hid ((r2.adds (r2.ms.take k) aid.data.toList aother.data.toList).ps.length ≤ 800004) := Lib.hid (by have := HL.out; rw [List.length_take] at hln; omega)
      clear hAc hA' hSL hTB hln
      generalize r2.ms[k] = mk at *
      generalize toB mk = t at *
      cases hpk : (r2.adds (r2.ms.take k) aid.data.toList aother.data.toList).pair mk aid.data.toList with
      | true =>
        have HPK := Lib.hid hpk
        have HA1' : Hid (RS.addOne aid.data.toList aother.data.toList (r2.adds (r2.ms.take k) aid.data.toList aother.data.toList) mk = (r2.adds (r2.ms.take k) aid.data.toList aother.data.toList).add mk aother.data.toList) := Lib.hid (by unfold RS.addOne; rw [if_pos hpk])
        clear hpk
        go_wp2_with fail
        go_quiet ((go_at_call 32; exact Calls.quiet_of_same (pair_q wr _ y vp3 vm3 _ t aid true HM3.out.rl (by rw [HTB.out]; exact HPK.out))))
        go_wp2_with fail
        have HM4 := Lib.hid (HM3.out.drew (nq + 1))
        have f0 : ({ heap := wr.heap, tape := wr.tape, drawn := (wr.drewN nq).drawn + 1, os := (wr.drewN nq).os, output := (wr.drewN nq).output } : World).cell? ⟨g, k, none⟩ = some (.string t) := e0
        have f1 : ({ heap := wr.heap, tape := wr.tape, drawn := (wr.drewN nq).drawn + 1, os := (wr.drewN nq).os, output := (wr.drewN nq).output } : World).cell? ⟨B, 2, none⟩ = some (.string aother) := HM3.out.ed.a2
        go_still_tail 7, (by kernel_rfl)
        clear f0 f1
        change wpList _ _ _ _ _ ((wr.drewN nq).drewN 1)
        go_wp2_with (go_at_call 34; (with_reducible refine (radd_any _ y vp3 vm3 _ t aother HM4.out.rl (by have := HLN.out; omega)).mono ?_); rintro en w5 ⟨rfl, hc⟩; have HC := Lib.hid hc; clear hc)
        have hc := HC.out
        rw [HTB.out, ← HA1'.out] at hc
        have HN := Lib.hid (HNX.out w5 (RChange.drewN (n := nq + 1) hc))
        clear hc
        have hk1 := HK3.out
        go_roundg (gk - 1)
        case measure => omega
        case rel => exact ⟨k + 1, by omega, by go_num, HN.out⟩
      | false =>
        have HPK := Lib.hid hpk
        have HA1' : Hid (RS.addOne aid.data.toList aother.data.toList (r2.adds (r2.ms.take k) aid.data.toList aother.data.toList) mk = r2.adds (r2.ms.take k) aid.data.toList aother.data.toList) := Lib.hid (by unfold RS.addOne; rw [hpk, if_neg (by simp)])
        clear hpk
        go_wp2_with fail
        go_quiet ((go_at_call 32; exact Calls.quiet_of_same (pair_q wr _ y vp3 vm3 _ t aid false HM3.out.rl (by rw [HTB.out]; exact HPK.out))))
        have HN := Lib.hid (HNX.out (wr.drewN nq) (RChange.drewN (n := nq) (RChange.refl (by rw [HA1'.out]; exact HM3.out.rl.drewN nq))))
        go_wp2_with fail
        have hk1 := HK3.out
        go_roundg (gk - 1)
        case measure => omega
        case rel => exact ⟨k + 1, by omega, by go_num, HN.out⟩
    · have hki : decide ((k : Int) < (r2.ms.length : Int)) = false := by simp; omega
      have hki2 : decide (k < r2.ms.length) = false := by simp; omega
      have hln := adds_len aid.data.toList aother.data.toList (r2.ms.take k) r2
      have HLN : Hid ((r2.adds (r2.ms.take k) aid.data.toList aother.data.toList).ps.length ≤ 800004) := Lib.hid (by have := HL.out; rw [List.length_take] at hln; omega)
      clear hln
      have HKE : Hid (r2.ms.take k = r2.ms) := Lib.hid (List.take_of_length_le (by omega))
      have HFIN : Hid (RFollowPost w y vp vm 0 (r2.adds r2.ms aid.data.toList aother.data.toList) (.returned (.int .i64 0)) wr) := Lib.hid ⟨rfl, by have := HB.out.done HM3.out.change; rw [HKE.out] at this; exact this⟩
      go_wp2_with fail
      go_ret
      exact HFIN.out

set_option maxHeartbeats 10000000 in
set_option maxRecDepth 100000 in
theorem rfollow_ok7 (w : World) (y : Nat) (vp vm : Value) (r : RS) (h : RLin w y vp vm r) (hl1 : r.ps.length ≤ 400000) (hl2 : r.ms.length ≤ 400000) (aid aother aobj : ByteArray) (c3 c4 c5 c6 c7 c8 c10 c11 c12 c13 c14 : Value) (hne : aid ≠ aother) (hp : r.pair aid.data.toList aid.data.toList = true) (hq : r.pair aother.data.toList aother.data.toList = true) :
    Calls Try.prog 15 #[.pointer (some ⟨y, 0, none⟩), .agg #[.int .i64 7, .string aid, .string aother, c3, c4, c5, c6, c7, c8, .string aobj, c10, c11, c12, c13, c14]] w (RFollowPost w y vp vm 0 ((((r.mention aid.data.toList).mention aother.data.toList).adds ((r.mention aid.data.toList).mention aother.data.toList).ms aother.data.toList aid.data.toList).drop aother.data.toList)) := by
  have hbx := boxed_all h (7) aid aother aobj c3 c4 c5 c6 c7 c8 c10 c11 c12 c13 c14
  clear h
  go_enter Try.func15, Try.ntmps15
  go_upto_region 1 with fail
  generalize World.alloc w _ = w0 at *
  generalize w.heap.size = B at *
  have a0 := hbx.ed.a0
  have a1 := hbx.ed.a1
  have a2 := hbx.ed.a2
  have a9 := hbx.ed.a9
  have d0 := hbx.rl.c0
  have d1 := hbx.rl.c1
  have hylt := YAt.lt (a := vp) (b := vm) hbx.rl.yc
  have HB := Lib.hid hbx
  clear hbx
  have e0 : (aid.toList == aother.toList) = false := beq_eq_false_iff_ne.2 (fun e => hne (str_eq (by simpa only [ByteArray.toList_eq] using e)))
  clear hne
  have HP := Lib.hid hp
  have HQ := Lib.hid hq
  clear hp hq
  have HM0 := Lib.hid (Mid.start HB.out)
  have HL : Hid (((r.mention aid.data.toList).mention aother.data.toList).ps.length ≤ 400002 ∧ ((r.mention aid.data.toList).mention aother.data.toList).ms.length ≤ 400002 ∧ (r.mention aid.data.toList).ps.length ≤ 400001 ∧ (r.mention aid.data.toList).ms.length ≤ 400001) := Lib.hid (by have h1 := mention_len r aid.data.toList; have h2 := mention_len (r.mention aid.data.toList) aother.data.toList; omega)
  go_wp2_with (first | (go_at_call 32; (with_reducible refine (pair_is w0 y vp vm r aid aid true HB.out.rl HP.out).mono ?_); rintro en w' ⟨rfl, rfl⟩) | (go_at_call 32; (with_reducible refine (pair_is w0 y vp vm r aother aother true HB.out.rl HQ.out).mono ?_); rintro en w' ⟨rfl, rfl⟩))
  go_quiet (fail)
  go_upto_region 12 with (go_at_call 33; (with_reducible refine (rmention_any _ y vp vm r aid (HB.out.rl.drewN nq) (by omega) (by omega)).mono ?_); rintro en w2 ⟨rfl, hc⟩; obtain ⟨vp1, vm1, hm⟩ := Mid.next (HM0.out.drew nq) hc; have HM1 := Lib.hid hm; clear hc hm)
  clear a0 a1 a2 a9 d0 d1
  have a01 := HM1.out.ed.a0
  have a11 := HM1.out.ed.a1
  have a21 := HM1.out.ed.a2
  have a91 := HM1.out.ed.a9
  have d01 := HM1.out.rl.c0
  have d11 := HM1.out.rl.c1
  have hy1 := YAt.lt (a := vp1) (b := vm1) HM1.out.rl.yc
  go_upto_region 14 with (go_at_call 33; (with_reducible refine (rmention_any _ y vp1 vm1 _ aother HM1.out.rl (by have := HL.out; omega) (by have := HL.out; omega)).mono ?_); rintro en w3 ⟨rfl, hc⟩; obtain ⟨vp2, vm2, hm⟩ := Mid.next HM1.out hc; have HM2 := Lib.hid hm; clear hc hm)
  clear a01 a11 a21 a91 d01 d11
  have a02 := HM2.out.ed.a0
  have a12 := HM2.out.ed.a1
  have a22 := HM2.out.ed.a2
  have a92 := HM2.out.ed.a9
  have d02 := HM2.out.rl.c0
  have d12 := HM2.out.rl.c1
  have hy2 := YAt.lt (a := vp2) (b := vm2) HM2.out.rl.yc
  generalize hr2 : ((r.mention aid.data.toList).mention aother.data.toList) = r2 at *
  have HR2 := Lib.hid hr2
  clear hr2
  obtain ⟨A, c, rfl, hA1, hA⟩ := HM2.out.rl.m.shape
  have HA := Lib.hid hA
  clear hA
  have HSTART : Hid (AddsR w0 y B vp vm 7 aid aother aobj r2 (.slice A r2.ms.length c) aother.data.toList aid.data.toList 0 w3) := Lib.hid ⟨_, _, HM2.out, HM2.out.rl.m, HM2.out.rl.my⟩
  go_wp2_with fail
  go_loopg [8] r2.ms.length (fun c' i wr => ∃ k : Nat, k + c' = r2.ms.length ∧ i = .int .i64 k ∧ AddsR w0 y B vp vm 7 aid aother aobj r2 (.slice A r2.ms.length c) aother.data.toList aid.data.toList k wr)
  case atStart => exact ⟨0, by omega, rfl, HSTART.out⟩
  case round =>
    clear HSTART a02 a12 a22 a92 d02 d12
    obtain ⟨k, hk, rfl, vp3, vm3, hm3, hs3, hg3⟩ := hrel
    have hkl : k ≤ r2.ms.length := by omega
    have HK3 := Lib.hid hk
    have HM3 := Lib.hid hm3
    have HS3 := Lib.hid hs3
    have HG3 := Lib.hid hg3
    clear hk hm3 hs3 hg3
    have a03 := HM3.out.ed.a0
    have a13 := HM3.out.ed.a1
    have a23 := HM3.out.ed.a2
    have a93 := HM3.out.ed.a9
    have d03 := HM3.out.rl.c0
    have d13 := HM3.out.rl.c1
    have hy3 := YAt.lt (a := vp3) (b := vm3) HM3.out.rl.yc
    by_cases hlt : k < r2.ms.length
    · have hki : (k : Int) < (r2.ms.length : Int) := by omega
      have HNX := Lib.hid (fun W (hc : RChange wr y vp3 vm3 (RS.addOne aother.data.toList aid.data.toList (r2.adds (r2.ms.take k) aother.data.toList aid.data.toList) r2.ms[k]) W) => AddsR.next hlt HM3.out HS3.out HG3.out hc)
      obtain ⟨A', c'', hAc, _, hA'⟩ := HS3.out.shape
      obtain ⟨rfl, rfl⟩ : A = A' ∧ c = c'' := by simpa using hAc
      obtain ⟨g, rfl, hSL⟩ := hA' (by omega)
      have e0 := hSL.at_ hlt
      have hTB := toB_data r2.ms[k]
      have HTB := Lib.hid hTB
      have hln := adds_len aother.data.toList aid.data.toList (r2.ms.take k) r2
      have HLN : Hid ((r2.adds (r2.ms.take k) aother.data.toList aid.data.toList).ps.length ≤ 800004) := Lib.hid (by have := HL.out; rw [List.length_take] at hln; omega)
      clear hAc hA' hSL hTB hln
      generalize r2.ms[k] = mk at *
      generalize toB mk = t at *
      cases hpk : (r2.adds (r2.ms.take k) aother.data.toList aid.data.toList).pair mk aother.data.toList with
      | true =>
        have HPK := Lib.hid hpk
        have HA1' : Hid (RS.addOne aother.data.toList aid.data.toList (r2.adds (r2.ms.take k) aother.data.toList aid.data.toList) mk = (r2.adds (r2.ms.take k) aother.data.toList aid.data.toList).add mk aid.data.toList) := Lib.hid (by unfold RS.addOne; rw [if_pos hpk])
        clear hpk
        go_wp2_with fail
        go_quiet ((go_at_call 32; exact Calls.quiet_of_same (pair_q wr _ y vp3 vm3 _ t aother true HM3.out.rl (by rw [HTB.out]; exact HPK.out))))
        go_wp2_with fail
        have HM4 := Lib.hid (HM3.out.drew (nq + 1))
        have f0 : ({ heap := wr.heap, tape := wr.tape, drawn := (wr.drewN nq).drawn + 1, os := (wr.drewN nq).os, output := (wr.drewN nq).output } : World).cell? ⟨g, k, none⟩ = some (.string t) := e0
        have f1 : ({ heap := wr.heap, tape := wr.tape, drawn := (wr.drewN nq).drawn + 1, os := (wr.drewN nq).os, output := (wr.drewN nq).output } : World).cell? ⟨B, 1, none⟩ = some (.string aid) := HM3.out.ed.a1
        go_still_tail 7, (by kernel_rfl)
        clear f0 f1
        change wpList _ _ _ _ _ ((wr.drewN nq).drewN 1)
        go_wp2_with (go_at_call 34; (with_reducible refine (radd_any _ y vp3 vm3 _ t aid HM4.out.rl (by have := HLN.out; omega)).mono ?_); rintro en w5 ⟨rfl, hc⟩; have HC := Lib.hid hc; clear hc)
        have hc := HC.out
        rw [HTB.out, ← HA1'.out] at hc
        have HN := Lib.hid (HNX.out w5 (RChange.drewN (n := nq + 1) hc))
        clear hc
        have hk1 := HK3.out
        go_roundg (gk - 1)
        case measure => omega
        case rel => exact ⟨k + 1, by omega, by go_num, HN.out⟩
      | false =>
        have HPK := Lib.hid hpk
        have HA1' : Hid (RS.addOne aother.data.toList aid.data.toList (r2.adds (r2.ms.take k) aother.data.toList aid.data.toList) mk = r2.adds (r2.ms.take k) aother.data.toList aid.data.toList) := Lib.hid (by unfold RS.addOne; rw [hpk, if_neg (by simp)])
        clear hpk
        go_wp2_with fail
        go_quiet ((go_at_call 32; exact Calls.quiet_of_same (pair_q wr _ y vp3 vm3 _ t aother false HM3.out.rl (by rw [HTB.out]; exact HPK.out))))
        have HN := Lib.hid (HNX.out (wr.drewN nq) (RChange.drewN (n := nq) (RChange.refl (by rw [HA1'.out]; exact HM3.out.rl.drewN nq))))
        go_wp2_with fail
        have hk1 := HK3.out
        go_roundg (gk - 1)
        case measure => omega
        case rel => exact ⟨k + 1, by omega, by go_num, HN.out⟩
    · have hki : decide ((k : Int) < (r2.ms.length : Int)) = false := by simp; omega
      have hki2 : decide (k < r2.ms.length) = false := by simp; omega
      have hln := adds_len aother.data.toList aid.data.toList (r2.ms.take k) r2
      have HLN : Hid ((r2.adds (r2.ms.take k) aother.data.toList aid.data.toList).ps.length ≤ 800004) := Lib.hid (by have := HL.out; rw [List.length_take] at hln; omega)
      clear hln
      have HKE : Hid (r2.ms.take k = r2.ms) := Lib.hid (List.take_of_length_le (by omega))
      go_wp2_with (go_at_call 35; (with_reducible refine (rdrop_any _ y vp3 vm3 _ aother HM3.out.rl (by have := HLN.out; omega)).mono ?_); rintro en w5 ⟨rfl, hc⟩; obtain ⟨vp4, vm4, hm⟩ := Mid.next HM3.out hc; have a04 := hm.ed.a0; have HM4 := Lib.hid hm; clear hc hm)
      have HFIN : Hid (RFollowPost w y vp vm 0 ((r2.adds r2.ms aother.data.toList aid.data.toList).drop aother.data.toList) (.returned (.int .i64 0)) w5) := Lib.hid ⟨rfl, by have := HB.out.done HM4.out.change; rw [HKE.out] at this; exact this⟩
      go_ret
      exact HFIN.out


end Go.Proofs.Ytkbjfmlfmmmknaa
