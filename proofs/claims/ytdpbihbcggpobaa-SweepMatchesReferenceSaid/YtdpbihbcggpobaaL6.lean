/- The walk of SweepParts. -/
import Derived.Test.YtdpbihbcggpobaaL4
namespace Go.Proofs.Ytdpbihbcggpobaa
open Go.RowKit Go.Maps

theorem parts_plain (l : List Sg) {n : Nat} (hn : n ≤ l.length) : allP (kindOf (l.take n)) (l.take n).length (l.take n).length = (allP (kindOf l) l.length l.length).filter (fun m => decide (m.2.1 < n)) := by
  have hl : (l.take n).length = n := by rw [List.length_take]; omega
  rw [hl]
  refine eq_of_mlt (allP_pair _ _ _) ((allP_pair _ _ _).filter _) fun m => ?_
  rw [List.mem_filter, mem_allP, mem_allP, decide_eq_true_iff]
  have hk : m.1 < n → m.2.1 < n → kindOf (l.take n) m.1 m.2.1 = kindOf l m.1 m.2.1 := fun h1 h2 => by
    rw [kind_at (by rw [hl]; exact h1) (by rw [hl]; exact h2), kind_at (by omega) (by omega), List.getElem_take, List.getElem_take]
  constructor
  · rintro ⟨h1, h2, h3, h4, h5⟩
    rw [hk h1 h3] at h4
    exact ⟨⟨by omega, h2, by omega, h4, h5⟩, h3⟩
  · rintro ⟨⟨h1, h2, h3, h4, h5⟩, h6⟩
    rw [← hk (by omega) h6] at h4
    exact ⟨by omega, h2, h6, h4, h5⟩

theorem elem22 : Try.prog.underlying 22 = some (.slice (Try.prog.elem 22)) := by kernel_rfl
theorem size22 (W : World) : (sizeOf (Try.prog.elem 22)).run Try.prog W = .ok 4 W := by kernel_rfl
theorem cut_segs {w : World} {p : Option Addr} {c n : Nat} {l : List Sg} (h : SegsAt w (.slice p l.length c) l) (hc : l.length ≤ c) (hn : n ≤ l.length) :
    ∃ u, (∀ W, (Instr.slice 22 (.slice p l.length c) none (some (.int .i64 n)) none).run Try.prog W = .ok u W) ∧ SegsAt w u (l.take n) := by
  have hl : (l.take n).length = n := by rw [List.length_take]; omega
  obtain ⟨p', c', e, h⟩ := h
  cases e
  rcases h with rfl | ⟨g, o, rfl, hg, hr⟩
  · refine ⟨_, fun W => by rw [run_slice_h (P := Try.prog) W 22 p _ c elem22 .i64 n (by omega) (by omega), size22]; rfl, ?_⟩
    exact ⟨_, _, by rw [hl]; rfl, .inl (by simp)⟩
  · refine ⟨.slice (some ⟨g, o, none⟩) n c, fun W => ?_, some ⟨g, o, none⟩, c, by rw [hl], .inr ⟨g, o, rfl, hg, fun i hi => ?_⟩⟩
    · rw [run_slice_h (P := Try.prog) W 22 _ _ c elem22 .i64 n (by omega) (by omega), size22]
      simp [Result.andThen, sliced, Addr.add]
    · rw [List.getElem_take]
      exact hr i (by rw [hl] at hi; omega)

theorem filt_next {q : Mt → Bool} {L : List Mt} {i : Nat} (h : i < L.length) : (L.take (i + 1)).filter q = (L.take i).filter q ++ (if q L[i] = true then [L[i]] else []) := by
  rw [List.take_add_one, List.getElem?_eq_getElem h, List.filter_append]
  by_cases h : q L[i] = true <;> simp [h]

set_option maxHeartbeats 8000000 in
theorem parts_walk (W : World) (v : Value) (l : List Sg) (R : Nat) (hv : SegsAt W v l) (hc : ∀ p n c, v = .slice p n c → l.length ≤ c) (hR : R < 256) : Calls Try.prog 6 #[v, .int .u8 R] W (Yes W) := by
  obtain ⟨p, c, rfl, hp⟩ := hv
  have hcap := hc _ _ _ rfl
  clear hc
  by_cases hn : l.length ≤ 40
  · have hcm : decide ((l.length : Int) > 40) = false := by simp; omega
    have hcm2 : decide ((40 : Int) < (l.length : Int)) = false := by simp; omega
    have HN := Lib.hid hn
    have hv' : SegsAt W (.slice p l.length c) l := ⟨p, c, rfl, hp⟩
    have hnm : R % (l.length + 1) ≤ l.length := Nat.le_of_lt_succ (Nat.mod_lt _ (by omega))
    have hem : (R : Int) % ((l.length : Int) + 1) = ((R % (l.length + 1) : Nat) : Int) := by simp
    have hz : decide ((l.length : Int) + 1 = 0) = false := by simp; omega
    have hz2 : ((l.length : Int) + 1 == 0) = false := by simp; omega
    have hz3 : ((l.length : Int) + 1 = 0) = False := by simp; omega
    have hln := hn
    obtain ⟨u, hu, hus⟩ := cut_segs hv' hcap hnm
    have hpl := parts_plain l hnm
    generalize hnn : R % (l.length + 1) = n at *
    have HV := Lib.hid hv'
    have HU := Lib.hid (And.intro hus hpl)
    have HNM := Lib.hid hnm
    clear hp hn hv' hus hpl hcap
    go_enter Try.func6, Try.ntmps6
    go_upto_region 4 with (first
      | (go_at_call 9; refine (head_any _).mono ?_; rintro en w1 ⟨rfl, hb⟩; have HB1 := Lib.hid hb; clear hb))
    go_upto_region 5 with fail
    rw [hem]
    clear hem hz hz2 hz3 hnn
    have HA1 : Hid (∀ w', Below W.heap.size W w' → Calls Try.prog 10 #[.slice p l.length c] w' (AllM l w')) := Lib.hid fun w' hb => all_m l _ _ (HV.out.below hb) (by have := HN.out; omega)
    have HA2 : Hid (∀ w', Below W.heap.size W w' → Calls Try.prog 10 #[u] w' (AllM (l.take n) w')) := Lib.hid fun w' hb => all_m (l.take n) _ _ (HU.out.1.below hb) (by rw [List.length_take]; have := HN.out; omega)
    go_upto_region 9 with (first
      | (go_at_call 10; (with_reducible refine (HA1.out _ HB1.out).mono ?_); rintro en w2 ⟨v2, rfl, hm, hb⟩; have HB2 := Lib.hid (HB1.out.trans (hb.mono HB1.out.size)); have HM := Lib.hid hm; clear hb hm)
      | (go_at_call 10; (with_reducible refine (HA2.out _ HB2.out).mono ?_); rintro en w3 ⟨v3, rfl, hm, hb⟩; have HM2 := Lib.hid (HM.out.below hb); have HB3 := Lib.hid (HB2.out.trans (hb.mono HB2.out.size)); have HM3 := Lib.hid hm; clear hb hm))
    have h3 := HM3.out
    rw [HU.out.2] at h3
    obtain ⟨q, d, rfl, hq⟩ := HM2.out
    have HQ := Lib.hid hq
    have HS := Lib.hid h3
    clear hq HM HM2 HM3 h3 hu
    have HLB : Hid ((allP (kindOf l) l.length l.length).length ≤ 1600) := Lib.hid (allP_small HN.out)
    generalize allP (kindOf l) l.length l.length = L at *
    go_loopg [11, 12] L.length (fun c' wv iv wr => ∃ i : Nat, i + c' = L.length ∧ iv = .int .i64 i ∧ wr.ownsRow w3.heap.size 36 3 wv ((L.take i).filter (fun m => decide (m.2.1 < n))).length (((L.take i).filter (fun m => decide (m.2.1 < n))).flatMap mtCells) ∧ Below w3.heap.size w3 wr)
    case atStart => exact ⟨0, by omega, rfl, World.ownsRow_nil _ _ _ _, Below.refl _ _⟩
    case round =>
      obtain ⟨i, hi, rfl, hown, hb⟩ := hrel
      have HB4 := Lib.hid hb
      have HI := Lib.hid hi
      have HO := Lib.hid hown
      have hlb := HLB.out
      by_cases hil : i < L.length
      · have hki : decide ((i : Int) < (L.length : Int)) = true := by simp; omega
        have HF := Lib.hid (filt_next (q := fun m : Mt => decide (m.2.1 < n)) hil)
        rcases HQ.out with hq | ⟨g1, rfl, hg1, hr1⟩
        · rw [hq] at hil; simp at hil
        have h3 := range_old (hr1 i hil) hg1 hb
        clear hr1 hb hi hown
        generalize L[i] = m at *
        obtain ⟨m1, m2, m3⟩ := m
        have c0 : wr.cell? ⟨g1, i * 3, none⟩ = some (.int .i64 (m1 : Int)) := h3 0 _ rfl
        have c1 : wr.cell? ⟨g1, i * 3 + 1, none⟩ = some (.int .i64 (m2 : Int)) := h3 1 _ rfl
        have c2 : wr.cell? ⟨g1, i * 3 + 2, none⟩ = some (.int .i64 m3) := h3 2 _ rfl
        clear h3
        by_cases hmn : m2 < n
        · have hd : decide ((m2 : Int) < (n : Int)) = true := by simp; omega
          have hd2 : decide (m2 < n) = true := decide_eq_true hmn
          have HF2 : Hid ((L.take (i + 1)).filter (fun m => decide (m.2.1 < n)) = (L.take i).filter (fun m => decide (m.2.1 < n)) ++ [(m1, m2, m3)]) := Lib.hid (by rw [HF.out, if_pos (by simpa using hmn)])
          have HFL : Hid (((L.take i).filter (fun m => decide (m.2.1 < n))).length ≤ 1000000000) := Lib.hid (by have := List.length_filter_le (fun m : Mt => decide (m.2.1 < n)) (L.take i); rw [List.length_take] at this; omega)
          clear HF
          generalize (L.take i).filter (fun m => decide (m.2.1 < n)) = F at *
          have HBS := Lib.hid HB4.out.size
          go_wp2_with (at_builtin; refine wpList_append_mt _ rfl (.tmp 49) (.tmp 54) rfl w3.heap.size u11 F (m1, m2, m3) wr.heap.size 1 rfl rfl (hv_below HO.out (below_new wr _)) (mt_range wr (m1, m2, m3)) HFL.out (Nat.le_trans HBS.out (by simp)) ?_; intro v5 w5 hown hg he; have hb5 := (HB4.out.trans ((below_new wr (.cells (mtCells (m1, m2, m3)).toArray 36)).mono HBS.out)).grown hg (Nat.le_trans HBS.out (by simp)) (fun b e => (own_at HO.out b e).1); have HB5 := Lib.hid hb5; have HO5 := Lib.hid hown; clear hown hg he hb5)
          have hi1 := HI.out
          go_roundg (gk - 1)
          case measure => omega
          case rel => exact ⟨i + 1, by omega, by congr 1, by rw [HF2.out]; exact HO5.out, HB5.out⟩
        · have hd : decide ((m2 : Int) < (n : Int)) = false := by simp; omega
          have hd2 : decide (m2 < n) = false := decide_eq_false hmn
          have HF2 : Hid ((L.take (i + 1)).filter (fun m => decide (m.2.1 < n)) = (L.take i).filter (fun m => decide (m.2.1 < n))) := Lib.hid (by rw [HF.out, if_neg (by simpa using hmn), List.append_nil])
          clear HF
          go_wp2_with fail
          have hi1 := HI.out
          go_roundg (gk - 1)
          case measure => omega
          case rel => exact ⟨i + 1, by omega, by congr 1, by rw [HF2.out]; exact HO.out, HB4.out⟩
      · have hki : decide ((i : Int) < (L.length : Int)) = false := by simp; omega
        rw [List.take_of_length_le (by omega)] at hown
        have HM := Lib.hid (MsAt.own hown)
        have HS4 := Lib.hid (HS.out.below hb)
        have HFL : Hid ((L.filter (fun m => decide (m.2.1 < n))).length ≤ 1000000000) := Lib.hid (by have := List.length_filter_le (fun m : Mt => decide (m.2.1 < n)) L; omega)
        have HSM := Lib.hid (same_yes _ v3 u11 wr HS4.out HM.out HFL.out)
        clear hb hi hown
        go_wp2_with (first | (go_at_call 12; (with_reducible refine HSM.out.mono ?_); rintro en w6 ⟨rfl, hb⟩; have HB6 := Lib.hid (HB4.out.trans (hb.mono HB4.out.size)); clear hb))
        go_ret
        exact ⟨rfl, HB3.out.trans (HB6.out.mono HB3.out.size)⟩
  · have hcm : decide ((l.length : Int) > 40) = true := by simp; omega
    have hcm2 : decide ((40 : Int) < (l.length : Int)) = true := by simp; omega
    clear hp
    go_enter Try.func6, Try.ntmps6
    go_wp2_with (go_at_call 9; refine (head_any _).mono ?_; rintro en w1 ⟨rfl, hb⟩; have HB1 := Lib.hid hb; clear hb)
    go_ret
    exact ⟨rfl, HB1.out⟩

end Go.Proofs.Ytdpbihbcggpobaa
