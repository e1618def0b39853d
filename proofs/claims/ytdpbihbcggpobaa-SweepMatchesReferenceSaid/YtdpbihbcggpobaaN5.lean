/- The walk of the reference's Meets: two that are near and not the same. -/
import Derived.Test.YtdpbihbcggpobaaQb
import Derived.Test.YtdpbihbcggpobaaL3
namespace Go.Proofs.Ytdpbihbcggpobaa
open Go.RowKit Go.Maps

theorem mem_snoc {C : List Pt} {k : Nat} (h : k < C.length) (p : Pt) : decide (p ∈ C.take (k + 1)) = (decide (p ∈ C.take k) || ptEq C[k].1 C[k].2 p.1 p.2) := by
  rw [ptEq_dec, List.take_add_one, List.getElem?_eq_getElem h, Bool.eq_iff_iff]
  simp only [Option.toList_some, List.mem_append, List.mem_singleton, Bool.or_eq_true, decide_eq_true_iff]
  constructor
  · rintro (h | h)
    · exact .inl h
    · exact .inr h.symm
  · rintro (h | h)
    · exact .inl h
    · exact .inr h.symm

theorem ten {w wx : World} {B X o : Nat} {s t : Sg} {p : Pt} (h : SS w wx B s t) (k : wx.rangeAt X o (ptC p)) :
    wx.cell? ⟨B, 0, none⟩ = some (.int .i64 s.1.1) ∧ wx.cell? ⟨B, 1, none⟩ = some (.int .i64 s.1.2) ∧ wx.cell? ⟨B, 2, none⟩ = some (.int .i64 s.2.1) ∧ wx.cell? ⟨B, 3, none⟩ = some (.int .i64 s.2.2) ∧ wx.cell? ⟨B + 1, 0, none⟩ = some (.int .i64 t.1.1) ∧ wx.cell? ⟨B + 1, 1, none⟩ = some (.int .i64 t.1.2) ∧ wx.cell? ⟨B + 1, 2, none⟩ = some (.int .i64 t.2.1) ∧ wx.cell? ⟨B + 1, 3, none⟩ = some (.int .i64 t.2.2) ∧ wx.cell? ⟨X, o, none⟩ = some (.int .i64 p.1) ∧ wx.cell? ⟨X, o + 1, none⟩ = some (.int .i64 p.2) :=
  ⟨h.s.c 0 rfl, h.s.c 1 rfl, h.s.c 2 rfl, h.s.c 3 rfl, h.t.c 0 rfl, h.t.c 1 rfl, h.t.c 2 rfl, h.t.c 3 rfl, k 0 _ rfl, k 1 _ rfl⟩

theorem eight_of {w wx : World} {B : Nat} {s t : Sg} (h : SS w wx B s t) :
    wx.cell? ⟨B, 0, none⟩ = some (.int .i64 s.1.1) ∧ wx.cell? ⟨B, 1, none⟩ = some (.int .i64 s.1.2) ∧ wx.cell? ⟨B, 2, none⟩ = some (.int .i64 s.2.1) ∧ wx.cell? ⟨B, 3, none⟩ = some (.int .i64 s.2.2) ∧ wx.cell? ⟨B + 1, 0, none⟩ = some (.int .i64 t.1.1) ∧ wx.cell? ⟨B + 1, 1, none⟩ = some (.int .i64 t.1.2) ∧ wx.cell? ⟨B + 1, 2, none⟩ = some (.int .i64 t.2.1) ∧ wx.cell? ⟨B + 1, 3, none⟩ = some (.int .i64 t.2.2) :=
  ⟨h.s.c 0 rfl, h.s.c 1 rfl, h.s.c 2 rfl, h.s.c 3 rfl, h.t.c 0 rfl, h.t.c 1 rfl, h.t.c 2 rfl, h.t.c 3 rfl⟩
theorem ret_of {w w' : World} {a b : Int} (h : a = b) (hb : Below w.heap.size w w') : IntB b w (.returned (.int .i64 a)) w' := ⟨by rw [h], hb⟩
theorem prod_bd {a b : Int} (ha : -1 ≤ a ∧ a ≤ 1) (hb : -1 ≤ b ∧ b ≤ 1) : -1 ≤ a * b ∧ a * b ≤ 1 := by
  have h1 : a = -1 ∨ a = 0 ∨ a = 1 := by omega
  have h2 : b = -1 ∨ b = 0 ∨ b = 1 := by omega
  rcases h1 with rfl | rfl | rfl <;> rcases h2 with rfl | rfl | rfl <;> decide
theorem ori_bd (a b c : Pt) : -1 ≤ ori a b c ∧ ori a b c ≤ 1 := by
  unfold ori
  split
  · rcases cmpI_cases (crossP a b c) 0 with ⟨_, h⟩ | ⟨_, h⟩ | ⟨_, h⟩ <;> rw [h] <;> omega
  · omega

set_option maxHeartbeats 16000000 in
set_option maxRecDepth 100000 in
theorem rmeets_other (s t : Sg) (w : World) (ns : nearS s = true) (nt : nearS t = true) (h : ¬ (s = t ∨ (s.1 = t.2 ∧ s.2 = t.1))) : Calls Try.prog 28 #[sg s, sg t] w (IntB (kindR1 s t (commonR s t)) w) := by
  have heq := eql32
  have heq4 := eql34
  have hg := guard32
  have hg4 := guard34
  have hq0 : sgEq s.1.1 s.1.2 s.2.1 s.2.2 t.1.1 t.1.2 t.2.1 t.2.2 = false := by rw [sgEq_dec]; exact decide_eq_false (fun e => h (.inl e))
  have hq : ptEq s.1.1 s.1.2 t.2.1 t.2.2 = true → ptEq s.2.1 s.2.2 t.1.1 t.1.2 = false := fun e => by
    rw [ptEq_dec, decide_eq_true_iff] at e
    rw [ptEq_dec, decide_eq_false_iff_not]
    exact fun e2 => h (.inr ⟨e, e2⟩)
  have HQ := Lib.hid hq
  have HQ0 := Lib.hid hq0
  clear h hq hq0
  have hn := ss_new w s t
  have hs := seg_any s
  have ht := seg_any t
  rw [ns] at hs
  rw [nt] at ht
  clear ns nt
  have HEL : Hid ((endsR s t).length = 4) := Lib.hid rfl
  have HLIT : Hid (∀ W : World, PtL (W.alloc (.cells #[.int .i64 s.1.1, .int .i64 s.1.2, .int .i64 s.2.1, .int .i64 s.2.2, .int .i64 t.1.1, .int .i64 t.1.2, .int .i64 t.2.1, .int .i64 t.2.2] 32)) (.slice (some ⟨W.heap.size, 0, none⟩) 4 4) (endsR s t)) := Lib.hid (fun W => PtL.lit W (endsR s t) (Nat.zero_lt_succ _))
  have HON1 := Lib.hid (fun p W => ron_any s p W)
  have HON2 := Lib.hid (fun p W => ron_any t p W)
  have HEN1 := Lib.hid (fun p W => end_any s p W)
  have HEN2 := Lib.hid (fun p W => end_any t p W)
  have HO1 := Lib.hid (fun W => rorient_any s.1 s.2 t.1 W)
  have HO2 := Lib.hid (fun W => rorient_any s.1 s.2 t.2 W)
  have HO3 := Lib.hid (fun W => rorient_any t.1 t.2 s.1 W)
  have HO4 := Lib.hid (fun W => rorient_any t.1 t.2 s.2 W)
  have HOB : Hid ((-1 ≤ ori s.1 s.2 t.1 ∧ ori s.1 s.2 t.1 ≤ 1) ∧ (-1 ≤ ori s.1 s.2 t.2 ∧ ori s.1 s.2 t.2 ≤ 1) ∧ (-1 ≤ ori t.1 t.2 s.1 ∧ ori t.1 t.2 s.1 ≤ 1) ∧ (-1 ≤ ori t.1 t.2 s.2 ∧ ori t.1 t.2 s.2 ≤ 1)) := Lib.hid ⟨ori_bd _ _ _, ori_bd _ _ _, ori_bd _ _ _, ori_bd _ _ _⟩
  have HK0 : Hid (kindR1 s t [] = if ori s.1 s.2 t.1 * ori s.1 s.2 t.2 < 0 ∧ ori t.1 t.2 s.1 * ori t.1 t.2 s.2 < 0 then 3 else 0) := Lib.hid rfl
  have HK1 : Hid (∀ p, kindR1 s t [p] = if (endR s p && endR t p) = true then 1 else 2) := Lib.hid (fun _ => rfl)
  have HK2 : Hid (∀ p q l, kindR1 s t (p :: q :: l) = 5) := Lib.hid (fun _ _ _ => rfl)
  have HC0 : Hid (comm s t 0 = []) := Lib.hid rfl
  have HC4 : Hid (comm s t 4 = commonR s t) := Lib.hid rfl
  have HCS : Hid (∀ i (h : i < (endsR s t).length), comm s t (i + 1) = if (!decide ((endsR s t)[i] ∈ comm s t i) && onR s (endsR s t)[i] && onR t (endsR s t)[i]) = true then comm s t i ++ [(endsR s t)[i]] else comm s t i) := Lib.hid (fun i h => comm_step s t h)
  have HCL : Hid (∀ i, (comm s t i).length ≤ i) := Lib.hid (comm_len s t)
  generalize comm s t = cm at *
  generalize endsR s t = E at *
  generalize commonR s t = CR at *
  generalize kindR1 s t = kf at *
  generalize onR s = fs at *
  generalize onR t = ft at *
  generalize endR s = es at *
  generalize endR t = et at *
  generalize ori s.1 s.2 t.1 = o1 at *
  generalize ori s.1 s.2 t.2 = o2 at *
  generalize ori t.1 t.2 s.1 = o3 at *
  generalize ori t.1 t.2 s.2 = o4 at *
  obtain ⟨⟨sax, say⟩, ⟨sbx, sby⟩⟩ := s
  obtain ⟨⟨tax, tay⟩, ⟨tbx, tby⟩⟩ := t
  unfold sg pt BoolB IntB at *
  dsimp only at *
  have HN := Lib.hid hn
  have HS := Lib.hid hs
  have HT := Lib.hid ht
  clear hn hs ht
  go_enter Try.func28, Try.ntmps28
  go_upto_region 1 with fail
  have h2 := HN.out
  generalize World.alloc (World.alloc w _) _ = w2 at *
  have c0 := h2.s.c 0 rfl; have c1 := h2.s.c 1 rfl; have c2 := h2.s.c 2 rfl; have c3 := h2.s.c 3 rfl
  have H2 := Lib.hid h2
  clear h2
  go_upto_region 3 with (first
    | (go_at_call 16; (with_reducible refine (HS.out _).mono ?_); rintro en w4 ⟨rfl, hb⟩; have h4 := H2.out.below hb; have d0 := h4.t.c 0 rfl; have d1 := h4.t.c 1 rfl; have d2 := h4.t.c 2 rfl; have d3 := h4.t.c 3 rfl; have H4 := Lib.hid h4; clear hb h4)
    | (go_at_call 16; (with_reducible refine (HT.out _).mono ?_); rintro en w5 ⟨rfl, hb⟩; have h5 := H4.out.below hb; have e0 := h5.s.c 0 rfl; have e1 := h5.s.c 1 rfl; have e2 := h5.s.c 2 rfl; have e3 := h5.s.c 3 rfl; have f0 := h5.t.c 0 rfl; have f1 := h5.t.c 1 rfl; have f2 := h5.t.c 2 rfl; have f3 := h5.t.c 3 rfl; have H5 := Lib.hid h5; clear hb h5))
  clear c0 c1 c2 c3 d0 d1 d2 d3
  go_cut [34] (fun s34 wx => s34 = .bool false ∧ wx = w5)
  case first =>
    have q0 := HQ0.out
    cases q1 : ptEq sax say tbx tby with
    | true =>
      have q2 := HQ.out q1
      go_wp2_with fail
      go_meet
      exact ⟨rfl, rfl⟩
    | false =>
      go_wp2_with fail
      go_meet
      exact ⟨rfl, rfl⟩
  case rest =>
    obtain ⟨rfl, rfl⟩ := hcut
    go_upto_region 6 with fail
    have hss := H5.out.below (below_new wc (.cells #[.int .i64 sax, .int .i64 say, .int .i64 sbx, .int .i64 sby, .int .i64 tax, .int .i64 tay, .int .i64 tbx, .int .i64 tby] 32))
    have hpl := HLIT.out wc
    have hX : wc.heap.size < (wc.alloc (.cells #[.int .i64 sax, .int .i64 say, .int .i64 sbx, .int .i64 sby, .int .i64 tax, .int .i64 tay, .int .i64 tbx, .int .i64 tby] 32)).heap.size := by simp
    generalize wc.alloc (.cells #[.int .i64 sax, .int .i64 say, .int .i64 sbx, .int .i64 sby, .int .i64 tax, .int .i64 tay, .int .i64 tbx, .int .i64 tby] 32) = W1 at *
    generalize wc.heap.size = X at *
    have her : ∀ i (h : i < E.length), W1.rangeAt X (i * 2) (ptC E[i]) := by
      obtain ⟨p, c, hp, hcase⟩ := hpl
      simp only [Value.slice.injEq] at hp
      obtain ⟨hp, _, _⟩ := hp
      subst hp
      rcases hcase with hcase | ⟨g, hg, _, hr⟩
      · have := HEL.out; rw [hcase] at this; cases this
      · cases hg; exact hr
    have HSS := Lib.hid hss
    have HER := Lib.hid her
    have HX := Lib.hid hX
    clear hss hpl hX her e0 e1 e2 e3 f0 f1 f2 f3 H5 H4 H2 HN HLIT HQ HQ0 HS HT
    clear heq4 hg4
    go_upto_region 8 with fail
    go_loopg [6, 7] 4 (fun c' cv iv wr => ∃ i : Nat, i + c' = 4 ∧ iv = .int .i64 i ∧ wr.ownsRow W1.heap.size 32 2 cv (cm i).length ((cm i).flatMap ptC) ∧ Below W1.heap.size W1 wr)
    case atStart => exact ⟨0, by omega, rfl, by rw [HC0.out]; exact World.ownsRow_nil _ _ _ _, Below.refl _ _⟩
    case round =>
      obtain ⟨i, hi, rfl, hown, hb⟩ := hrel
      have HI := Lib.hid hi
      have HO := Lib.hid hown
      have HB := Lib.hid hb
      clear hi hown hb
      obtain ⟨q, cq, rfl, hcase⟩ := PtL.own HO.out
      have HCASE := Lib.hid hcase
      clear hcase
      by_cases hil : i < 4
      · have hki : decide ((i : Int) < 4) = true := by simp; omega
        have hiE : i < E.length := by rw [HEL.out]; exact hil
        have HSTEP := Lib.hid (HCS.out i hiE)
        have HRE := Lib.hid (range_old (HER.out i hiE) HX.out HB.out)
        have HLC := Lib.hid (HCL.out i)
        generalize E[i] = p at *
        generalize hC : cm i = C at *
        have HCC := Lib.hid hC
        clear hC hiE
        go_upto_region 12 with fail
        go_loopg [8, 9] C.length (fun c' bv kv wx => ∃ k : Nat, k + c' = C.length ∧ kv = .int .i64 k ∧ bv = .bool (decide (p ∈ C.take k)) ∧ Below wr.heap.size wr wx)
        case atStart => exact ⟨0, by omega, rfl, by simp, Below.refl _ _⟩
        case round =>
          obtain ⟨k, hk, rfl, rfl, hb⟩ := hrel
          have HKK := Lib.hid hk
          have HB2 := Lib.hid hb
          clear hk hb
          by_cases hkl : k < C.length
          · have hkk : decide ((k : Int) < (C.length : Int)) = true := by simp; omega
            have HMS := Lib.hid (mem_snoc hkl p)
            have hk1 := HKK.out
            have hlc := HLC.out
            cases hbk : decide (p ∈ C.take k) with
            | true =>
              have HM2 : Hid (decide (p ∈ C.take (k + 1)) = true) := Lib.hid (by rw [HMS.out, hbk]; rfl)
              clear hbk
              go_upto_region 14 with fail
              go_quiet (fail)
              go_wp2_with fail
              go_roundg (gk - 1)
              case measure => omega
              case rel => exact ⟨k + 1, by omega, by congr 1, by rw [HM2.out], HB2.out.trans ((below_drewN _ _).mono HB2.out.size)⟩
            | false =>
              have hms := HMS.out
              rw [hbk, Bool.false_or] at hms
              have HM2 := Lib.hid hms
              rcases HCASE.out with h0 | ⟨g, rfl, hg, hr⟩
              · rw [h0] at hkl; cases hkl
              have hcells := four_pt (range_old (hr k hkl) hg HB2.out) (range_old HRE.out (Nat.lt_of_lt_of_le HX.out HB.out.size) HB2.out)
              clear hbk hms hr hg HMS
              generalize C[k] = cp at *
              obtain ⟨cx, cy⟩ := cp
              obtain ⟨px, py⟩ := p
              obtain ⟨a0, a1, a2, a3⟩ := hcells
              dsimp only at *
              go_upto_region 14 with fail
              go_quiet (fail)
              go_wp2_with fail
              go_roundg (gk - 1)
              case measure => omega
              case rel => exact ⟨k + 1, by omega, by congr 1, by rw [HM2.out], HB2.out.trans ((below_drewN _ _).mono HB2.out.size)⟩
          · have hkk : decide ((k : Int) < (C.length : Int)) = false := by simp; omega
            rw [List.take_of_length_le (by omega)]
            have HB3 := Lib.hid (HB.out.trans (HB2.out.mono HB.out.size))
            have HO3 := Lib.hid (hv_below HO.out HB2.out)
            have HRE3 := Lib.hid (range_old HRE.out (Nat.lt_of_lt_of_le HX.out HB.out.size) HB2.out)
            have HSS3 := Lib.hid (HSS.out.below HB3.out)
            have hi1 := HI.out
            have hi0 : (0 : Int) ≤ (i : Int) := by omega
            have hi4 : (i : Int) < 4 := by omega
            clear HKK HB2 HO HB HRE HCASE
            cases hbk : decide (p ∈ C) with
            | true =>
              have HS2 : Hid (cm (i + 1) = C) := Lib.hid (by rw [HSTEP.out, hbk]; simp)
              clear hbk
              go_upto_region 15 with fail
              go_quiet (fail)
              go_wp2_with fail
              go_roundg (4 - (i + 1))
              case measure => omega
              case rel => exact ⟨i + 1, by omega, by congr 1, by rw [HS2.out]; exact hv_below HO3.out (below_drewN _ _), HB3.out.trans ((below_drewN _ _).mono HB3.out.size)⟩
            | false =>
              obtain ⟨px, py⟩ := p
              have HF1 := Lib.hid (HON1.out (px, py))
              have HF2 := Lib.hid (HON2.out (px, py))
              dsimp only at HF1 HF2
              have hstep := HSTEP.out
              rw [hbk] at hstep
              go_upto_region 15 with fail
              obtain ⟨t0, t1, t2, t3, t4, t5, t6, t7, t8, t9⟩ := ten HSS3.out HRE3.out
              replace t0 := cell_of t0; replace t1 := cell_of t1; replace t2 := cell_of t2; replace t3 := cell_of t3; replace t4 := cell_of t4; replace t5 := cell_of t5; replace t6 := cell_of t6; replace t7 := cell_of t7; replace t8 := cell_of t8; replace t9 := cell_of t9
              have hself : ∀ p : BelowOf wr, (∃ r : BelowOf wr, p.w' = r.w') = True := fun p => eq_true ⟨p, rfl⟩
              cases hf : fs (px, py) with
              | false =>
                have HS2 : Hid (cm (i + 1) = C) := Lib.hid (by rw [hstep, hf]; simp)
                rw [hf] at HF1
                clear hbk hf hstep
                refine wp_region_below (by kernel_rfl) (by kernel_rfl) ?_
                repeat (go_big_quiet_step (first | (with_reducible exact below_of (HF1.out _)) | (with_reducible exact below_of (HF2.out _))))
                refine wpQuiet_nil ?_
                intro w6 hw6
                have hq : Below wr.heap.size wr w6 := (by obtain ⟨r, rfl⟩ := hw6; exact r.h)
                clear hw6
                have HB6 := Lib.hid (HB3.out.trans (hq.mono HB3.out.size))
                have HO6 := Lib.hid (hv_below HO3.out hq)
                clear hq hself t0 t1 t2 t3 t4 t5 t6 t7 t8 t9
                go_wp2_with fail
                go_roundg (4 - (i + 1))
                case measure => omega
                case rel => exact ⟨i + 1, by omega, by congr 1, by rw [HS2.out]; exact HO6.out, HB6.out⟩
              | true =>
                cases hg2 : ft (px, py) with
                | false =>
                  have HS2 : Hid (cm (i + 1) = C) := Lib.hid (by rw [hstep, hf, hg2]; simp)
                  rw [hf] at HF1
                  rw [hg2] at HF2
                  clear hbk hf hg2 hstep
                  refine wp_region_below (by kernel_rfl) (by kernel_rfl) ?_
                  repeat (go_big_quiet_step (first | (with_reducible exact below_of (HF1.out _)) | (with_reducible exact below_of (HF2.out _))))
                  refine wpQuiet_nil ?_
                  intro w6 hw6
                  have hq : Below wr.heap.size wr w6 := (by obtain ⟨r, rfl⟩ := hw6; exact r.h)
                  clear hw6
                  have HB6 := Lib.hid (HB3.out.trans (hq.mono HB3.out.size))
                  have HO6 := Lib.hid (hv_below HO3.out hq)
                  clear hq hself t0 t1 t2 t3 t4 t5 t6 t7 t8 t9
                  go_wp2_with fail
                  go_roundg (4 - (i + 1))
                  case measure => omega
                  case rel => exact ⟨i + 1, by omega, by congr 1, by rw [HS2.out]; exact HO6.out, HB6.out⟩
                | true =>
                  have HS2 : Hid (cm (i + 1) = C ++ [(px, py)]) := Lib.hid (by rw [hstep, hf, hg2]; simp)
                  rw [hf] at HF1
                  rw [hg2] at HF2
                  clear hbk hf hg2 hstep
                  refine wp_region_below (by kernel_rfl) (by kernel_rfl) ?_
                  repeat (go_big_quiet_step (first | (with_reducible exact below_of (HF1.out _)) | (with_reducible exact below_of (HF2.out _))))
                  refine wpQuiet_nil ?_
                  intro w6 hw6
                  have hq : Below wr.heap.size wr w6 := (by obtain ⟨r, rfl⟩ := hw6; exact r.h)
                  clear hw6
                  have HB6 := Lib.hid (HB3.out.trans (hq.mono HB3.out.size))
                  have HO6 := Lib.hid (hv_below HO3.out hq)
                  have hcx := t8 ⟨w6, hq⟩
                  have hcy := t9 ⟨w6, hq⟩
                  dsimp only at hcx hcy
                  clear hq hself t0 t1 t2 t3 t4 t5 t6 t7 t8 t9
                  have hlc := HLC.out
                  have HS6 := Lib.hid HB6.out.size
                  go_wp2_with (at_builtin; refine wpList_append_pt _ rfl (.tmp 84) (.tmp 89) rfl W1.heap.size (.slice q C.length cq) C (px, py) w6.heap.size 1 rfl rfl (hv_below HO6.out (below_new w6 _)) (pt_range w6 (px, py)) (by omega) (Nat.le_trans HS6.out (by simp)) ?_; intro v7 w7 hown hg he; have hb7 := (HB6.out.trans ((below_new w6 (.cells (ptC (px, py)).toArray 32)).mono HS6.out)).grown hg (Nat.le_trans HS6.out (by simp)) (fun b e => (own_at HO6.out b e).1); have HB7 := Lib.hid hb7; have HO7 := Lib.hid hown; clear hown hg he hb7)
                  go_roundg (4 - (i + 1))
                  case measure => omega
                  case rel => exact ⟨i + 1, by omega, by congr 1, by rw [HS2.out]; exact HO7.out, HB7.out⟩
      · have hki : decide ((i : Int) < 4) = false := by simp; omega
        have hi1 := HI.out
        obtain rfl : i = 4 := by omega
        rw [HC4.out] at HO HCASE ⊢
        have HSS3 := Lib.hid (HSS.out.below HB.out)
        have hself : ∀ p : BelowOf wr, (∃ r : BelowOf wr, p.w' = r.w') = True := fun p => eq_true ⟨p, rfl⟩
        clear hi1 HI HC0 HC4 HCS HCL HEL HER HX HON1 HON2 hil
        by_cases hlen : 1 < CR.length
        · have HV : Hid ((5 : Int) = kf CR) := Lib.hid (by
            cases CR with
            | nil => cases hlen
            | cons p l => cases l with
              | nil => exact absurd hlen (by simp)
              | cons p2 l => rw [HK2.out])
          have hl : decide ((CR.length : Int) > 1) = true := by simp; omega
          have hl2 : decide ((1 : Int) < (CR.length : Int)) = true := by simp; omega
          have HFIN := Lib.hid (ret_of HV.out HSS3.out.b)
          clear HCASE hself
          go_wp2_with fail
          go_ret
          exact HFIN.out
        · have HLEN := Lib.hid hlen
          clear hlen
          cases CR with
          | nil =>
            obtain ⟨t0, t1, t2, t3, t4, t5, t6, t7⟩ := eight_of HSS3.out
            replace t0 := cell_of t0; replace t1 := cell_of t1; replace t2 := cell_of t2; replace t3 := cell_of t3; replace t4 := cell_of t4; replace t5 := cell_of t5; replace t6 := cell_of t6; replace t7 := cell_of t7
            obtain ⟨b1, b2, b3, b4⟩ := HOB.out
            obtain ⟨p1, p2⟩ := prod_bd b1 b2
            obtain ⟨p3, p4⟩ := prod_bd b3 b4
            have hw1 : IntKind.i64.wrap (o1 * o2) = o1 * o2 := IntWalk.i64_in _ (by omega)
            have hw2 : IntKind.i64.wrap (o3 * o4) = o3 * o4 := IntWalk.i64_in _ (by omega)
            clear b1 b2 b3 b4
            by_cases y1 : o1 * o2 < 0
            · have z1 : decide (o1 * o2 < 0) = true := decide_eq_true y1
              by_cases y2 : o3 * o4 < 0
              · have z2 : decide (o3 * o4 < 0) = true := decide_eq_true y2
                have HV : Hid ((3 : Int) = kf []) := Lib.hid (by rw [HK0.out, if_pos ⟨y1, y2⟩])
                go_upto_region 23 with fail
                refine wp_region_below (by kernel_rfl) (by kernel_rfl) ?_
                repeat (go_big_quiet_step (first | (with_reducible exact below_of (HO1.out _)) | (with_reducible exact below_of (HO2.out _)) | (with_reducible exact below_of (HO3.out _)) | (with_reducible exact below_of (HO4.out _))))
                refine wpQuiet_nil ?_
                intro w6 hw6
                have hq : Below wr.heap.size wr w6 := (by obtain ⟨r, rfl⟩ := hw6; exact r.h)
                clear hw6
                have HB6 := Lib.hid (HSS3.out.b.trans (hq.mono HSS3.out.b.size))
                clear hq hself
                clear t0 t1 t2 t3 t4 t5 t6 t7
                have hfin := ret_of HV.out HB6.out
                have HFIN := Lib.hid hfin
                clear hfin
                go_wp2_with fail
                go_ret
                exact HFIN.out
              · have z2 : decide (o3 * o4 < 0) = false := decide_eq_false y2
                have HV : Hid ((0 : Int) = kf []) := Lib.hid (by rw [HK0.out, if_neg (fun h => y2 h.2)])
                go_upto_region 23 with fail
                refine wp_region_below (by kernel_rfl) (by kernel_rfl) ?_
                repeat (go_big_quiet_step (first | (with_reducible exact below_of (HO1.out _)) | (with_reducible exact below_of (HO2.out _)) | (with_reducible exact below_of (HO3.out _)) | (with_reducible exact below_of (HO4.out _))))
                refine wpQuiet_nil ?_
                intro w6 hw6
                have hq : Below wr.heap.size wr w6 := (by obtain ⟨r, rfl⟩ := hw6; exact r.h)
                clear hw6
                have HB6 := Lib.hid (HSS3.out.b.trans (hq.mono HSS3.out.b.size))
                clear hq hself
                clear t0 t1 t2 t3 t4 t5 t6 t7
                have hfin := ret_of HV.out HB6.out
                have HFIN := Lib.hid hfin
                clear hfin
                go_wp2_with fail
                go_ret
                exact HFIN.out
            · have z1 : decide (o1 * o2 < 0) = false := decide_eq_false y1
              have HV : Hid ((0 : Int) = kf []) := Lib.hid (by rw [HK0.out, if_neg (fun h => y1 h.1)])
              go_upto_region 23 with fail
              refine wp_region_below (by kernel_rfl) (by kernel_rfl) ?_
              repeat (go_big_quiet_step (first | (with_reducible exact below_of (HO1.out _)) | (with_reducible exact below_of (HO2.out _)) | (with_reducible exact below_of (HO3.out _)) | (with_reducible exact below_of (HO4.out _))))
              refine wpQuiet_nil ?_
              intro w6 hw6
              have hq : Below wr.heap.size wr w6 := (by obtain ⟨r, rfl⟩ := hw6; exact r.h)
              clear hw6
              have HB6 := Lib.hid (HSS3.out.b.trans (hq.mono HSS3.out.b.size))
              clear hq hself
              clear t0 t1 t2 t3 t4 t5 t6 t7
              have hfin := ret_of HV.out HB6.out
              have HFIN := Lib.hid hfin
              clear hfin
              go_wp2_with fail
              go_ret
              exact HFIN.out
          | cons p l =>
            cases l with
            | nil =>
              obtain ⟨t0, t1, t2, t3, t4, t5, t6, t7⟩ := eight_of HSS3.out
              replace t0 := cell_of t0; replace t1 := cell_of t1; replace t2 := cell_of t2; replace t3 := cell_of t3; replace t4 := cell_of t4; replace t5 := cell_of t5; replace t6 := cell_of t6; replace t7 := cell_of t7
              rcases HCASE.out with h0 | ⟨g, rfl, hg1, hr⟩
              · cases h0
              have hp0 := hr 0 (Nat.zero_lt_succ _) 0 _ rfl
              have hp1 := hr 0 (Nat.zero_lt_succ _) 1 _ rfl
              clear hr hg1
              obtain ⟨px, py⟩ := p
              have HF1 := Lib.hid (HEN1.out (px, py))
              have HF2 := Lib.hid (HEN2.out (px, py))
              have hk1 := HK1.out (px, py)
              dsimp only [List.getElem_cons_zero, Nat.zero_mul, Nat.zero_add] at HF1 HF2 hp0 hp1
              replace hp0 := cell_of hp0
              replace hp1 := cell_of hp1
              clear HEN1 HEN2
              cases q1 : es (px, py) with
              | false =>
                have HV : Hid ((2 : Int) = kf [(px, py)]) := Lib.hid (by rw [hk1, q1]; rfl)
                rw [q1] at HF1
                clear q1 hk1
                go_upto_region 20 with fail
                refine wp_region_below (by kernel_rfl) (by kernel_rfl) ?_
                repeat (go_big_quiet_step (first | (with_reducible exact below_of (HF1.out _)) | (with_reducible exact below_of (HF2.out _))))
                refine wpQuiet_nil ?_
                intro w6 hw6
                have hq : Below wr.heap.size wr w6 := (by obtain ⟨r, rfl⟩ := hw6; exact r.h)
                clear hw6
                have HB6 := Lib.hid (HSS3.out.b.trans (hq.mono HSS3.out.b.size))
                clear hq hself
                clear t0 t1 t2 t3 t4 t5 t6 t7 hp0 hp1
                have hfin := ret_of HV.out HB6.out
                have HFIN := Lib.hid hfin
                clear hfin
                go_wp2_with fail
                go_ret
                exact HFIN.out
              | true =>
                cases q2 : et (px, py) with
                | false =>
                  have HV : Hid ((2 : Int) = kf [(px, py)]) := Lib.hid (by rw [hk1, q1, q2]; rfl)
                  rw [q1] at HF1
                  rw [q2] at HF2
                  clear q1 q2 hk1
                  go_upto_region 20 with fail
                  refine wp_region_below (by kernel_rfl) (by kernel_rfl) ?_
                  repeat (go_big_quiet_step (first | (with_reducible exact below_of (HF1.out _)) | (with_reducible exact below_of (HF2.out _))))
                  refine wpQuiet_nil ?_
                  intro w6 hw6
                  have hq : Below wr.heap.size wr w6 := (by obtain ⟨r, rfl⟩ := hw6; exact r.h)
                  clear hw6
                  have HB6 := Lib.hid (HSS3.out.b.trans (hq.mono HSS3.out.b.size))
                  clear hq hself
                  clear t0 t1 t2 t3 t4 t5 t6 t7 hp0 hp1
                  have hfin := ret_of HV.out HB6.out
                  have HFIN := Lib.hid hfin
                  clear hfin
                  go_wp2_with fail
                  go_ret
                  exact HFIN.out
                | true =>
                  have HV : Hid ((1 : Int) = kf [(px, py)]) := Lib.hid (by rw [hk1, q1, q2]; rfl)
                  rw [q1] at HF1
                  rw [q2] at HF2
                  clear q1 q2 hk1
                  go_upto_region 20 with fail
                  refine wp_region_below (by kernel_rfl) (by kernel_rfl) ?_
                  repeat (go_big_quiet_step (first | (with_reducible exact below_of (HF1.out _)) | (with_reducible exact below_of (HF2.out _))))
                  refine wpQuiet_nil ?_
                  intro w6 hw6
                  have hq : Below wr.heap.size wr w6 := (by obtain ⟨r, rfl⟩ := hw6; exact r.h)
                  clear hw6
                  have HB6 := Lib.hid (HSS3.out.b.trans (hq.mono HSS3.out.b.size))
                  clear hq hself
                  clear t0 t1 t2 t3 t4 t5 t6 t7 hp0 hp1
                  have hfin := ret_of HV.out HB6.out
                  have HFIN := Lib.hid hfin
                  clear hfin
                  go_wp2_with fail
                  go_ret
                  exact HFIN.out
            | cons p2 l => exact absurd (show 1 < (p :: p2 :: l).length by simp) HLEN.out

/-- The reference's Meets. -/
theorem refMeets : RefMeets := fun s t w => by
  rw [← rmeets_meets]
  unfold rmeets
  split
  · rename_i h
    exact rmeets_far s t w h
  · rename_i h
    have h' : (nearS s && nearS t) = true := by simpa using h
    simp only [Bool.and_eq_true] at h'
    split
    · rename_i h2
      exact rmeets_same s t w h'.1 h'.2 h2
    · rename_i h2
      exact rmeets_other s t w h'.1 h'.2 h2

end Go.Proofs.Ytdpbihbcggpobaa
