/- The walk of SweepMoved. -/
import Derived.Test.YtdpbihbcggpobaaF7
import Derived.Test.YtdpbihbcggpobaaL5
namespace Go.Proofs.Ytdpbihbcggpobaa
open Go.RowKit Go.Maps

theorem near_bound {p : Pt} (h : nearB p = true) : -2097152 ≤ p.1 ∧ p.1 ≤ 2097152 ∧ -2097152 ≤ p.2 ∧ p.2 ≤ 2097152 := by
  unfold nearB at h
  simp only [Bool.and_eq_true, decide_eq_true_eq] at h
  omega
theorem wrap_small {a b : Int} (ha : -2097152 ≤ a ∧ a ≤ 2097152) (hb : -2097152 ≤ b ∧ b ≤ 2097152) : IntKind.i64.wrap (a + b) = a + b := by
  rw [IntKind.wrap_i64]; omega

theorem six_cells {w w' : World} {g o B : Nat} {ax ay bx by_ x y : Int} (h : w.rangeAt g o (sgCells ((ax, ay), (bx, by_)))) (hg : g < w.heap.size) (hX : Blk w B [.int .i64 x, .int .i64 y] 32) (hb : Below w.heap.size w w') :
    w'.cell? ⟨g, o, none⟩ = some (.int .i64 ax) ∧ w'.cell? ⟨g, o + 1, none⟩ = some (.int .i64 ay) ∧ w'.cell? ⟨g, o + 2, none⟩ = some (.int .i64 bx) ∧ w'.cell? ⟨g, o + 3, none⟩ = some (.int .i64 by_) ∧ w'.cell? ⟨B, 0, none⟩ = some (.int .i64 x) ∧ w'.cell? ⟨B, 1, none⟩ = some (.int .i64 y) := by
  have h2 := range_old h hg hb
  have h3 := Blk.below hX hb
  exact ⟨h2 0 _ rfl, h2 1 _ rfl, h2 2 _ rfl, h2 3 _ rfl, h3.c 0 rfl, h3.c 1 rfl⟩

theorem rangeB {w : World} {X : Nat} {cs : List Value} {t : TypeId} (h : Blk w X cs t) : w.rangeAt X 0 cs := by
  intro j v hj
  rw [Nat.zero_add]
  exact h.c j hj

set_option maxHeartbeats 8000000 in
theorem moved_walk (W : World) (v : Value) (l : List Sg) (x y : Int) (hv : SegsAt W v l) : Calls Try.prog 7 #[v, .agg #[.int .i64 x, .int .i64 y]] W (Yes W) := by
  obtain ⟨p, c, rfl, hp⟩ := hv
  have hX := blk_new W [.int .i64 x, .int .i64 y] 32
  have hbx := below_new W (.cells [Value.int .i64 x, .int .i64 y].toArray 32)
  by_cases hn : l.length ≤ 40
  · have hcm : decide ((l.length : Int) > 40) = false := by simp; omega
    have hcm2 : decide ((40 : Int) < (l.length : Int)) = false := by simp; omega
    have HN := Lib.hid hn
    have HV := Lib.hid (show SegsAt W (.slice p l.length c) l from ⟨p, c, rfl, hp⟩)
    have HIS := Lib.hid (is_any x y)
    unfold BoolB at HIS
    clear hp hn
    go_enter Try.func7, Try.ntmps7
    go_upto_region 1 with fail
    generalize W.alloc _ = w0 at *
    have HX := Lib.hid hX
    have HB0 := Lib.hid hbx
    clear hX hbx
    go_upto_region 2 with (first
      | (go_at_call 9; refine (head_any _).mono ?_; rintro en w1 ⟨rfl, hb⟩; have HX1 := Lib.hid (Blk.below HX.out hb); have HB1 := Lib.hid (HB0.out.trans (hb.mono HB0.out.size)); clear hb))
    have x0 := HX1.out.c 0 rfl
    have x1 := HX1.out.c 1 rfl
    cases hnd : nearB (x, y) with
    | false =>
      rw [hnd] at HIS
      go_wp2_with (first | (go_at_call 15; (with_reducible refine (HIS.out _).mono ?_); rintro en w2 ⟨rfl, hb⟩; have HB2 := Lib.hid (HB1.out.trans (hb.mono HB1.out.size)); clear hb))
      go_ret
      exact ⟨rfl, HB2.out⟩
    | true =>
      rw [hnd] at HIS
      go_upto_region 6 with (first | (go_at_call 15; (with_reducible refine (HIS.out _).mono ?_); rintro en w2 ⟨rfl, hb⟩; have HB2 := Lib.hid (HB1.out.trans (hb.mono HB1.out.size)); have HX2 := Lib.hid (Blk.below HX1.out hb); clear hb))
      clear x0 x1
      have HND := Lib.hid (near_bound hnd)
      go_loopg [6, 7] l.length (fun c' mvv iv wr => ∃ i : Nat, i + c' = l.length ∧ iv = .int .i64 i ∧ wr.ownsRow w2.heap.size 34 4 mvv ((l.take i).map (mvS (x, y))).length (((l.take i).map (mvS (x, y))).flatMap sgCells) ∧ (∀ s ∈ l.take i, Both (x, y) s) ∧ Below w2.heap.size w2 wr)
      case atStart => exact ⟨0, by omega, rfl, World.ownsRow_nil _ _ _ _, by simp, Below.refl _ _⟩
      case round =>
        obtain ⟨i, hi, rfl, hown, hbo, hb⟩ := hrel
        have HI := Lib.hid hi
        have HO := Lib.hid hown
        have HBO := Lib.hid hbo
        have HB3 := Lib.hid hb
        have HX3 := Lib.hid (Blk.below HX2.out hb)
        have HV3 := Lib.hid (HV.out.below (HB2.out.trans (hb.mono HB2.out.size)))
        clear hi hown hbo hb
        have hnn := HN.out
        by_cases hil : i < l.length
        · have hki : decide ((i : Int) < (l.length : Int)) = true := by simp; omega
          have HTK : Hid (l.take (i + 1) = l.take i ++ [l[i]]) := Lib.hid (by rw [List.take_add_one, List.getElem?_eq_getElem hil]; rfl)
          have HFL : Hid (((l.take i).map (mvS (x, y))).length + 1 ≤ 1000000) := Lib.hid (by rw [List.length_map, List.length_take]; omega)
          obtain ⟨p', c', e', hpp⟩ := HV3.out
          obtain ⟨rfl, rfl⟩ : p = p' ∧ c = c' := by cases e'; exact ⟨rfl, rfl⟩
          clear e'
          rcases hpp with hpp | ⟨g, o, rfl, hgl, hra⟩
          · rw [hpp] at hil; simp at hil
          have hx := hra i hil
          clear hra
          generalize l[i] = s at *
          obtain ⟨⟨ax, ay⟩, ⟨bx, by_⟩⟩ := s
          have HRA := Lib.hid hx
          have HGL := Lib.hid hgl
          clear hx hgl
          have HRB := Lib.hid HRA.out
          unfold sgCells at HRB
          have HSG := Lib.hid (seg_any ((ax, ay), (bx, by_)))
          unfold BoolB sg at HSG
          cases hns : nearS ((ax, ay), (bx, by_)) with
          | false =>
            rw [hns] at HSG
            go_wp2_with (first | ((with_reducible refine at_load34 _ rfl ?_); refine wpList_load_mid rfl 34 _ rfl g (o + i * 4) rfl _ _ HRB.out Try.underlying34 rfl info34 ?_) | (go_at_call 16; (with_reducible refine (HSG.out _).mono ?_); rintro en w4 ⟨rfl, hb⟩; have HB4 := Lib.hid (HB2.out.trans ((HB3.out.trans (hb.mono HB3.out.size)).mono HB2.out.size)); clear hb))
            go_ret
            exact ⟨rfl, HB4.out⟩
          | true =>
            rw [hns] at HSG
            obtain ⟨n1, n2⟩ := near_ends hns
            have k1 := near_bound n1
            have k2 := near_bound n2
            simp only at k1 k2
            have hnd2 := HND.out
            simp only at hnd2
            have HE : Hid (IntKind.i64.wrap (ax + x) = ax + x ∧ IntKind.i64.wrap (ay + y) = ay + y ∧ IntKind.i64.wrap (bx + x) = bx + x ∧ IntKind.i64.wrap (by_ + y) = by_ + y) := Lib.hid ⟨wrap_small ⟨k1.1, k1.2.1⟩ ⟨hnd2.1, hnd2.2.1⟩, wrap_small k1.2.2 hnd2.2.2, wrap_small ⟨k2.1, k2.2.1⟩ ⟨hnd2.1, hnd2.2.1⟩, wrap_small k2.2.2 hnd2.2.2⟩
            have HNS := Lib.hid (And.intro n1 n2)
            clear k1 k2 hnd2 n1 n2
            go_upto_region 10 with (first | ((with_reducible refine at_load34 _ rfl ?_); refine wpList_load_mid rfl 34 _ rfl g (o + i * 4) rfl _ _ HRB.out Try.underlying34 rfl info34 ?_) | (go_at_call 16; (with_reducible refine (HSG.out _).mono ?_); rintro en w4 ⟨rfl, hb⟩; have HB4 := Lib.hid (HB3.out.trans (hb.mono HB3.out.size)); have HX4 := Lib.hid (Blk.below HX3.out hb); have HR4 := Lib.hid (range_old HRA.out HGL.out hb); have HG4 := Lib.hid (Nat.lt_of_lt_of_le HGL.out hb.size); have HO4 := Lib.hid (hv_below HO.out hb); clear hb))
            have HCL : Hid (∀ w', Below w4.heap.size w4 w' → w'.cell? ⟨g, o + i * 4, none⟩ = some (.int .i64 ax) ∧ w'.cell? ⟨g, o + i * 4 + 1, none⟩ = some (.int .i64 ay) ∧ w'.cell? ⟨g, o + i * 4 + 2, none⟩ = some (.int .i64 bx) ∧ w'.cell? ⟨g, o + i * 4 + 3, none⟩ = some (.int .i64 by_) ∧ w'.cell? ⟨W.heap.size, 0, none⟩ = some (.int .i64 x) ∧ w'.cell? ⟨W.heap.size, 1, none⟩ = some (.int .i64 y)) := Lib.hid fun w' hb => six_cells HR4.out HG4.out HX4.out hb
            have HBd := Lib.hid (show Below w4.heap.size w4 w4.drew from (Below.refl _ _).drew)
            have HSD : Hid (∀ w : World, Calls Try.prog 17 #[.int .i64 (ax + x), .int .i64 (ay + y), .int .i64 (bx + x), .int .i64 (by_ + y)] w (fun e w' => e = .returned (.agg #[.int .i64 (ax + x), .int .i64 (ay + y), .int .i64 (bx + x), .int .i64 (by_ + y)]) ∧ Below w.heap.size w w')) := Lib.hid fun w => side_any _ _ _ _ w
            have HBn := Lib.hid (show Below w4.heap.size w4 (w4.drew.alloc (.cells #[.int .i64 0, .int .i64 0, .int .i64 0, .int .i64 0] 34)) from HBd.out.alloc HBd.out.size _)
            have HBm := Lib.hid (show Below w4.heap.size w4 (w4.alloc (.cells #[.int .i64 0, .int .i64 0, .int .i64 0, .int .i64 0] 34)).drew from ((Below.refl _ _).alloc (Nat.le_refl _) _).drew)
            have HZn := Lib.hid (show Blk (w4.alloc (.cells #[.int .i64 0, .int .i64 0, .int .i64 0, .int .i64 0] 34)).drew w4.heap.size [.int .i64 0, .int .i64 0, .int .i64 0, .int .i64 0] 34 from blk_new w4.drew [.int .i64 0, .int .i64 0, .int .i64 0, .int .i64 0] 34)
            go_cut [8] (fun t8 wx => Below w4.heap.size w4 wx ∧ ∃ X, t8 = .pointer (some ⟨X, 0, none⟩) ∧ Blk wx X (sgCells (mvS (x, y) ((ax, ay), (bx, by_)))) 34)
            case first =>
              go_region_held3 (fun w' => w'.cell? ⟨g, o + i * 4, none⟩ = some (.int .i64 ax) ∧ w'.cell? ⟨g, o + i * 4 + 1, none⟩ = some (.int .i64 ay) ∧ w'.cell? ⟨g, o + i * 4 + 2, none⟩ = some (.int .i64 bx) ∧ w'.cell? ⟨g, o + i * 4 + 3, none⟩ = some (.int .i64 by_) ∧ w'.cell? ⟨W.heap.size, 0, none⟩ = some (.int .i64 x) ∧ w'.cell? ⟨W.heap.size, 1, none⟩ = some (.int .i64 y)) (first | with_reducible exact HCL.out _ HBd.out | with_reducible exact HCL.out _ HBn.out | with_reducible exact HCL.out _ HBm.out | with_reducible exact HCL.out _ HB5.out | with_reducible exact HCL.out _ HB6.out | with_reducible exact HCL.out _ HB5a.out | exact HCL.out _ HB5b.out | with_reducible exact HCL.out _ HB6b.out)
                (first
                  | (go_at_call 17; (try rw [HE.out.1]); (try rw [HE.out.2.1]); (try rw [HE.out.2.2.1]); (try rw [HE.out.2.2.2]); (with_reducible refine (HSD.out w4.drew).mono ?_); rintro en w5 ⟨rfl, hb⟩; have hb5 : Below w4.heap.size w4 w5 := HBd.out.trans (hb.mono HBd.out.size); have HB5 := Lib.hid hb5; have HB5a := Lib.hid (show Below w4.heap.size w4 (w5.alloc (.cells #[.int .i64 0, .int .i64 0, .int .i64 0, .int .i64 0] 34)) from hb5.alloc hb5.size _); have HB5b := Lib.hid (show Below w4.heap.size w4 (w5.alloc (.cells #[.int .i64 (ax + x), .int .i64 (ay + y), .int .i64 (bx + x), .int .i64 (by_ + y)] 34)) from hb5.alloc hb5.size _); clear hb hb5)
                  | (go_at_call 17; (try rw [HE.out.1]); (try rw [HE.out.2.1]); (try rw [HE.out.2.2.1]); (try rw [HE.out.2.2.2]); (with_reducible refine (HSD.out (w4.alloc (.cells #[.int .i64 0, .int .i64 0, .int .i64 0, .int .i64 0] 34)).drew).mono ?_); rintro en w6 ⟨rfl, hb⟩; have hb6 : Below w4.heap.size w4 w6 := HBm.out.trans (hb.mono HBm.out.size); have hz := Blk.below HZn.out hb; have z0 := hz.c 0 rfl; have z1 := hz.c 1 rfl; have z2 := hz.c 2 rfl; have z3 := hz.c 3 rfl; have y0 := hz.f 0; have y1 := hz.f 1; have y2 := hz.f 2; have y3 := hz.f 3; have HZ6 := Lib.hid (((((hz.set 0 (.int .i64 (ax + x))).set 1 (.int .i64 (ay + y))).set 2 (.int .i64 (bx + x))).set 3 (.int .i64 (by_ + y)))); have HB6 := Lib.hid hb6; have HB6b := Lib.hid (show Below w4.heap.size w4 ((((w6.setCell ⟨w4.heap.size, 0, none⟩ (.int .i64 (ax + x))).setCell ⟨w4.heap.size, 1, none⟩ (.int .i64 (ay + y))).setCell ⟨w4.heap.size, 2, none⟩ (.int .i64 (bx + x))).setCell ⟨w4.heap.size, 3, none⟩ (.int .i64 (by_ + y))) from (((hb6.setCell (Nat.le_refl _) _).setCell (Nat.le_refl _) _).setCell (Nat.le_refl _) _).setCell (Nat.le_refl _) _); clear hb hb6 hz))
              all_goals
                go_wp2_with fail
                go_meet
                first
                  | exact ⟨HB6b.out, _, rfl, HZ6.out⟩
                  | exact ⟨HB5b.out, _, rfl, blk_new w5 (sgCells (mvS (x, y) ((ax, ay), (bx, by_)))) 34⟩
            case rest =>
              obtain ⟨hb5, X, rfl, hX5⟩ := hcut
              obtain ⟨s2, hs2⟩ : ∃ s2, s2 = mvS (x, y) ((ax, ay), (bx, by_)) := ⟨_, rfl⟩
              rw [← hs2] at hX5
              have HS2 := Lib.hid hs2
              have HX5 := Lib.hid hX5
              have HR5 := Lib.hid (rangeB hX5)
              have HB5 := Lib.hid hb5
              have HB25 := Lib.hid (HB4.out.trans (hb5.mono HB4.out.size))
              have HO5 := Lib.hid (hv_below HO4.out hb5)
              have HSG2 := Lib.hid (seg_any s2)
              unfold BoolB sg at HSG2
              have HR5' := Lib.hid HR5.out
              unfold sgCells at HR5'
              clear hs2 hX5 hb5 HSG HSD HBd HBn HBm HZn HCL
              cases hn2 : nearS s2 with
              | false =>
                rw [hn2] at HSG2
                go_wp2_with (first | ((with_reducible refine at_load34 _ rfl ?_); refine wpList_load_mid rfl 34 _ rfl X 0 rfl _ _ HR5'.out Try.underlying34 rfl info34 ?_) | (go_at_call 16; (with_reducible refine (HSG2.out _).mono ?_); rintro en w7 ⟨rfl, hb⟩; have HB7 := Lib.hid (HB2.out.trans ((HB25.out.trans (hb.mono HB25.out.size)).mono HB2.out.size)); clear hb))
                go_ret
                exact ⟨rfl, HB7.out⟩
              | true =>
                rw [hn2] at HSG2
                have HN2 := Lib.hid (near_ends hn2)
                clear hn2
                clear hcm hcm2 hki hnd hns hnn
                go_wp2_with (first
                  | ((with_reducible refine at_load34 _ rfl ?_); refine wpList_load_mid rfl 34 _ rfl X 0 rfl _ _ HR7.out Try.underlying34 rfl info34 ?_)
                  | ((with_reducible refine at_load34 _ rfl ?_); refine wpList_load_mid rfl 34 _ rfl X 0 rfl _ _ HR5'.out Try.underlying34 rfl info34 ?_)
                  | (go_at_call 16; (with_reducible refine (HSG2.out _).mono ?_); rintro en w7 ⟨rfl, hb⟩; have HB7 := Lib.hid (HB25.out.trans (hb.mono HB25.out.size)); have HO7 := Lib.hid (hv_below HO5.out hb); have HR7 : Hid (w7.rangeAt X 0 [.int .i64 s2.1.1, .int .i64 s2.1.2, .int .i64 s2.2.1, .int .i64 s2.2.2]) := Lib.hid (rangeB (Blk.below HX5.out hb)); have HS7 := Lib.hid HB7.out.size; clear hb)
                  | (at_builtin; refine wpList_append_sg _ rfl (.tmp 77) (.tmp 79) rfl w2.heap.size u6 ((l.take i).map (mvS (x, y))) [s2] w7.heap.size 1 1 rfl rfl rfl (hv_below HO7.out (below_new w7 _)) (sg_range w7 [s2]) HFL.out (Nat.le_trans HS7.out (by simp)) ?_; intro v8 w8 hown hg; have hb8 := (HB7.out.trans ((below_new w7 (.cells ([s2].flatMap sgCells).toArray 34)).mono HS7.out)).grown hg (Nat.le_trans HS7.out (by simp)) (fun b e => (own_at HO7.out b e).1); have HB8 := Lib.hid hb8; have HO8 := Lib.hid hown; clear hown hg hb8))
                have hi1 := HI.out
                have hnn := HN.out
                have hmap : (l.take (i + 1)).map (mvS (x, y)) = (l.take i).map (mvS (x, y)) ++ [s2] := by rw [HTK.out, List.map_append, HS2.out]; rfl
                have HMP := Lib.hid hmap
                have HB2T : Hid (∀ s ∈ l.take (i + 1), Both (x, y) s) := Lib.hid (by
                  rw [HTK.out]
                  intro s hs
                  rcases List.mem_append.1 hs with hs | hs
                  · exact HBO.out s hs
                  · rw [List.mem_singleton.1 hs]
                    have e1 := HN2.out
                    rw [HS2.out] at e1
                    exact ⟨HNS.out.1, HNS.out.2, e1.1, e1.2⟩)
                clear hmap
                go_roundg (gk - 1)
                case measure => omega
                case rel => exact ⟨i + 1, by omega, by congr 1 <;> (unfold wrap64; omega), by rw [HMP.out]; exact HO8.out, HB2T.out, HB8.out⟩
        · have hki : decide ((i : Int) < (l.length : Int)) = false := by simp; omega
          have htk : l.take i = l := List.take_of_length_le (by omega)
          rw [htk] at HO HBO
          have HPL := Lib.hid (moved_plain HBO.out)
          have HSB := Lib.hid (SegsAt.own HO.out)
          have HA1 : Hid (∀ w', Below wr.heap.size wr w' → Calls Try.prog 10 #[.slice p l.length c] w' (AllM l w')) := Lib.hid fun w' hb => all_m l _ _ (HV3.out.below hb) (by have := HN.out; omega)
          have HA2 : Hid (∀ w', Below wr.heap.size wr w' → Calls Try.prog 10 #[u6] w' (AllM (l.map (mvS (x, y))) w')) := Lib.hid fun w' hb => all_m _ _ _ (HSB.out.below hb) (by rw [List.length_map]; have := HN.out; omega)
          have HLB : Hid ((allP (kindOf l) l.length l.length).length ≤ 1000000000) := Lib.hid (by have := allP_small HN.out; omega)
          unfold AllM at HA1 HA2
          rw [HPL.out] at HA2
          have HBR := Lib.hid (Below.refl wr.heap.size wr)
          clear htk
          go_upto_region 16 with (first
            | (go_at_call 10; (with_reducible refine (HA1.out _ HBR.out).mono ?_); rintro en w7 ⟨v7, rfl, hm, hb⟩; have HB7 := Lib.hid hb; have HM7 := Lib.hid hm; clear hm hb)
            | (go_at_call 10; (with_reducible refine (HA2.out _ HB7.out).mono ?_); rintro en w8 ⟨v8, rfl, hm, hb⟩; have HB8 := Lib.hid (HB7.out.trans (hb.mono HB7.out.size)); have HM8 := Lib.hid hm; have HMA := Lib.hid (HM7.out.below hb); clear hm hb))
          have HSM := Lib.hid (same_yes _ v7 v8 w8 HMA.out HM8.out HLB.out)
          go_wp2_with (first | (go_at_call 12; (with_reducible refine HSM.out.mono ?_); rintro en w9 ⟨rfl, hb⟩; have HB9 := Lib.hid (HB8.out.trans (hb.mono HB8.out.size)); clear hb))
          go_ret
          exact ⟨rfl, HB2.out.trans ((HB3.out.trans (HB9.out.mono HB3.out.size)).mono HB2.out.size)⟩
  · have hcm : decide ((l.length : Int) > 40) = true := by simp; omega
    have hcm2 : decide ((40 : Int) < (l.length : Int)) = true := by simp; omega
    clear hp
    go_enter Try.func7, Try.ntmps7
    go_upto_region 1 with fail
    generalize W.alloc _ = w0 at *
    have HB0 := Lib.hid hbx
    clear hbx hX
    go_wp2_with (go_at_call 9; refine (head_any _).mono ?_; rintro en w1 ⟨rfl, hb⟩; have HB1 := Lib.hid (HB0.out.trans (hb.mono HB0.out.size)); clear hb)
    go_ret
    exact ⟨rfl, HB1.out⟩

end Go.Proofs.Ytdpbihbcggpobaa
