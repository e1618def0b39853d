/- The walk of SweepOrder. -/
import Derived.Test.YtdpbihbcggpobaaF5
namespace Go.Proofs.Ytdpbihbcggpobaa
open Go.RowKit Go.Maps

theorem back_drop {l : List Sg} {m : Nat} (h : m < l.length) : back (l.drop m) = back (l.drop (m + 1)) ++ [turnS l[m]] := by
  unfold back
  rw [← List.getElem_cons_drop h, List.map_cons, List.reverse_cons]
theorem order_kind (l : List Sg) {x : Mt} (hx : x ∈ allP (kindOf l) l.length l.length) :
    kindOf (back l) (l.length - 1 - x.2.1) (l.length - 1 - x.1) = x.2.2 := by
  have := ((mem_allP _).1 (sig_in l hx)).2.2.2.1
  exact this.symm

theorem four_back {w1 wr w' : World} {g o B : Nat} {s : Sg} (h : wr.rangeAt g o (sgCells s)) (hg : g < B) (h1 : Below B w1 wr) (h2 : Below B w1 w') :
    w'.cell? ⟨g, o, none⟩ = some (.int .i64 s.1.1) ∧ w'.cell? ⟨g, o + 1, none⟩ = some (.int .i64 s.1.2) ∧ w'.cell? ⟨g, o + 2, none⟩ = some (.int .i64 s.2.1) ∧ w'.cell? ⟨g, o + 3, none⟩ = some (.int .i64 s.2.2) := by
  have e : ∀ k, w'.cell? ⟨g, o + k, none⟩ = wr.cell? ⟨g, o + k, none⟩ := fun k => (h2.cell (p := ⟨g, o + k, none⟩) hg).trans (h1.cell (p := ⟨g, o + k, none⟩) hg).symm
  exact ⟨(e 0).trans (h 0 _ rfl), (e 1).trans (h 1 _ rfl), (e 2).trans (h 2 _ rfl), (e 3).trans (h 3 _ rfl)⟩
theorem wp_append_sg (w : World) {o : Oper} {a : Act} {C : Act → World → Prop} {Q : Exit → Act → World → Prop} (s x : Operand)
    (ho : o.op = Op.call { callee := Callee.builtin Builtin.append, args := #[s, x], argTypes := #[22, 22] }) (B : Nat) (v : Value) (K L : List Sg) (X c m : Nat) (hs : a.eval s = v) (hx : a.eval x = .slice (some ⟨X, 0, none⟩) m c) (hm : L.length = m)
    (hown : w.ownsRow B 34 4 v K.length (K.flatMap sgCells)) (hu : w.rangeAt X 0 (L.flatMap sgCells)) (hl : K.length + m ≤ 1000000) (hbase : B ≤ w.heap.size)
    (h : ∀ v' w', w'.ownsRow B 34 4 v' (K ++ L).length ((K ++ L).flatMap sgCells) → w.grownBy w' v.ownBlock → C (a.put o.dst v') w') : o.wp Try.prog a w C Q := by
  obtain ⟨i, hi, hz, h1, h2⟩ := info_parts inf34
  obtain ⟨v', w', hrun, r1, r2, _, r4⟩ := run_append_own_at (P := Try.prog) w B 22 o.type 34 i _ 4 32 Try.underlying22 hi hz h1 h2 rfl (by decide) v K.length (K.flatMap sgCells) hown ⟨X, 0, none⟩ m c (L.flatMap sgCells) (by rw [flat_length sgCells 4 sgCells_len, hm])
    (fun j x hj => by
      have e : (⟨X, 0, none⟩ : Addr).add j = ⟨X, 0 + j, none⟩ := by (simp [Addr.add]; intro e; exact e.symm)
      rw [e]; exact hu j x hj) (fun u hu => by obtain ⟨s, _, hs⟩ := List.mem_flatMap.1 hu; exact sgCells_one s u hs) (by unfold maxLen; omega) (by omega) hbase
  unfold Oper.wp
  simp [execOp, ho, resolve, invoke, builtin, hs, hx, hrun, Result.andThen]
  exact h v' w' (by rw [List.length_append, hm, List.flatMap_append]; exact r1) r2
theorem three {w : World} {g o : Nat} {m1 m2 : Nat} {m3 : Int} (h : w.rangeAt g o (mtCells (m1, m2, m3))) : w.cell? ⟨g, o, none⟩ = some (.int .i64 (m1 : Int)) ∧ w.cell? ⟨g, o + 1, none⟩ = some (.int .i64 (m2 : Int)) ∧ w.cell? ⟨g, o + 2, none⟩ = some (.int .i64 m3) := ⟨h 0 _ rfl, h 1 _ rfl, h 2 _ rfl⟩
theorem three_below {w w' : World} {g o : Nat} {m1 m2 : Nat} {m3 : Int} (h : w.cell? ⟨g, o, none⟩ = some (.int .i64 (m1 : Int)) ∧ w.cell? ⟨g, o + 1, none⟩ = some (.int .i64 (m2 : Int)) ∧ w.cell? ⟨g, o + 2, none⟩ = some (.int .i64 m3)) (hg : g < w.heap.size) (hb : Below w.heap.size w w') :
    w'.cell? ⟨g, o, none⟩ = some (.int .i64 (m1 : Int)) ∧ w'.cell? ⟨g, o + 1, none⟩ = some (.int .i64 (m2 : Int)) ∧ w'.cell? ⟨g, o + 2, none⟩ = some (.int .i64 m3) :=
  ⟨(hb.cell (p := ⟨g, _, none⟩) hg).trans h.1, (hb.cell (p := ⟨g, _, none⟩) hg).trans h.2.1, (hb.cell (p := ⟨g, _, none⟩) hg).trans h.2.2⟩

set_option maxHeartbeats 8000000 in
theorem order_walk (W : World) (v : Value) (l : List Sg) (hv : SegsAt W v l) : Calls Try.prog 5 #[v] W (Yes W) := by
  obtain ⟨p, c, rfl, hp⟩ := hv
  by_cases hn : l.length ≤ 30
  · have hcm : decide ((l.length : Int) > 30) = false := by simp; omega
    have hcm2 : decide ((30 : Int) < (l.length : Int)) = false := by simp; omega
    have HN := Lib.hid hn
    have HV := Lib.hid (show SegsAt W (.slice p l.length c) l from ⟨p, c, rfl, hp⟩)
    have HGP : Hid (∀ g o, p = some ⟨g, o, none⟩ → ∀ w1, Below W.heap.size W w1 → l ≠ [] → g < w1.heap.size) := Lib.hid fun g o e w1 hb hl => by
      rcases hp with hp | ⟨g', o', e', hg, _⟩
      · exact absurd hp hl
      · rw [e] at e'; cases e'; exact Nat.lt_of_lt_of_le hg hb.size
    clear hp
    go_enter Try.func5, Try.ntmps5
    go_upto_region 7 with (first
      | (go_at_call 9; refine (head_any _).mono ?_; rintro en w1 ⟨rfl, hb⟩; have HB1 := Lib.hid hb; clear hb))
    have HG1 : Hid (∀ g o, p = some ⟨g, o, none⟩ → l ≠ [] → g < w1.heap.size) := Lib.hid fun g o e => HGP.out g o e w1 HB1.out
    go_loopg [4, 6] l.length (fun c' lv iv wr => ∃ i : Int, i + 1 = (c' : Int) ∧ iv = .int .i64 i ∧ c' ≤ l.length ∧ wr.ownsRow w1.heap.size 34 4 lv (back (l.drop c')).length ((back (l.drop c')).flatMap sgCells) ∧ Below w1.heap.size w1 wr)
    case atStart => exact ⟨(l.length : Int) - 1, by omega, by congr 1, by omega, by rw [List.drop_length]; exact World.ownsRow_nil _ _ _ _, Below.refl _ _⟩
    case round =>
      obtain ⟨i, hi, rfl, hle, hown, hb⟩ := hrel
      have HB2 := Lib.hid hb
      have HO := Lib.hid hown
      have HV2 := Lib.hid (HV.out.below (HB1.out.trans (hb.mono HB1.out.size)))
      clear hb hown
      by_cases hpos : 0 < gk
      · obtain ⟨m, hm⟩ : ∃ m, gk = m + 1 := ⟨gk - 1, by omega⟩
        obtain rfl : i = (m : Int) := by omega
        have hml : m < l.length := by omega
        rw [hm] at HO
        have HM := Lib.hid hm
        clear hi hm hpos hle
        have hki : decide ((m : Int) ≥ 0) = true := by simp
        have hki2 : decide ((0 : Int) ≤ (m : Int)) = true := by simp
        have HBK := Lib.hid (back_drop hml)
        have HFL : Hid ((back (l.drop (m + 1))).length + 1 ≤ 1000000) := Lib.hid (by rw [back_len, List.length_drop]; omega)
        obtain ⟨p', c', e', hpp⟩ := HV2.out
        obtain ⟨rfl, rfl⟩ : p = p' ∧ c = c' := by cases e'; exact ⟨rfl, rfl⟩
        clear e'
        rcases hpp with hpp | ⟨g, o, rfl, hgl, hra⟩
        · rw [hpp] at hml; simp at hml
        have hgl1 : g < w1.heap.size := HG1.out g o rfl (fun e => by rw [e] at hml; simp at hml)
        have hx := hra m hml
        clear hra hgl
        generalize l[m] = s at *
        have HCL : Hid (∀ w', Below w1.heap.size w1 w' → w'.cell? ⟨g, o + m * 4, none⟩ = some (.int .i64 s.1.1) ∧ w'.cell? ⟨g, o + m * 4 + 1, none⟩ = some (.int .i64 s.1.2) ∧ w'.cell? ⟨g, o + m * 4 + 2, none⟩ = some (.int .i64 s.2.1) ∧ w'.cell? ⟨g, o + m * 4 + 3, none⟩ = some (.int .i64 s.2.2)) := Lib.hid fun w' hb => four_back hx hgl1 HB2.out hb
        clear hx hgl1
        have HS2 := Lib.hid HB2.out.size
        have HO2 := Lib.hid (hv_below (hv_below HO.out (below_drewN wr 1)) (below_new (wr.drewN 1) (.cells ([turnS s].flatMap sgCells).toArray 34)))
        have HBa := Lib.hid (HB2.out.drew.trans ((below_new wr.drew (.cells ([turnS s].flatMap sgCells).toArray 34)).mono HB2.out.size))
        go_upto_region 9 with fail
        go_region_held3 (fun w' => w'.cell? ⟨g, o + m * 4, none⟩ = some (.int .i64 s.1.1) ∧ w'.cell? ⟨g, o + m * 4 + 1, none⟩ = some (.int .i64 s.1.2) ∧ w'.cell? ⟨g, o + m * 4 + 2, none⟩ = some (.int .i64 s.2.1) ∧ w'.cell? ⟨g, o + m * 4 + 3, none⟩ = some (.int .i64 s.2.2)) (first | exact HCL.out _ HB2.out.drew | exact HCL.out _ HBa.out | exact HCL.out _ HB6.out)
          (first | (rw [if_pos (by rfl)]; refine wp_append_sg (wr.drew.alloc (.cells ([turnS s].flatMap sgCells).toArray 34)) (.tmp 25) (.tmp 37) rfl w1.heap.size u4 (back (l.drop (m + 1))) [turnS s] wr.heap.size 1 1 rfl rfl rfl HO2.out (sg_range wr.drew [turnS s]) HFL.out (Nat.le_trans HS2.out (by simp)) ?_; intro v6 w6 hown hg; have hb6 := HBa.out.grown hg (Nat.le_trans HS2.out (by simp)) (fun b e => (own_at HO2.out b e).1); have HB6 := Lib.hid hb6; have HO6 := Lib.hid hown; clear hown hg hb6))
        go_wp2_with fail
        have hm := HM.out
        go_roundg m
        case measure => omega
        case rel => exact ⟨(m : Int) - 1, by omega, by congr 1, by omega, by rw [HBK.out]; exact HO6.out, HB6.out⟩
      · obtain rfl : i = -1 := by omega
        have hg0 : gk = 0 := by omega
        rw [hg0] at HO
        have HSB := Lib.hid (SegsAt.own HO.out)
        rw [List.drop_zero] at HSB
        have HBL := Lib.hid (back_length l)
        have HPA : Hid (∀ x ∈ allP (kindOf l) l.length l.length, x.1 < x.2.1 ∧ x.2.1 < l.length ∧ kindOf (back l) (l.length - 1 - x.2.1) (l.length - 1 - x.1) = x.2.2) := Lib.hid fun x hx => ⟨((mem_allP _).1 hx).2.1, ((mem_allP _).1 hx).2.2.1, order_kind l hx⟩
        have HLB : Hid ((allP (kindOf l) l.length l.length).length ≤ 1600) := Lib.hid (allP_small (by have := HN.out; omega))
        have HFB : Hid ((∀ x ∈ allP (kindOf (back l)) l.length l.length, x.2.2 = kindOf (back l) x.1 x.2.1) ∧ ∀ a b, a < b → b < l.length → kindOf (back l) a b ≠ 0 → (a, b, kindOf (back l) a b) ∈ allP (kindOf (back l)) l.length l.length) := Lib.hid ⟨fun x hx => ((mem_allP _).1 hx).2.2.2.1, fun a b h1 h2 h3 => (mem_allP _).2 ⟨by show a < _; omega, h1, h2, rfl, h3⟩⟩
        have HA1 : Hid (∀ w', Below wr.heap.size wr w' → Calls Try.prog 10 #[.slice p l.length c] w' (AllM l w')) := Lib.hid fun w' hb => all_m l _ _ (HV2.out.below hb) (by have := HN.out; omega)
        have HA2 : Hid (∀ w', Below wr.heap.size wr w' → Calls Try.prog 10 #[u4] w' (AllM (back l) w')) := Lib.hid fun w' hb => all_m (back l) _ _ (HSB.out.below hb) (by rw [back_len]; have := HN.out; omega)
        have HBR := Lib.hid (Below.refl wr.heap.size wr)
        unfold AllM at HA1 HA2
        rw [back_len] at HA2
        generalize allP (kindOf l) l.length l.length = LA at *
        generalize allP (kindOf (back l)) l.length l.length = LB at *
        generalize kindOf (back l) = f at *
        clear hi hle
        go_upto_region 12 with (first
          | (go_at_call 10; (with_reducible refine (HA1.out _ HBR.out).mono ?_); rintro en w7 ⟨v7, rfl, hm, hb⟩; have HB7 := Lib.hid hb; have HM7 := Lib.hid hm; clear hm hb)
          | (go_at_call 10; (with_reducible refine (HA2.out _ HB7.out).mono ?_); rintro en w8 ⟨v8, rfl, hm, hb⟩; have HB8 := Lib.hid (HB7.out.trans (hb.mono HB7.out.size)); have HM8 := Lib.hid hm; have HMA := Lib.hid (HM7.out.below hb); clear hm hb))
        obtain ⟨p7, c7, rfl, h7⟩ := HMA.out
        have HQ := Lib.hid h7
        obtain ⟨p8, c8, rfl, h8⟩ := HM8.out
        clear h7 h8 HA1 HA2 HM7
        have hl1 : decide ((LA.length : Int) = (LB.length : Int)) = true := by have := HBL.out; simp; omega
        have hl2 : ((LA.length : Int) == (LB.length : Int)) = true := by have := HBL.out; simp; omega
        have hl3 : decide (LA.length = LB.length) = true := by have := HBL.out; simp; omega
        have hl4 : (LA.length == LB.length) = true := by have := HBL.out; simp; omega
        have hl5 : ((LA.length : Int) != (LB.length : Int)) = false := by have := HBL.out; simp; omega
        go_upto_region 15 with fail
        (try rw [hl5])
        clear hl1 hl2 hl3 hl4 hl5
        go_loopg [11] LA.length (fun c' kv wq => ∃ k : Nat, k + c' = LA.length ∧ kv = .int .i64 k ∧ Below w8.heap.size w8 wq)
        case atStart => exact ⟨0, by omega, rfl, Below.refl _ _⟩
        case round =>
          obtain ⟨k, hk, rfl, hb⟩ := hrel
          have HK := Lib.hid hk
          have HB9 := Lib.hid hb
          by_cases hkl : k < LA.length
          · have hkk : decide ((k : Int) < (LA.length : Int)) = true := by simp; omega
            rcases HQ.out with hq | ⟨g1, rfl, hg1, hr1⟩
            · rw [hq] at hkl; simp at hkl
            have h3 := range_old (hr1 k hkl) hg1 HB9.out
            have HGL := Lib.hid (Nat.lt_of_lt_of_le hg1 HB9.out.size)
            have hx := HPA.out _ (List.getElem_mem hkl)
            clear hr1 hk hb
            generalize LA[k] = x at *
            obtain ⟨m1, m2, m3⟩ := x
            simp only at hx
            obtain ⟨x1, x2, x3⟩ := hx
            have c0 := three h3
            have HC := Lib.hid c0
            clear c0 h3
            obtain ⟨a, ha⟩ : ∃ a : Nat, a = l.length - 1 - m1 := ⟨_, rfl⟩
            obtain ⟨b, hb⟩ : ∃ b : Nat, b = l.length - 1 - m2 := ⟨_, rfl⟩
            have ea : (l.length : Int) - 1 - (m1 : Int) = (a : Int) := by omega
            have eb : (l.length : Int) - 1 - (m2 : Int) = (b : Int) := by omega
            rw [← ha, ← hb] at x3
            have HKD : Hid (∀ w', Below w8.heap.size w8 w' → Calls Try.prog 14 #[.slice p8 LB.length c8, .int .i64 (a : Int), .int .i64 (b : Int)] w' (fun e w2 => e = .returned (.int .i64 m3) ∧ Below w'.heap.size w' w2)) := Lib.hid fun w' hb' => by
              rw [← x3]
              exact kind_any LB f a b b a (by omega) (by omega) HFB.out.1 (fun h => HFB.out.2 b a (by omega) (by omega) h) _ w' (HM8.out.below hb') (by have := HBL.out; have := HLB.out; omega)
            have HB9d := Lib.hid (HB9.out.trans ((below_drewN _ 1).mono HB9.out.size))
            have hlb := HLB.out
            have hx12 : m1 < l.length := by omega
            clear ha hb x3 x1
            have EA : Hid (IntKind.i64.wrap (IntKind.i64.wrap ((l.length : Int) - 1) - (m1 : Int)) = (a : Int)) := Lib.hid (by have := HN.out; simp only [IntKind.wrap_i64]; omega)
            have EB : Hid (IntKind.i64.wrap (IntKind.i64.wrap ((l.length : Int) - 1) - (m2 : Int)) = (b : Int)) := Lib.hid (by have := HN.out; simp only [IntKind.wrap_i64]; omega)
            have HB9x := Lib.hid HB9.out.drew
            clear ea eb
            have hm2l := x2
            go_upto_region 17 with fail
            go_region_held3 (fun w' => w'.cell? ⟨g1, k * 3, none⟩ = some (.int .i64 (m1 : Int)) ∧ w'.cell? ⟨g1, k * 3 + 1, none⟩ = some (.int .i64 (m2 : Int)) ∧ w'.cell? ⟨g1, k * 3 + 2, none⟩ = some (.int .i64 m3)) (first | exact HC.out | exact HC2.out)
              (first | (go_at_call 14; rw [EA.out, EB.out]; (with_reducible refine (HKD.out _ HB9x.out).mono ?_); rintro en w10 ⟨rfl, hb⟩; have hb10 : Below wr.heap.size wr w10 := ⟨hb.os, hb.tape, hb.output, hb.size, hb.block⟩; have HC2 := Lib.hid (three_below HC.out HGL.out hb10); have HB10 := Lib.hid (HB9.out.trans (hb10.mono HB9.out.size)); clear hb hb10))
            go_wp2_with fail
            have hk1 := HK.out
            go_roundg (LA.length - (k + 1))
            case measure => omega
            case rel => exact ⟨k + 1, by omega, by congr 1, HB10.out⟩
          · have hkk : decide ((k : Int) < (LA.length : Int)) = false := by simp; omega
            have hfin : Yes W (.returned (.bool true)) _ := ⟨rfl, (HB1.out.trans ((HB2.out.trans (HB8.out.mono HB2.out.size)).mono HB1.out.size)).trans (HB9.out.mono (HB1.out.trans ((HB2.out.trans (HB8.out.mono HB2.out.size)).mono HB1.out.size)).size)⟩
            have HFI := Lib.hid hfin
            clear hfin hb hk
            go_wp2_with fail
            go_ret
            exact HFI.out
  · have hcm : decide ((l.length : Int) > 30) = true := by simp; omega
    have hcm2 : decide ((30 : Int) < (l.length : Int)) = true := by simp; omega
    clear hp
    go_enter Try.func5, Try.ntmps5
    go_wp2_with (go_at_call 9; refine (head_any _).mono ?_; rintro en w1 ⟨rfl, hb⟩; have HB1 := Lib.hid hb; clear hb)
    go_ret
    exact ⟨rfl, HB1.out⟩

end Go.Proofs.Ytdpbihbcggpobaa
