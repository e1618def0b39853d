/- The walks of near, first, Compare, sorted and Orient. -/
import Derived.Test.YtdpbihbcggpobaaG1
namespace Go.Proofs.Ytdpbihbcggpobaa
open Go.RowKit

/-- The cells of points, one behind the other. -/
def flatPts (ps : List Pt) : List Value := ps.flatMap fun p => [.int .i64 p.1, .int .i64 p.2]
theorem flatPts_length (ps : List Pt) : (flatPts ps).length = 2 * ps.length := by
  unfold flatPts
  induction ps with
  | nil => rfl
  | cons p ps ih => rw [List.flatMap_cons, List.length_append, ih]; simp only [List.length_cons, List.length_nil]; omega
theorem flatPts_at : ∀ (ps : List Pt) (i : Nat) (h : i < ps.length), (flatPts ps)[i * 2]? = some (.int .i64 ps[i].1) ∧ (flatPts ps)[i * 2 + 1]? = some (.int .i64 ps[i].2)
  | p :: ps, 0, _ => ⟨rfl, rfl⟩
  | p :: ps, i + 1, h => by
    have ih := flatPts_at ps i (Nat.lt_of_succ_lt_succ h)
    have e1 : (i + 1) * 2 = i * 2 + 1 + 1 := by omega
    rw [e1]
    exact ih

/-- Block B holds these points. -/
def PtsAt (w : World) (B : Nat) (ps : List Pt) : Prop := B < w.heap.size ∧ ∀ i (h : i < ps.length), w.rangeAt B (i * 2) [.int .i64 ps[i].1, .int .i64 ps[i].2]
theorem PtsAt.below {w w' : World} {B : Nat} {ps : List Pt} (h : PtsAt w B ps) (hb : Below w.heap.size w w') : PtsAt w' B ps :=
  ⟨Nat.lt_of_lt_of_le h.1 hb.size, fun i hi j v hj => (hb.cell (p := ⟨B, i * 2 + j, none⟩) h.1).trans (h.2 i hi j v hj)⟩
theorem pts_lit (w : World) (ps : List Pt) (t : TypeId) (cs : List Value) (hc : cs = flatPts ps) : PtsAt (w.alloc (.cells cs.toArray t)) w.heap.size ps := by
  subst hc
  refine ⟨by simp, fun i hi j v hj => ?_⟩
  have hh : (w.alloc (.cells (flatPts ps).toArray t)).heap[w.heap.size]? = some (.cells (flatPts ps).toArray t (0, 0)) := by
    show (w.heap.push _)[w.heap.size]? = _
    simp
  rw [World.cell?, hh]
  obtain ⟨a1, a2⟩ := flatPts_at ps i hi
  match j, hj with
  | 0, hj => rw [← Option.some.inj hj]; simpa using a1
  | 1, hj => rw [← Option.some.inj hj]; simpa using a2

theorem info32 : (Try.prog.info? 32).map (·.size) = some 2 := by kernel_rfl
theorem at_load32 {P : Program} {ops : Array Oper} {rest : List Oper} {o : Oper} {a : Act} {w : World} {Q : Exit → Act → World → Prop} (x : Operand) (_ho : o.op = .load 32 x) (h : wpList P ops Q (o :: rest) a w) : wpList P ops Q (o :: rest) a w := h

theorem nearB_iff {p : Pt} : nearB p = true ↔ -2097152 ≤ p.1 ∧ p.1 ≤ 2097152 ∧ -2097152 ≤ p.2 ∧ p.2 ≤ 2097152 := by
  unfold nearB; simp only [Bool.and_eq_true, decide_eq_true_iff, and_assoc]
theorem all_take {ps : List Pt} {k : Nat} (hk : k < ps.length) : (ps.take (k + 1)).all nearB = ((ps.take k).all nearB && nearB ps[k]) := by
  rw [List.take_add_one, List.getElem?_eq_getElem hk, List.all_append]; simp
theorem all_no {ps : List Pt} {k : Nat} (hk : k < ps.length) (h : nearB ps[k] = false) : ps.all nearB = false := by
  cases e : ps.all nearB with
  | false => rfl
  | true => rw [List.all_eq_true.1 e _ (List.getElem_mem hk)] at h; cases h

set_option maxHeartbeats 4000000 in
theorem near_any (w : World) (B : Nat) (ps : List Pt) (h : PtsAt w B ps) (hl : ps.length ≤ 1000) : Calls Try.prog 29 #[.slice (some ⟨B, 0, none⟩) ps.length ps.length] w (BoolB (ps.all nearB) w) := by
  have HP := Lib.hid h
  clear h
  go_enter Try.func29, Try.ntmps29
  go_wp2_with fail
  go_loopg [7] ps.length (fun c i wr => ∃ k : Nat, k + c = ps.length ∧ i = .int .i64 k ∧ Below w.heap.size w wr ∧ (ps.take k).all nearB = true)
  case atStart => exact ⟨0, by omega, rfl, Below.refl _ _, rfl⟩
  case round =>
    obtain ⟨k, hk, rfl, hb, ha⟩ := hrel
    have HK := Lib.hid hk
    have HB := Lib.hid hb
    have HA := Lib.hid ha
    have hkl : k ≤ ps.length := by omega
    clear hk hb ha
    by_cases hlt : k < ps.length
    · have hki : (k : Int) < (ps.length : Int) := by omega
      have HRA := Lib.hid ((HP.out.below HB.out).2 k hlt)
      have HAT := Lib.hid (all_take hlt)
      have HNO := Lib.hid (all_no (ps := ps) hlt)
      have HNI := Lib.hid (nearB_iff (p := ps[k]))
      generalize ps[k] = u at *
      obtain ⟨x, y⟩ := u
      dsimp only at *
      rcases Int.lt_trichotomy x y with ho | ho | ho
      · by_cases hm : 2097152 < y
        · have HN : Hid (ps.all nearB = false) := Lib.hid (HNO.out (by cases e : nearB (x, y) with | false => rfl | true => (have := HNI.out.1 e; omega)))
          go_wp2_with ((with_reducible refine at_load32 _ rfl ?_); refine wpList_load_mid rfl 32 _ rfl B (k * 2) rfl _ _ HRA.out Try.underlying32 rfl info32 ?_)
          have hfin : BoolB (ps.all nearB) w (.returned (.bool false)) (wr.alloc (.cells #[.int .i64 x, .int .i64 y] 32)) := ⟨by rw [HN.out], HB.out.trans ((Below.refl _ _).alloc HB.out.size _)⟩
          go_ret
          exact hfin
        · by_cases hn : x < -2097152
          · have HN : Hid (ps.all nearB = false) := Lib.hid (HNO.out (by cases e : nearB (x, y) with | false => rfl | true => (have := HNI.out.1 e; omega)))
            go_wp2_with ((with_reducible refine at_load32 _ rfl ?_); refine wpList_load_mid rfl 32 _ rfl B (k * 2) rfl _ _ HRA.out Try.underlying32 rfl info32 ?_)
            have hfin : BoolB (ps.all nearB) w (.returned (.bool false)) (wr.alloc (.cells #[.int .i64 x, .int .i64 y] 32)) := ⟨by rw [HN.out], HB.out.trans ((Below.refl _ _).alloc HB.out.size _)⟩
            go_ret
            exact hfin
          · have HN : Hid ((ps.take (k + 1)).all nearB = true) := Lib.hid (by rw [HAT.out, HA.out, HNI.out.2 (by omega)]; rfl)
            go_wp2_with ((with_reducible refine at_load32 _ rfl ?_); refine wpList_load_mid rfl 32 _ rfl B (k * 2) rfl _ _ HRA.out Try.underlying32 rfl info32 ?_)
            have hfin : Below w.heap.size w (wr.alloc (.cells #[.int .i64 x, .int .i64 y] 32)) := HB.out.trans ((Below.refl _ _).alloc HB.out.size _)
            have hk1 := HK.out
            go_roundg (gk - 1)
            case measure => omega
            case rel => exact ⟨k + 1, by omega, by go_num, hfin, HN.out⟩
      · subst ho
        by_cases hm : 2097152 < x
        · have HN : Hid (ps.all nearB = false) := Lib.hid (HNO.out (by cases e : nearB (x, x) with | false => rfl | true => (have := HNI.out.1 e; omega)))
          go_wp2_with ((with_reducible refine at_load32 _ rfl ?_); refine wpList_load_mid rfl 32 _ rfl B (k * 2) rfl _ _ HRA.out Try.underlying32 rfl info32 ?_)
          have hfin : BoolB (ps.all nearB) w (.returned (.bool false)) (wr.alloc (.cells #[.int .i64 x, .int .i64 x] 32)) := ⟨by rw [HN.out], HB.out.trans ((Below.refl _ _).alloc HB.out.size _)⟩
          go_ret
          exact hfin
        · by_cases hn : x < -2097152
          · have HN : Hid (ps.all nearB = false) := Lib.hid (HNO.out (by cases e : nearB (x, x) with | false => rfl | true => (have := HNI.out.1 e; omega)))
            go_wp2_with ((with_reducible refine at_load32 _ rfl ?_); refine wpList_load_mid rfl 32 _ rfl B (k * 2) rfl _ _ HRA.out Try.underlying32 rfl info32 ?_)
            have hfin : BoolB (ps.all nearB) w (.returned (.bool false)) (wr.alloc (.cells #[.int .i64 x, .int .i64 x] 32)) := ⟨by rw [HN.out], HB.out.trans ((Below.refl _ _).alloc HB.out.size _)⟩
            go_ret
            exact hfin
          · have HN : Hid ((ps.take (k + 1)).all nearB = true) := Lib.hid (by rw [HAT.out, HA.out, HNI.out.2 (by omega)]; rfl)
            go_wp2_with ((with_reducible refine at_load32 _ rfl ?_); refine wpList_load_mid rfl 32 _ rfl B (k * 2) rfl _ _ HRA.out Try.underlying32 rfl info32 ?_)
            have hfin : Below w.heap.size w (wr.alloc (.cells #[.int .i64 x, .int .i64 x] 32)) := HB.out.trans ((Below.refl _ _).alloc HB.out.size _)
            have hk1 := HK.out
            go_roundg (gk - 1)
            case measure => omega
            case rel => exact ⟨k + 1, by omega, by go_num, hfin, HN.out⟩
      · by_cases hm : 2097152 < x
        · have HN : Hid (ps.all nearB = false) := Lib.hid (HNO.out (by cases e : nearB (x, y) with | false => rfl | true => (have := HNI.out.1 e; omega)))
          go_wp2_with ((with_reducible refine at_load32 _ rfl ?_); refine wpList_load_mid rfl 32 _ rfl B (k * 2) rfl _ _ HRA.out Try.underlying32 rfl info32 ?_)
          have hfin : BoolB (ps.all nearB) w (.returned (.bool false)) (wr.alloc (.cells #[.int .i64 x, .int .i64 y] 32)) := ⟨by rw [HN.out], HB.out.trans ((Below.refl _ _).alloc HB.out.size _)⟩
          go_ret
          exact hfin
        · by_cases hn : y < -2097152
          · have HN : Hid (ps.all nearB = false) := Lib.hid (HNO.out (by cases e : nearB (x, y) with | false => rfl | true => (have := HNI.out.1 e; omega)))
            go_wp2_with ((with_reducible refine at_load32 _ rfl ?_); refine wpList_load_mid rfl 32 _ rfl B (k * 2) rfl _ _ HRA.out Try.underlying32 rfl info32 ?_)
            have hfin : BoolB (ps.all nearB) w (.returned (.bool false)) (wr.alloc (.cells #[.int .i64 x, .int .i64 y] 32)) := ⟨by rw [HN.out], HB.out.trans ((Below.refl _ _).alloc HB.out.size _)⟩
            go_ret
            exact hfin
          · have HN : Hid ((ps.take (k + 1)).all nearB = true) := Lib.hid (by rw [HAT.out, HA.out, HNI.out.2 (by omega)]; rfl)
            go_wp2_with ((with_reducible refine at_load32 _ rfl ?_); refine wpList_load_mid rfl 32 _ rfl B (k * 2) rfl _ _ HRA.out Try.underlying32 rfl info32 ?_)
            have hfin : Below w.heap.size w (wr.alloc (.cells #[.int .i64 x, .int .i64 y] 32)) := HB.out.trans ((Below.refl _ _).alloc HB.out.size _)
            have hk1 := HK.out
            go_roundg (gk - 1)
            case measure => omega
            case rel => exact ⟨k + 1, by omega, by go_num, hfin, HN.out⟩
    · have hki : decide ((k : Int) < (ps.length : Int)) = false := by simp; omega
      have hki2 : decide (k < ps.length) = false := by simp; omega
      have hfin : BoolB (ps.all nearB) w (.returned (.bool true)) wr := by
        have := HA.out
        rw [List.take_of_length_le (by omega)] at this
        exact ⟨by rw [this], HB.out⟩
      have HFIN := Lib.hid hfin
      clear hfin
      go_wp2_with fail
      go_ret
      exact HFIN.out

end Go.Proofs.Ytdpbihbcggpobaa
