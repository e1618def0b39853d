/- The walks of first, Compare, sorted. -/
import Derived.Test.YtdpbihbcggpobaaG2
namespace Go.Proofs.Ytdpbihbcggpobaa
open Go.RowKit

theorem info95 : (Try.prog.info? 95).map (·.size) = some 2 := by kernel_rfl
theorem at_load95 {P : Program} {ops : Array Oper} {rest : List Oper} {o : Oper} {a : Act} {w : World} {Q : Exit → Act → World → Prop} (x : Operand) (_ho : o.op = .load 95 x) (h : wpList P ops Q (o :: rest) a w) : wpList P ops Q (o :: rest) a w := h

set_option maxHeartbeats 4000000 in
theorem first_any (w : World) (B : Nat) (x1 y1 x2 y2 : Int) (h : PtsAt w B [(x1, y1), (x2, y2)]) : Calls Try.prog 65 #[.slice (some ⟨B, 0, none⟩) 2 2] w (IntB (cmpP (x1, x2) (y1, y2)) w) := by
  have h0 := h.2 0 (by simp)
  have h1 := fun W (hb : Below w.heap.size w W) => (h.below hb).2 1 (by simp)
  have HR0 : Hid (w.rangeAt B 0 [.int .i64 x1, .int .i64 y1]) := Lib.hid h0
  have HR1 : Hid (∀ W, Below w.heap.size w W → W.rangeAt B 2 [.int .i64 x2, .int .i64 y2]) := Lib.hid h1
  clear h h0 h1
  have hb1 : Below w.heap.size w (w.alloc (.cells #[.int .i64 x1, .int .i64 y1] 95)) := (Below.refl _ _).alloc (Nat.le_refl _) _
  have hb2 : Below w.heap.size w ((w.alloc (.cells #[.int .i64 x1, .int .i64 y1] 95)).alloc (.cells #[.int .i64 x2, .int .i64 y2] 95)) := hb1.alloc (by simp) _
  have HB1 := Lib.hid hb1
  have HB2 := Lib.hid hb2
  clear hb1 hb2
  have HR1' := Lib.hid (HR1.out _ HB1.out)
  have hc1 := fun W => cmp_any x1 y1 W
  have hc2 := fun W => cmp_any x2 y2 W
  have HE : Hid (cmpP (x1, x2) (y1, y2) = if cmpI x1 y1 = 0 then cmpI x2 y2 else cmpI x1 y1) := Lib.hid rfl
  generalize cmpP (x1, x2) (y1, y2) = r at *
  unfold IntIs at hc1 hc2
  generalize cmpI x1 y1 = c1 at *
  generalize cmpI x2 y2 = c2 at *
  have HC1 := Lib.hid hc1
  have HC2 := Lib.hid hc2
  clear hc1 hc2
  by_cases e1 : c1 = 0
  · have HE1 : Hid (r = c2) := Lib.hid (by rw [HE.out, if_pos e1])
    have b1 : (c1 != 0) = false := by rw [e1]; rfl
    clear e1 HE
    by_cases e2 : c2 = 0
    · have b2 : (c2 != 0) = false := by rw [e2]; rfl
      have hfin : IntB r w (.returned (.int .i64 0)) ((w.alloc (.cells #[.int .i64 x1, .int .i64 y1] 95)).alloc (.cells #[.int .i64 x2, .int .i64 y2] 95)) := ⟨by rw [HE1.out, e2], HB2.out⟩
      have HFIN := Lib.hid hfin
      clear hfin e2
      go_enter Try.func65, Try.ntmps65
      go_wp2_with fail
      refine wp_loop_rounds 3 ?_
      rw [rounds_succ]
      go_wp2_with (first | ((with_reducible refine at_load95 _ rfl ?_); refine wpList_load_mid rfl 95 _ rfl B 0 rfl _ _ HR0.out Try.underlying95 rfl info95 ?_) | (go_at_call 22; refine (HC1.out _).mono ?_; rintro e w' ⟨rfl, rfl⟩))
      rw [rounds_succ]
      go_wp2_with (first | ((with_reducible refine at_load95 _ rfl ?_); refine wpList_load_mid rfl 95 _ rfl B 2 rfl _ _ HR1'.out Try.underlying95 rfl info95 ?_) | (go_at_call 22; refine (HC2.out _).mono ?_; rintro e w' ⟨rfl, rfl⟩))
      rw [rounds_succ]
      go_wp2_with fail
      go_ret
      exact HFIN.out
    · have b2 : (c2 != 0) = true := by rw [bne_iff_ne]; exact e2
      have hfin : IntB r w (.returned (.int .i64 c2)) ((w.alloc (.cells #[.int .i64 x1, .int .i64 y1] 95)).alloc (.cells #[.int .i64 x2, .int .i64 y2] 95)) := ⟨by rw [HE1.out], HB2.out⟩
      have HFIN := Lib.hid hfin
      clear hfin e2
      go_enter Try.func65, Try.ntmps65
      go_wp2_with fail
      refine wp_loop_rounds 3 ?_
      rw [rounds_succ]
      go_wp2_with (first | ((with_reducible refine at_load95 _ rfl ?_); refine wpList_load_mid rfl 95 _ rfl B 0 rfl _ _ HR0.out Try.underlying95 rfl info95 ?_) | (go_at_call 22; refine (HC1.out _).mono ?_; rintro e w' ⟨rfl, rfl⟩))
      rw [rounds_succ]
      go_wp2_with (first | ((with_reducible refine at_load95 _ rfl ?_); refine wpList_load_mid rfl 95 _ rfl B 2 rfl _ _ HR1'.out Try.underlying95 rfl info95 ?_) | (go_at_call 22; refine (HC2.out _).mono ?_; rintro e w' ⟨rfl, rfl⟩))
      go_ret
      exact HFIN.out
  · have b1 : (c1 != 0) = true := by rw [bne_iff_ne]; exact e1
    have hfin : IntB r w (.returned (.int .i64 c1)) (w.alloc (.cells #[.int .i64 x1, .int .i64 y1] 95)) := ⟨by rw [HE.out, if_neg e1], HB1.out⟩
    have HFIN := Lib.hid hfin
    clear hfin e1
    go_enter Try.func65, Try.ntmps65
    go_wp2_with fail
    refine wp_loop_rounds 3 ?_
    rw [rounds_succ]
    go_wp2_with (first | ((with_reducible refine at_load95 _ rfl ?_); refine wpList_load_mid rfl 95 _ rfl B 0 rfl _ _ HR0.out Try.underlying95 rfl info95 ?_) | (go_at_call 22; refine (HC1.out _).mono ?_; rintro e w' ⟨rfl, rfl⟩))
    go_ret
    exact HFIN.out

end Go.Proofs.Ytdpbihbcggpobaa
