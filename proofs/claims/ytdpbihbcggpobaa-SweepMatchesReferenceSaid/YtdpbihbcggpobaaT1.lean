/- Items and meetings as values; the walks of the sweep's closures. -/
import Derived.Test.YtdpbihbcggpobaaG9
namespace Go.Proofs.Ytdpbihbcggpobaa
open Go.RowKit

/-- The cells of an item: its index, its segment, its bounds. -/
def itCells (a : It) : List Value := [.int .i64 a.ix, .int .i64 a.s.1.1, .int .i64 a.s.1.2, .int .i64 a.s.2.1, .int .i64 a.s.2.2, .int .i64 a.xl, .int .i64 a.xh, .int .i64 a.yl, .int .i64 a.yh]
def it (a : It) : Value := .agg (itCells a).toArray
/-- The cells of a meeting. -/
def mtCells (m : Mt) : List Value := [.int .i64 m.1, .int .i64 m.2.1, .int .i64 m.2.2]

/-- cmp.Or at two numbers, their slice's block just laid. -/
def orI (x y : Int) : Int := if x = 0 then y else x
set_option maxHeartbeats 4000000 in
theorem or_any (W : World) (x y : Int) : Calls Try.prog 21 #[.slice (some ⟨W.heap.size, 0, none⟩) 2 2] (W.alloc (.cells #[.int .i64 x, .int .i64 y] 3)) (IntIs (orI x y) (W.alloc (.cells #[.int .i64 x, .int .i64 y] 3))) := by
  have hk := blk_new W [.int .i64 x, .int .i64 y] 3
  generalize W.alloc _ = w at *
  generalize W.heap.size = B at *
  have c0 := hk.c 0 rfl
  have c1 := hk.c 1 rfl
  clear hk
  by_cases hx : x = 0
  · have b1 : (x != 0) = false := by rw [hx]; rfl
    have HX : Hid (orI x y = y) := Lib.hid (by unfold orI; rw [if_pos hx])
    generalize orI x y = r at *
    clear hx
    by_cases hy : y = 0
    · have b2 : (y != 0) = false := by rw [hy]; rfl
      have HY := Lib.hid hy
      clear hy
      go_enter Try.func21, Try.ntmps21
      go_wp2_with fail
      refine wp_loop_rounds 3 ?_
      rw [rounds_succ]
      go_wp2_with fail
      rw [rounds_succ]
      go_wp2_with fail
      rw [rounds_succ]
      go_wp2_with fail
      go_ret
      exact (⟨by rw [HX.out, HY.out], rfl⟩ : IntIs r w (.returned (.int .i64 0)) w)
    · have b2 : (y != 0) = true := by rw [bne_iff_ne]; exact hy
      clear hy
      go_enter Try.func21, Try.ntmps21
      go_wp2_with fail
      refine wp_loop_rounds 3 ?_
      rw [rounds_succ]
      go_wp2_with fail
      rw [rounds_succ]
      go_wp2_with fail
      go_ret
      exact (⟨by rw [HX.out], rfl⟩ : IntIs r w (.returned (.int .i64 y)) w)
  · have b1 : (x != 0) = true := by rw [bne_iff_ne]; exact hx
    have HX : Hid (orI x y = x) := Lib.hid (by unfold orI; rw [if_neg hx])
    generalize orI x y = r at *
    clear hx
    go_enter Try.func21, Try.ntmps21
    go_wp2_with fail
    refine wp_loop_rounds 3 ?_
    rw [rounds_succ]
    go_wp2_with fail
    go_ret
    exact (⟨by rw [HX.out], rfl⟩ : IntIs r w (.returned (.int .i64 x)) w)

/-- What a comparison leaves: three blocks more, some draws. -/
def Laid3 (n : Int) (W : World) (e : Ending) (w' : World) : Prop := e = .returned (.int .i64 n) ∧ ∃ q o1 o2 o3, w' = (((W.alloc o1).alloc o2).alloc o3).drewN q

/-- The comparison of two meetings. -/
def cfM (a b : Mt) : Int := orI ((a.1 : Int) - b.1) ((a.2.1 : Int) - b.2.1)
set_option maxHeartbeats 4000000 in
theorem cmpM_any (a b : Mt) (W : World) (ha : a.1 ≤ 1000000 ∧ a.2.1 ≤ 1000000) (hb : b.1 ≤ 1000000 ∧ b.2.1 ≤ 1000000) :
    Calls Try.prog 27 #[.agg (mtCells a).toArray, .agg (mtCells b).toArray] W (Laid3 (cfM a b) W) := by
  have hor := fun W' => or_any W' ((a.1 : Int) - b.1) ((a.2.1 : Int) - b.2.1)
  obtain ⟨m1, m2, m3⟩ := a
  obtain ⟨n1, n2, n3⟩ := b
  unfold mtCells cfM
  unfold IntIs at hor
  dsimp only at *
  generalize orI ((m1 : Int) - n1) ((m2 : Int) - n2) = r at *
  have HOR := Lib.hid hor
  clear hor
  go_enter Try.func27, Try.ntmps27
  go_upto_region 1 with fail
  have k1 := blk_new W [.int .i64 (m1 : Int), .int .i64 (m2 : Int), .int .i64 m3] 36
  have b1 := below_new W (.cells #[.int .i64 (m1 : Int), .int .i64 (m2 : Int), .int .i64 m3] 36)
  have z1 := size_new W (.cells #[.int .i64 (m1 : Int), .int .i64 (m2 : Int), .int .i64 m3] 36)
  generalize hw1 : World.alloc W _ = w1 at *
  have hb1 := b1
  have hz1 : w1.heap.size = W.heap.size + 1 := z1
  have k2 := blk_new w1 [.int .i64 (n1 : Int), .int .i64 (n2 : Int), .int .i64 n3] 36
  have b2 := below_new w1 (.cells #[.int .i64 (n1 : Int), .int .i64 (n2 : Int), .int .i64 n3] 36)
  have z2 := size_new w1 (.cells #[.int .i64 (n1 : Int), .int .i64 (n2 : Int), .int .i64 n3] 36)
  replace k1 := k1.below b2
  generalize hw2 : World.alloc w1 _ = w2 at *
  replace k2 := blk_at k2 hz1
  have hb2 := hb1.trans (b2.mono hb1.size)
  have hz2 : w2.heap.size = W.heap.size + 2 := by omega
  have HW := Lib.hid hb2
  have HZ := Lib.hid hz2
  have K1 := Lib.hid k1
  have K2 := Lib.hid k2
  clear b1 z1 hb1 hz1 b2 z2 hb2 hz2
  have HW1 := Lib.hid hw1
  have HW2 := Lib.hid hw2
  clear hw1 hw2
  have a0 := k1.c 0 rfl
  have a1' := k1.c 1 rfl
  have b0 := k2.c 0 rfl
  have b1' := k2.c 1 rfl
  clear k1 k2
  go_wp2_with (go_at_call 21; refine (HOR.out _).mono ?_; rintro en w' ⟨rfl, rfl⟩)
  have hfin : Laid3 r W (.returned (.int .i64 r)) (w2.alloc (.cells #[.int .i64 ((m1 : Int) - n1), .int .i64 ((m2 : Int) - n2)] 3)) := ⟨rfl, 0, _, _, _, by rw [← HW2.out, ← HW1.out]; rfl⟩
  go_ret
  exact hfin

theorem keep4 {w : World} {B C : Nat} {x y z u : Value} {o : Obj} (hB : B < w.heap.size) (hC : C < w.heap.size) (h : w.cell? ⟨B, 0, none⟩ = some x ∧ w.cell? ⟨B, 5, none⟩ = some y ∧ w.cell? ⟨C, 0, none⟩ = some z ∧ w.cell? ⟨C, 5, none⟩ = some u) :
    (w.alloc o).cell? ⟨B, 0, none⟩ = some x ∧ (w.alloc o).cell? ⟨B, 5, none⟩ = some y ∧ (w.alloc o).cell? ⟨C, 0, none⟩ = some z ∧ (w.alloc o).cell? ⟨C, 5, none⟩ = some u :=
  ⟨(World.cell?_alloc_lt w o ⟨B, 0, none⟩ hB).trans h.1, (World.cell?_alloc_lt w o ⟨B, 5, none⟩ hB).trans h.2.1, (World.cell?_alloc_lt w o ⟨C, 0, none⟩ hC).trans h.2.2.1, (World.cell?_alloc_lt w o ⟨C, 5, none⟩ hC).trans h.2.2.2⟩
/-- The comparison of two items. -/
def cfI (a b : It) : Int := orI (cmpI a.xl b.xl) ((a.ix : Int) - b.ix)
set_option maxHeartbeats 8000000 in
set_option maxRecDepth 100000 in
theorem cmpIt_any (a b : It) (W : World) (ha : a.ix ≤ 1000000) (hb : b.ix ≤ 1000000) :
    Calls Try.prog 20 #[it a, it b] W (Laid3 (cfI a b) W) := by
  have hor : ∀ W' : World, Calls Try.prog 21 #[.slice (some ⟨W'.heap.size, 0, none⟩) 2 2] (W'.alloc (.cells #[.int .i64 (cmpI a.xl b.xl), .int .i64 ((a.ix : Int) - b.ix)] 3)).drew (IntIs (orI (cmpI a.xl b.xl) ((a.ix : Int) - b.ix)) (W'.alloc (.cells #[.int .i64 (cmpI a.xl b.xl), .int .i64 ((a.ix : Int) - b.ix)] 3)).drew) := fun W' => or_any W'.drew (cmpI a.xl b.xl) ((a.ix : Int) - b.ix)
  have hc := fun W' => cmp_any a.xl b.xl W'
  unfold it itCells cfI
  unfold IntIs at hor hc
  generalize orI (cmpI a.xl b.xl) ((a.ix : Int) - b.ix) = r at *
  generalize cmpI a.xl b.xl = c at *
  generalize a.xl = axl at *
  generalize a.xh = axh at *
  generalize a.yl = ayl at *
  generalize a.yh = ayh at *
  generalize b.xl = bxl at *
  generalize b.xh = bxh at *
  generalize b.yl = byl at *
  generalize b.yh = byh at *
  obtain ⟨ai, ⟨⟨p1, p2⟩, ⟨p3, p4⟩⟩⟩ := a
  obtain ⟨bi, ⟨⟨q1, q2⟩, ⟨q3, q4⟩⟩⟩ := b
  dsimp only at *
  have HOR := Lib.hid hor
  have HC := Lib.hid hc
  clear hor hc
  go_enter Try.func20, Try.ntmps20
  go_upto_region 1 with fail
  have k1 := blk_new W [.int .i64 (ai : Int), .int .i64 p1, .int .i64 p2, .int .i64 p3, .int .i64 p4, .int .i64 axl, .int .i64 axh, .int .i64 ayl, .int .i64 ayh] 49
  have b1 := below_new W (.cells #[.int .i64 (ai : Int), .int .i64 p1, .int .i64 p2, .int .i64 p3, .int .i64 p4, .int .i64 axl, .int .i64 axh, .int .i64 ayl, .int .i64 ayh] 49)
  have z1 := size_new W (.cells #[.int .i64 (ai : Int), .int .i64 p1, .int .i64 p2, .int .i64 p3, .int .i64 p4, .int .i64 axl, .int .i64 axh, .int .i64 ayl, .int .i64 ayh] 49)
  generalize hw1 : World.alloc W _ = w1 at *
  have hb1 := b1
  have hz1 : w1.heap.size = W.heap.size + 1 := z1
  have k2 := blk_new w1 [.int .i64 (bi : Int), .int .i64 q1, .int .i64 q2, .int .i64 q3, .int .i64 q4, .int .i64 bxl, .int .i64 bxh, .int .i64 byl, .int .i64 byh] 49
  have b2 := below_new w1 (.cells #[.int .i64 (bi : Int), .int .i64 q1, .int .i64 q2, .int .i64 q3, .int .i64 q4, .int .i64 bxl, .int .i64 bxh, .int .i64 byl, .int .i64 byh] 49)
  have z2 := size_new w1 (.cells #[.int .i64 (bi : Int), .int .i64 q1, .int .i64 q2, .int .i64 q3, .int .i64 q4, .int .i64 bxl, .int .i64 bxh, .int .i64 byl, .int .i64 byh] 49)
  replace k1 := k1.below b2
  generalize hw2 : World.alloc w1 _ = w2 at *
  replace k2 := blk_at k2 hz1
  have hb2 := hb1.trans (b2.mono hb1.size)
  have hz2 : w2.heap.size = W.heap.size + 2 := by omega
  have HW := Lib.hid hb2
  have HZ := Lib.hid hz2
  have K1 := Lib.hid k1
  have K2 := Lib.hid k2
  clear b1 z1 hb1 hz1 b2 z2 hb2 hz2
  have HW1 := Lib.hid hw1
  have HW2 := Lib.hid hw2
  clear hw1 hw2
  have c0 := k1.c 0 rfl
  have c5 := k1.c 5 rfl
  have d0 := k2.c 0 rfl
  have d5 := k2.c 5 rfl
  have HK := Lib.hid (⟨c0, c5, d0, d5⟩ : w2.cell? ⟨W.heap.size, 0, none⟩ = some (.int .i64 (ai : Int)) ∧ w2.cell? ⟨W.heap.size, 5, none⟩ = some (.int .i64 axl) ∧ w2.cell? ⟨W.heap.size + 1, 0, none⟩ = some (.int .i64 (bi : Int)) ∧ w2.cell? ⟨W.heap.size + 1, 5, none⟩ = some (.int .i64 bxl))
  have l1 := k1.lt
  have l2 := k2.lt
  clear k1 k2 c0 c5 d0 d5
  have hwr : IntKind.i64.wrap ((ai : Int) - (bi : Int)) = (ai : Int) - (bi : Int) := IntWalk.i64_in _ (by omega)
  go_region_held3 (fun w' => w'.cell? ⟨W.heap.size, 0, none⟩ = some (.int .i64 (ai : Int)) ∧ w'.cell? ⟨W.heap.size, 5, none⟩ = some (.int .i64 axl) ∧ w'.cell? ⟨W.heap.size + 1, 0, none⟩ = some (.int .i64 (bi : Int)) ∧ w'.cell? ⟨W.heap.size + 1, 5, none⟩ = some (.int .i64 bxl))
    (first | exact HK.out | exact keep4 l1 l2 HK.out)
    (first
      | (go_at_call 22; refine (HC.out _).mono ?_; rintro en w' ⟨rfl, rfl⟩)
      | (go_at_call 21; refine (HOR.out _).mono ?_; rintro en w' ⟨rfl, rfl⟩))
  clear hwr
  have hfin : Laid3 r W (.returned (.int .i64 r)) (w2.alloc (.cells #[.int .i64 c, .int .i64 ((ai : Int) - (bi : Int))] 3)).drew := ⟨rfl, 1, _, _, _, by rw [← HW2.out, ← HW1.out]; rfl⟩
  go_wp2_with fail
  go_ret
  exact hfin

end Go.Proofs.Ytdpbihbcggpobaa
