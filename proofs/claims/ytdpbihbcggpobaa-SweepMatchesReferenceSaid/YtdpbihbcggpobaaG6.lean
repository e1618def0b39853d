/- The walk of On. -/
import Derived.Test.YtdpbihbcggpobaaG5
namespace Go.Proofs.Ytdpbihbcggpobaa
open Go.RowKit

/-- Whether two points are equal. -/
def ptEq (a b c d : Int) : Bool := a == c && b == d
theorem ptEq_iff {p q : Pt} : ptEq p.1 p.2 q.1 q.2 = true ↔ p = q := by
  unfold ptEq
  rw [Bool.and_eq_true, beq_iff_eq, beq_iff_eq]
  exact ⟨fun h => Prod.ext h.1 h.2, fun h => by rw [h]; exact ⟨rfl, rfl⟩⟩
theorem ptEq_dec (p q : Pt) : ptEq p.1 p.2 q.1 q.2 = decide (p = q) := by
  rw [Bool.eq_iff_iff, ptEq_iff, decide_eq_true_iff]
theorem guard32 : Try.prog.eqGuardType Try.prog.depth 32 = false := by kernel_rfl
theorem eql32 (a b c d : Int) (w : World) : (binOp .eql 32 (.agg #[.int .i64 a, .int .i64 b]) (.agg #[.int .i64 c, .int .i64 d])).run Try.prog w = .ok (.bool (ptEq a b c d)) w := by
  have u3 := Try.underlying3
  have a3 := Try.isAgg3
  have z3 := Try.sizeOf3
  have hS : Try.prog.underlying 32 = some (.struct (Try.prog.fieldsOf 32)) := by kernel_rfl
  have hp : Try.prog.stoodInHeld 32 = false := by kernel_rfl
  unfold ptEq
  rw [run_eql_struct, show (10000 : Nat) = 9999 + 1 from rfl, run_equalIn_agg w 9999 32 _ _ hS hp]
  simp only [Program.fieldsOf, Try.underlying32]
  go_simp
  by_cases h1 : a = c <;> by_cases h2 : b = d <;> simp [h1, h2]
theorem neq32 (a b c d : Int) (w : World) : (binOp .neq 32 (.agg #[.int .i64 a, .int .i64 b]) (.agg #[.int .i64 c, .int .i64 d])).run Try.prog w = .ok (.bool (!ptEq a b c d)) w := by
  have u3 := Try.underlying3
  have a3 := Try.isAgg3
  have z3 := Try.sizeOf3
  have hS : Try.prog.underlying 32 = some (.struct (Try.prog.fieldsOf 32)) := by kernel_rfl
  have hp : Try.prog.stoodInHeld 32 = false := by kernel_rfl
  unfold ptEq
  rw [run_neq_struct, show (10000 : Nat) = 9999 + 1 from rfl, run_equalIn_agg w 9999 32 _ _ hS hp]
  simp only [Program.fieldsOf, Try.underlying32]
  go_simp
  by_cases h1 : a = c <;> by_cases h2 : b = d <;> simp [h1, h2]

theorem Blk.set {w : World} {B : Nat} {cs : List Value} {t : TypeId} (h : Blk w B cs t) (i : Nat) (v : Value) : Blk (w.setCell ⟨B, i, none⟩ v) B (cs.set i v) t := by
  have := heap_setCell_same w B i cs.toArray t v h
  show _ = some _
  rw [this]
  simp
theorem Blk.other {w : World} {B : Nat} {cs : List Value} {t : TypeId} (h : Blk w B cs t) {C i : Nat} (hne : B ≠ C) (v : Value) : Blk (w.setCell ⟨C, i, none⟩ v) B cs t :=
  (heap_setCell_other w ⟨C, i, none⟩ B v hne).trans h

/-- A boxed segment and a boxed point; nothing of before has turned. -/
structure SP (w0 w : World) (B : Nat) (s : Sg) (p : Pt) : Prop where
  s : Blk w B (sgCells s) 34
  p : Blk w (B + 1) (ptC p) 32
  b : Below w0.heap.size w0 w
  h : w0.heap.size = B
theorem SP.below {w0 w w' : World} {B : Nat} {s : Sg} {p : Pt} (h : SP w0 w B s p) (hb : Below w.heap.size w w') : SP w0 w' B s p := ⟨h.s.below hb, h.p.below hb, h.b.trans (hb.mono h.b.size), h.h⟩
theorem SP.swap {w0 w : World} {B : Nat} {s : Sg} {p : Pt} (h : SP w0 w B s p) (s' : Sg) :
    SP w0 ((((w.setCell ⟨B, 0, none⟩ (.int .i64 s'.1.1)).setCell ⟨B, 1, none⟩ (.int .i64 s'.1.2)).setCell ⟨B, 2, none⟩ (.int .i64 s'.2.1)).setCell ⟨B, 3, none⟩ (.int .i64 s'.2.2)) B s' p := by
  refine ⟨(((h.s.set 0 _).set 1 _).set 2 _).set 3 _, (((h.p.other (by omega) _).other (by omega) _).other (by omega) _).other (by omega) _, ?_, h.h⟩
  have hle : w0.heap.size ≤ B := by rw [h.h]; exact Nat.le_refl _
  exact (((h.b.setCell hle _).setCell hle _).setCell hle _).setCell hle _

set_option maxHeartbeats 8000000 in
set_option maxRecDepth 100000 in
theorem on_any (s : Sg) (p : Pt) (w : World) : Calls Try.prog 44 #[sg s, pt p] w (BoolB (onS s p) w) := by
  have hN := fun W => near_any (W.alloc (.cells #[.int .i64 s.1.1, .int .i64 s.1.2, .int .i64 s.2.1, .int .i64 s.2.2, .int .i64 p.1, .int .i64 p.2] 32)) W.heap.size [s.1, s.2, p] (pts_lit W [s.1, s.2, p] 32 _ rfl) (by simp)
  have hS := fun W => sorted_any s W
  have hO := fun W => orient_any (sortS s).1 (sortS s).2 p W
  have hC1 := fun W => compare_any (sortS s).1 p W
  have hC2 := fun W => compare_any p (sortS s).2 W
  have hall : [s.1, s.2, p].all nearB = (nearB s.1 && nearB s.2 && nearB p) := by simp [Bool.and_assoc]
  have hon : onS s p = (nearB s.1 && nearB s.2 && nearB p && onLine (sortS s) p) := rfl
  have hol : onLine (sortS s) p = (decide (ori (sortS s).1 (sortS s).2 p = 0) && decide (cmpP (sortS s).1 p ≤ 0) && decide (cmpP p (sortS s).2 ≤ 0) && (!ptEq (sortS s).1.1 (sortS s).1.2 (sortS s).2.1 (sortS s).2.2 || ptEq p.1 p.2 (sortS s).1.1 (sortS s).1.2)) := by
    rw [ptEq_dec, ptEq_dec]; rfl
  have HE := Lib.hid hol
  clear hol
  have heq := eql32
  have hne := neq32
  have hg := guard32
  unfold BoolB at hN
  rw [hall] at hN
  rw [hon]
  clear hon hall
  unfold SgB at hS
  generalize sortS s = s' at *
  generalize onLine s' p = ol at *
  generalize ori s'.1 s'.2 p = o at *
  generalize cmpP s'.1 p = c1 at *
  generalize cmpP p s'.2 = c2 at *
  have hswap := fun w' B (h : SP w w' B s p) => h.swap s'
  have HSW := Lib.hid hswap
  clear hswap
  have hbx : ∀ w1 w2 : World, Blk w2 w.heap.size (sgCells s) 34 → Blk w2 (w.heap.size + 1) (ptC p) 32 → Below w.heap.size w w2 → SP w w2 w.heap.size s p := fun _ _ h1 h2 h3 => ⟨h1, h2, h3, rfl⟩
  have HBX := Lib.hid hbx
  clear hbx
  obtain ⟨⟨ax, ay⟩, ⟨bx, by_⟩⟩ := s
  obtain ⟨⟨ux, uy⟩, ⟨vx, vy⟩⟩ := s'
  obtain ⟨px, py⟩ := p
  unfold sg pt at *
  dsimp only at *
  cases hn : (nearB (ax, ay) && nearB (bx, by_) && nearB (px, py)) with
  | false =>
    rw [hn] at hN
    have HN := Lib.hid hN
    clear hn hN hS hO hC1 hC2 HE HSW
    go_enter Try.func44, Try.ntmps44
    go_upto_region 1 with fail
    have k1 := blk_new w [.int .i64 ax, .int .i64 ay, .int .i64 bx, .int .i64 by_] 34
    have b1 := below_new w (.cells #[.int .i64 ax, .int .i64 ay, .int .i64 bx, .int .i64 by_] 34)
    have z1 := size_new w (.cells #[.int .i64 ax, .int .i64 ay, .int .i64 bx, .int .i64 by_] 34)
    generalize World.alloc w _ = w1 at *
    have hb1 := b1
    have hz1 : w1.heap.size = w.heap.size + 1 := z1
    have k2 := blk_new w1 [.int .i64 px, .int .i64 py] 32
    have b2 := below_new w1 (.cells #[.int .i64 px, .int .i64 py] 32)
    have z2 := size_new w1 (.cells #[.int .i64 px, .int .i64 py] 32)
    replace k1 := k1.below b2
    generalize World.alloc w1 _ = w2 at *
    replace k2 := blk_at k2 hz1
    have hb2 := hb1.trans (b2.mono hb1.size)
    have hz2 : w2.heap.size = w.heap.size + 2 := by omega
    have HW := Lib.hid hb2
    have HZ := Lib.hid hz2
    have K1 := Lib.hid k1
    have K2 := Lib.hid k2
    clear b1 z1 hb1 hz1 b2 z2 hb2 hz2
    have hsp := HBX.out w1 w2 k1 k2 HW.out
    have cs0 := hsp.s.c 0 rfl; have cs1 := hsp.s.c 1 rfl; have cs2 := hsp.s.c 2 rfl; have cs3 := hsp.s.c 3 rfl; have cp0 := hsp.p.c 0 rfl; have cp1 := hsp.p.c 1 rfl
    clear k1 k2
    go_wp2_with (go_at_call 29; refine (HN.out _).mono ?_; rintro en w3 ⟨rfl, hb⟩; have hb3 := hsp.b.trans (((below_new w2 _).trans (hb.mono (by simp))).mono hsp.b.size); have HB3 := Lib.hid hb3; clear hb hb3)
    have hfin : BoolB (false && ol) w (.returned (.bool false)) w3 := ⟨rfl, HB3.out⟩
    go_ret
    exact hfin
  | true =>
    rw [hn] at hN
    rw [Bool.true_and]
    have HN := Lib.hid hN
    have HS := Lib.hid hS
    have HO := Lib.hid hO
    have HC1 := Lib.hid hC1
    have HC2 := Lib.hid hC2
    clear hn hN hS hO hC1 hC2
    unfold IntB at HO HC1 HC2
    have HR : Hid (∀ b W, b = ol → Below w.heap.size w W → BoolB ol w (.returned (.bool b)) W) := Lib.hid (fun b W h1 h2 => ⟨by rw [h1], h2⟩)
    go_enter Try.func44, Try.ntmps44
    go_upto_region 1 with fail
    have k1 := blk_new w [.int .i64 ax, .int .i64 ay, .int .i64 bx, .int .i64 by_] 34
    have b1 := below_new w (.cells #[.int .i64 ax, .int .i64 ay, .int .i64 bx, .int .i64 by_] 34)
    have z1 := size_new w (.cells #[.int .i64 ax, .int .i64 ay, .int .i64 bx, .int .i64 by_] 34)
    generalize World.alloc w _ = w1 at *
    have hb1 := b1
    have hz1 : w1.heap.size = w.heap.size + 1 := z1
    have k2 := blk_new w1 [.int .i64 px, .int .i64 py] 32
    have b2 := below_new w1 (.cells #[.int .i64 px, .int .i64 py] 32)
    have z2 := size_new w1 (.cells #[.int .i64 px, .int .i64 py] 32)
    replace k1 := k1.below b2
    generalize World.alloc w1 _ = w2 at *
    replace k2 := blk_at k2 hz1
    have hb2 := hb1.trans (b2.mono hb1.size)
    have hz2 : w2.heap.size = w.heap.size + 2 := by omega
    have HW := Lib.hid hb2
    have HZ := Lib.hid hz2
    have K1 := Lib.hid k1
    have K2 := Lib.hid k2
    clear b1 z1 hb1 hz1 b2 z2 hb2 hz2
    have hsp := HBX.out w1 w2 k1 k2 HW.out
    have cs0 := hsp.s.c 0 rfl; have cs1 := hsp.s.c 1 rfl; have cs2 := hsp.s.c 2 rfl; have cs3 := hsp.s.c 3 rfl; have cp0 := hsp.p.c 0 rfl; have cp1 := hsp.p.c 1 rfl
    have HSP := Lib.hid hsp
    clear k1 k2 hsp
    go_upto_region 3 with (go_at_call 29; refine (HN.out _).mono ?_; rintro en w3 ⟨rfl, hb⟩; have hsp3 := HSP.out.below ((below_new w2 _).trans (hb.mono (by simp))); have ds0 := hsp3.s.c 0 rfl; have ds1 := hsp3.s.c 1 rfl; have ds2 := hsp3.s.c 2 rfl; have ds3 := hsp3.s.c 3 rfl; have dp0 := hsp3.p.c 0 rfl; have dp1 := hsp3.p.c 1 rfl; have HSP3 := Lib.hid hsp3; clear hb hsp3)
    go_upto_region 4 with (go_at_call 30; refine (HS.out _).mono ?_; rintro en w4 ⟨rfl, hb⟩; have hsp4 := HSP3.out.below hb; have es0 := hsp4.s.c 0 rfl; have es1 := hsp4.s.c 1 rfl; have es2 := hsp4.s.c 2 rfl; have es3 := hsp4.s.c 3 rfl; have ep0 := hsp4.p.c 0 rfl; have ep1 := hsp4.p.c 1 rfl; have ef0 := hsp4.s.f 0; have ef1 := hsp4.s.f 1; have ef2 := hsp4.s.f 2; have ef3 := hsp4.s.f 3; have HSP4 := Lib.hid hsp4; clear hb hsp4)
    have hsp5 := HSW.out _ _ HSP4.out
    try dsimp only at hsp5
    generalize ((((World.setCell w4 _ _).setCell _ _).setCell _ _).setCell _ _) = w5 at *
    have gs0 := hsp5.s.c 0 rfl; have gs1 := hsp5.s.c 1 rfl; have gs2 := hsp5.s.c 2 rfl; have gs3 := hsp5.s.c 3 rfl; have gp0 := hsp5.p.c 0 rfl; have gp1 := hsp5.p.c 1 rfl
    have HSP5 := Lib.hid hsp5
    clear hsp5 es0 es1 es2 es3 ep0 ep1 ef0 ef1 ef2 ef3 ds0 ds1 ds2 ds3 dp0 dp1 cs0 cs1 cs2 cs3 cp0 cp1
    by_cases q0 : o = 0
    · have t0 : (o == 0) = true := by simpa using q0
      by_cases q1 : c1 ≤ 0
      · have t1 : decide (c1 ≤ 0) = true := by simpa using q1
        by_cases q2 : c2 ≤ 0
        · have t2 : decide (c2 ≤ 0) = true := by simpa using q2
          cases q3 : ptEq ux uy vx vy with
          | false =>
            have HV : Hid (true = ol) := Lib.hid (by rw [HE.out]; simp [*])
            go_wp2_with (first | (go_at_call 31; refine (HO.out _).mono ?_; rintro en w6 ⟨rfl, hb⟩; have hsp6 := HSP5.out.below hb; have hs0 := hsp6.s.c 0 rfl; have hs1 := hsp6.s.c 1 rfl; have hs2 := hsp6.s.c 2 rfl; have hs3 := hsp6.s.c 3 rfl; have hp0 := hsp6.p.c 0 rfl; have hp1 := hsp6.p.c 1 rfl; have HSP6 := Lib.hid hsp6; clear hb hsp6) | (go_at_call 41; (with_reducible refine (HC1.out _).mono ?_); rintro en w7 ⟨rfl, hb⟩; have hsp7 := HSP6.out.below hb; have is0 := hsp7.s.c 0 rfl; have is1 := hsp7.s.c 1 rfl; have is2 := hsp7.s.c 2 rfl; have is3 := hsp7.s.c 3 rfl; have ip0 := hsp7.p.c 0 rfl; have ip1 := hsp7.p.c 1 rfl; have HSP7 := Lib.hid hsp7; clear hb hsp7) | (go_at_call 41; (with_reducible refine (HC2.out _).mono ?_); rintro en w8 ⟨rfl, hb⟩; have hsp8 := HSP7.out.below hb; have js0 := hsp8.s.c 0 rfl; have js1 := hsp8.s.c 1 rfl; have js2 := hsp8.s.c 2 rfl; have js3 := hsp8.s.c 3 rfl; have jp0 := hsp8.p.c 0 rfl; have jp1 := hsp8.p.c 1 rfl; have HSP8 := Lib.hid hsp8; clear hb hsp8))
            have hfin := HR.out _ _ HV.out HSP8.out.b
            go_ret
            exact hfin
          | true =>
            have HV : Hid (ptEq px py ux uy = ol) := Lib.hid (by rw [HE.out]; simp [*])
            go_wp2_with (first | (go_at_call 31; refine (HO.out _).mono ?_; rintro en w6 ⟨rfl, hb⟩; have hsp6 := HSP5.out.below hb; have hs0 := hsp6.s.c 0 rfl; have hs1 := hsp6.s.c 1 rfl; have hs2 := hsp6.s.c 2 rfl; have hs3 := hsp6.s.c 3 rfl; have hp0 := hsp6.p.c 0 rfl; have hp1 := hsp6.p.c 1 rfl; have HSP6 := Lib.hid hsp6; clear hb hsp6) | (go_at_call 41; (with_reducible refine (HC1.out _).mono ?_); rintro en w7 ⟨rfl, hb⟩; have hsp7 := HSP6.out.below hb; have is0 := hsp7.s.c 0 rfl; have is1 := hsp7.s.c 1 rfl; have is2 := hsp7.s.c 2 rfl; have is3 := hsp7.s.c 3 rfl; have ip0 := hsp7.p.c 0 rfl; have ip1 := hsp7.p.c 1 rfl; have HSP7 := Lib.hid hsp7; clear hb hsp7) | (go_at_call 41; (with_reducible refine (HC2.out _).mono ?_); rintro en w8 ⟨rfl, hb⟩; have hsp8 := HSP7.out.below hb; have js0 := hsp8.s.c 0 rfl; have js1 := hsp8.s.c 1 rfl; have js2 := hsp8.s.c 2 rfl; have js3 := hsp8.s.c 3 rfl; have jp0 := hsp8.p.c 0 rfl; have jp1 := hsp8.p.c 1 rfl; have HSP8 := Lib.hid hsp8; clear hb hsp8))
            have hfin := HR.out _ _ HV.out HSP8.out.b
            go_ret
            exact hfin
        · have t2 : decide (c2 ≤ 0) = false := by simpa using q2
          have HV : Hid (false = ol) := Lib.hid (by rw [HE.out]; simp [*])
          go_wp2_with (first | (go_at_call 31; refine (HO.out _).mono ?_; rintro en w6 ⟨rfl, hb⟩; have hsp6 := HSP5.out.below hb; have hs0 := hsp6.s.c 0 rfl; have hs1 := hsp6.s.c 1 rfl; have hs2 := hsp6.s.c 2 rfl; have hs3 := hsp6.s.c 3 rfl; have hp0 := hsp6.p.c 0 rfl; have hp1 := hsp6.p.c 1 rfl; have HSP6 := Lib.hid hsp6; clear hb hsp6) | (go_at_call 41; (with_reducible refine (HC1.out _).mono ?_); rintro en w7 ⟨rfl, hb⟩; have hsp7 := HSP6.out.below hb; have is0 := hsp7.s.c 0 rfl; have is1 := hsp7.s.c 1 rfl; have is2 := hsp7.s.c 2 rfl; have is3 := hsp7.s.c 3 rfl; have ip0 := hsp7.p.c 0 rfl; have ip1 := hsp7.p.c 1 rfl; have HSP7 := Lib.hid hsp7; clear hb hsp7) | (go_at_call 41; (with_reducible refine (HC2.out _).mono ?_); rintro en w8 ⟨rfl, hb⟩; have hsp8 := HSP7.out.below hb; have js0 := hsp8.s.c 0 rfl; have js1 := hsp8.s.c 1 rfl; have js2 := hsp8.s.c 2 rfl; have js3 := hsp8.s.c 3 rfl; have jp0 := hsp8.p.c 0 rfl; have jp1 := hsp8.p.c 1 rfl; have HSP8 := Lib.hid hsp8; clear hb hsp8))
          have hfin := HR.out _ _ HV.out HSP8.out.b
          go_ret
          exact hfin
      · have t1 : decide (c1 ≤ 0) = false := by simpa using q1
        have HV : Hid (false = ol) := Lib.hid (by rw [HE.out]; simp [*])
        go_wp2_with (first | (go_at_call 31; refine (HO.out _).mono ?_; rintro en w6 ⟨rfl, hb⟩; have hsp6 := HSP5.out.below hb; have hs0 := hsp6.s.c 0 rfl; have hs1 := hsp6.s.c 1 rfl; have hs2 := hsp6.s.c 2 rfl; have hs3 := hsp6.s.c 3 rfl; have hp0 := hsp6.p.c 0 rfl; have hp1 := hsp6.p.c 1 rfl; have HSP6 := Lib.hid hsp6; clear hb hsp6) | (go_at_call 41; (with_reducible refine (HC1.out _).mono ?_); rintro en w7 ⟨rfl, hb⟩; have hsp7 := HSP6.out.below hb; have is0 := hsp7.s.c 0 rfl; have is1 := hsp7.s.c 1 rfl; have is2 := hsp7.s.c 2 rfl; have is3 := hsp7.s.c 3 rfl; have ip0 := hsp7.p.c 0 rfl; have ip1 := hsp7.p.c 1 rfl; have HSP7 := Lib.hid hsp7; clear hb hsp7))
        have hfin := HR.out _ _ HV.out HSP7.out.b
        go_ret
        exact hfin
    · have t0 : (o == 0) = false := by simpa using q0
      have HV : Hid (false = ol) := Lib.hid (by rw [HE.out]; simp [*])
      go_wp2_with (first | (go_at_call 31; refine (HO.out _).mono ?_; rintro en w6 ⟨rfl, hb⟩; have hsp6 := HSP5.out.below hb; have hs0 := hsp6.s.c 0 rfl; have hs1 := hsp6.s.c 1 rfl; have hs2 := hsp6.s.c 2 rfl; have hs3 := hsp6.s.c 3 rfl; have hp0 := hsp6.p.c 0 rfl; have hp1 := hsp6.p.c 1 rfl; have HSP6 := Lib.hid hsp6; clear hb hsp6))
      have hfin := HR.out _ _ HV.out HSP6.out.b
      go_ret
      exact hfin

end Go.Proofs.Ytdpbihbcggpobaa
