/- The walks of Orient, On. -/
import Derived.Test.YtdpbihbcggpobaaG4
namespace Go.Proofs.Ytdpbihbcggpobaa
open Go.RowKit

theorem blk_at {w : World} {A B : Nat} {cs : List Value} {t : TypeId} (h : Blk w A cs t) (e : A = B) : Blk w B cs t := e ▸ h
def ptC (p : Pt) : List Value := [.int .i64 p.1, .int .i64 p.2]
/-- Three boxed points, one behind the other. -/
structure P3 (w : World) (B : Nat) (a b c : Pt) : Prop where
  a : Blk w B (ptC a) 32
  b : Blk w (B + 1) (ptC b) 32
  c : Blk w (B + 2) (ptC c) 32
theorem P3.below {w w' : World} {B : Nat} {a b c : Pt} (h : P3 w B a b c) (hb : Below w.heap.size w w') : P3 w' B a b c := ⟨h.a.below hb, h.b.below hb, h.c.below hb⟩

theorem near_bounds {p : Pt} (h : nearB p = true) : -2097152 ≤ p.1 ∧ p.1 ≤ 2097152 ∧ -2097152 ≤ p.2 ∧ p.2 ≤ 2097152 := nearB_iff.1 h

set_option maxHeartbeats 4000000 in
theorem orient_any (a b c : Pt) (w : World) : Calls Try.prog 31 #[pt a, pt b, pt c] w (IntB (ori a b c) w) := by
  have hN := fun W => near_any (W.alloc (.cells #[.int .i64 a.1, .int .i64 a.2, .int .i64 b.1, .int .i64 b.2, .int .i64 c.1, .int .i64 c.2] 32)) W.heap.size [a, b, c] (pts_lit W [a, b, c] 32 _ rfl) (by simp)
  have hT := fun (p q : Pt) W h1 h2 => to_any p q W h1 h2
  have hX := cross_any (b.1 - a.1) (b.2 - a.2) (c.1 - a.1) (c.2 - a.2)
  have hb1 := near_bounds (p := a)
  have hb2 := near_bounds (p := b)
  have hb3 := near_bounds (p := c)
  have ho : ori a b c = if nearB a && nearB b && nearB c then cmpI (crossP a b c) 0 else 0 := rfl
  have hcr : crossP a b c = (b.1 - a.1) * (c.2 - a.2) - (b.2 - a.2) * (c.1 - a.1) := rfl
  have hall : [a, b, c].all nearB = (nearB a && nearB b && nearB c) := by simp [Bool.and_assoc]
  unfold BoolB at hN
  rw [hall] at hN
  have HN := Lib.hid hN
  have HT := Lib.hid hT
  have HO := Lib.hid ho
  have HCR := Lib.hid hcr
  clear hN hT ho hcr hall
  have hall2 : (nearB a && nearB b && nearB c) = true → nearB a = true ∧ nearB b = true ∧ nearB c = true := fun h => by simpa [and_assoc] using h
  obtain ⟨ax, ay⟩ := a
  obtain ⟨bx, by_⟩ := b
  obtain ⟨cx, cy⟩ := c
  unfold pt
  dsimp only at *
  generalize ori (ax, ay) (bx, by_) (cx, cy) = r at *
  generalize crossP (ax, ay) (bx, by_) (cx, cy) = cr at *
  cases hn : (nearB (ax, ay) && nearB (bx, by_) && nearB (cx, cy)) with
  | false =>
    rw [hn] at HN HO
    have HO' : Hid (r = 0) := Lib.hid (by rw [HO.out]; rfl)
    clear hn HO hX hb1 hb2 hb3 hall2
    go_enter Try.func31, Try.ntmps31
    go_upto_region 1 with fail
    have k1 := blk_new w [.int .i64 ax, .int .i64 ay] 32
    have b1 := below_new w (.cells #[.int .i64 ax, .int .i64 ay] 32)
    have z1 := size_new w (.cells #[.int .i64 ax, .int .i64 ay] 32)
    generalize World.alloc w _ = w1 at *
    have hb1 := b1
    have hz1 : w1.heap.size = w.heap.size + 1 := z1
    have k2 := blk_new w1 [.int .i64 bx, .int .i64 by_] 32
    have b2 := below_new w1 (.cells #[.int .i64 bx, .int .i64 by_] 32)
    have z2 := size_new w1 (.cells #[.int .i64 bx, .int .i64 by_] 32)
    replace k1 := k1.below b2
    generalize World.alloc w1 _ = w2 at *
    replace k2 := blk_at k2 hz1
    have hb2 := hb1.trans (b2.mono hb1.size)
    have hz2 : w2.heap.size = w.heap.size + 2 := by omega
    have k3 := blk_new w2 [.int .i64 cx, .int .i64 cy] 32
    have b3 := below_new w2 (.cells #[.int .i64 cx, .int .i64 cy] 32)
    have z3 := size_new w2 (.cells #[.int .i64 cx, .int .i64 cy] 32)
    replace k1 := k1.below b3
    replace k2 := k2.below b3
    generalize World.alloc w2 _ = w3 at *
    replace k3 := blk_at k3 hz2
    have hb3 := hb2.trans (b3.mono hb2.size)
    have hz3 : w3.heap.size = w.heap.size + 3 := by omega
    have HW := Lib.hid hb3
    have HZ := Lib.hid hz3
    have K1 := Lib.hid k1
    have K2 := Lib.hid k2
    have K3 := Lib.hid k3
    clear b1 z1 hb1 hz1 b2 z2 hb2 hz2 b3 z3 hb3 hz3
    have hp : P3 w3 w.heap.size (ax, ay) (bx, by_) (cx, cy) := ⟨k1, k2, k3⟩
    have c00 := hp.a.c 0 rfl; have c01 := hp.a.c 1 rfl; have c10 := hp.b.c 0 rfl; have c11 := hp.b.c 1 rfl; have c20 := hp.c.c 0 rfl; have c21 := hp.c.c 1 rfl
    clear k1 k2 k3
    go_wp2_with (go_at_call 29; refine (HN.out _).mono ?_; rintro en w4 ⟨rfl, hb⟩; have HB4 := Lib.hid hb; clear hb)
    have hfin : IntB r w (.returned (.int .i64 0)) w4 := ⟨by rw [HO'.out], HW.out.trans (((below_new w3 _).trans (HB4.out.mono (by simp))).mono HW.out.size)⟩
    go_ret
    exact hfin
  | true =>
    rw [hn] at HN HO
    have HO' : Hid (r = cmpI cr 0) := Lib.hid (by rw [HO.out]; rfl)
    obtain ⟨n1, n2, n3⟩ := hall2 hn
    have hx := hX
    have HX := Lib.hid (fun W => hX W (by have := hb1 n1; have := hb2 n2; omega) (by have := hb1 n1; have := hb2 n2; omega) (by have := hb1 n1; have := hb3 n3; omega) (by have := hb1 n1; have := hb3 n3; omega))
    have HT1 := Lib.hid (fun W => HT.out (ax, ay) (bx, by_) W n1 n2)
    have HT2 := Lib.hid (fun W => HT.out (ax, ay) (cx, cy) W n1 n3)
    have HCM := Lib.hid (fun W => cmp_any cr 0 W)
    clear hn HO hX hx hb1 hb2 hb3 hall2 n1 n2 n3 HT
    rw [← HCR.out] at HX
    unfold AggB at HT1 HT2
    dsimp only at HT1 HT2
    go_enter Try.func31, Try.ntmps31
    go_upto_region 1 with fail
    have k1 := blk_new w [.int .i64 ax, .int .i64 ay] 32
    have b1 := below_new w (.cells #[.int .i64 ax, .int .i64 ay] 32)
    have z1 := size_new w (.cells #[.int .i64 ax, .int .i64 ay] 32)
    generalize World.alloc w _ = w1 at *
    have hb1 := b1
    have hz1 : w1.heap.size = w.heap.size + 1 := z1
    have k2 := blk_new w1 [.int .i64 bx, .int .i64 by_] 32
    have b2 := below_new w1 (.cells #[.int .i64 bx, .int .i64 by_] 32)
    have z2 := size_new w1 (.cells #[.int .i64 bx, .int .i64 by_] 32)
    replace k1 := k1.below b2
    generalize World.alloc w1 _ = w2 at *
    replace k2 := blk_at k2 hz1
    have hb2 := hb1.trans (b2.mono hb1.size)
    have hz2 : w2.heap.size = w.heap.size + 2 := by omega
    have k3 := blk_new w2 [.int .i64 cx, .int .i64 cy] 32
    have b3 := below_new w2 (.cells #[.int .i64 cx, .int .i64 cy] 32)
    have z3 := size_new w2 (.cells #[.int .i64 cx, .int .i64 cy] 32)
    replace k1 := k1.below b3
    replace k2 := k2.below b3
    generalize World.alloc w2 _ = w3 at *
    replace k3 := blk_at k3 hz2
    have hb3 := hb2.trans (b3.mono hb2.size)
    have hz3 : w3.heap.size = w.heap.size + 3 := by omega
    have HW := Lib.hid hb3
    have HZ := Lib.hid hz3
    have K1 := Lib.hid k1
    have K2 := Lib.hid k2
    have K3 := Lib.hid k3
    clear b1 z1 hb1 hz1 b2 z2 hb2 hz2 b3 z3 hb3 hz3
    have hp : P3 w3 w.heap.size (ax, ay) (bx, by_) (cx, cy) := ⟨k1, k2, k3⟩
    have c00 := hp.a.c 0 rfl; have c01 := hp.a.c 1 rfl; have c10 := hp.b.c 0 rfl; have c11 := hp.b.c 1 rfl; have c20 := hp.c.c 0 rfl; have c21 := hp.c.c 1 rfl
    have HP := Lib.hid hp
    clear k1 k2 k3 hp
    go_upto_region 3 with (go_at_call 29; refine (HN.out _).mono ?_; rintro en w4 ⟨rfl, hb⟩; have hb4 := (below_new w3 _).trans (hb.mono (by simp)); have HB4 := Lib.hid hb4; clear hb hb4)
    have hp4 := HP.out.below HB4.out
    have d00 := hp4.a.c 0 rfl; have d01 := hp4.a.c 1 rfl; have d10 := hp4.b.c 0 rfl; have d11 := hp4.b.c 1 rfl; have d20 := hp4.c.c 0 rfl; have d21 := hp4.c.c 1 rfl
    clear hp4
    go_upto_region 4 with (go_at_call 42; refine (HT1.out _).mono ?_; rintro en w5 ⟨rfl, hb⟩; have hb5 := HB4.out.trans (hb.mono HB4.out.size); have HB5 := Lib.hid hb5; clear hb hb5)
    have hp5 := HP.out.below HB5.out
    have e00 := hp5.a.c 0 rfl; have e01 := hp5.a.c 1 rfl; have e10 := hp5.b.c 0 rfl; have e11 := hp5.b.c 1 rfl; have e20 := hp5.c.c 0 rfl; have e21 := hp5.c.c 1 rfl
    clear hp5
    go_wp2_with (first | (go_at_call 42; refine (HT2.out _).mono ?_; rintro en w6 ⟨rfl, hb⟩; have hb6 := HB5.out.trans (hb.mono HB5.out.size); have HB6 := Lib.hid hb6; clear hb hb6) | (go_at_call 43; refine (HX.out _).mono ?_; rintro en w7 ⟨rfl, hb⟩; have hb7 := HB6.out.trans (hb.mono HB6.out.size); have HB7 := Lib.hid hb7; clear hb hb7) | (go_at_call 22; refine (HCM.out _).mono ?_; rintro en w8 ⟨rfl, rfl⟩))
    have hfin : IntB r w (.returned (.int .i64 (cmpI cr 0))) w7 := ⟨by rw [HO'.out], HW.out.trans (HB7.out.mono HW.out.size)⟩
    go_ret
    exact hfin

end Go.Proofs.Ytdpbihbcggpobaa
