/- The walk of online, where the second one is no point. -/
import Derived.Test.YtdpbihbcggpobaaG7
import Derived.RegionTactic
namespace Go.Proofs.Ytdpbihbcggpobaa
open Go.RowKit

set_option maxHeartbeats 8000000 in
set_option maxRecDepth 100000 in
theorem online_touch (s t : Sg) (w : World) (h : t.1 ≠ t.2) (k : s.1 = s.2) : Calls Try.prog 32 #[sg s, sg t] w (IntB (online s t) w) := by
  have e0 : ptEq t.1.1 t.1.2 t.2.1 t.2.2 = false := ptEq_no h
  have e1 : ptEq s.1.1 s.1.2 s.2.1 s.2.2 = true := ptEq_yes k
  have heq := eql32
  have hg := guard32
  have hbx : ∀ w1 w2 : World, Blk w2 w.heap.size (sgCells s) 34 → Blk w2 (w.heap.size + 1) (sgCells t) 34 → Below w.heap.size w w2 → SS w w2 w.heap.size s t := fun _ _ h1 h2 h3 => ⟨h1, h2, h3, rfl⟩
  have HBX := Lib.hid hbx
  clear hbx
  have hv : online s t = if onS t s.1 = false then 0 else if s.1 = t.1 ∨ s.1 = t.2 then 1 else 2 := by
    unfold online online1; rw [if_neg h, if_pos k]
  have hO := fun W => on_any t s.1 W
  have hv1 : ptEq s.1.1 s.1.2 t.1.1 t.1.2 = true → (if s.1 = t.1 ∨ s.1 = t.2 then (1 : Int) else 2) = 1 := fun h => by rw [if_pos (.inl (ptEq_iff.1 h))]
  have hv2 : ptEq s.1.1 s.1.2 t.2.1 t.2.2 = true → (if s.1 = t.1 ∨ s.1 = t.2 then (1 : Int) else 2) = 1 := fun h => by rw [if_pos (.inr (ptEq_iff.1 h))]
  have hv3 : ptEq s.1.1 s.1.2 t.1.1 t.1.2 = false → ptEq s.1.1 s.1.2 t.2.1 t.2.2 = false → (if s.1 = t.1 ∨ s.1 = t.2 then (1 : Int) else 2) = 2 := fun h k => by
    rw [if_neg]
    rintro (e | e)
    · rw [ptEq_yes e] at h; cases h
    · rw [ptEq_yes e] at k; cases k
  rw [hv]
  generalize (if s.1 = t.1 ∨ s.1 = t.2 then (1 : Int) else 2) = v1 at *
  generalize onS t s.1 = o at *
  generalize hr : (if o = false then 0 else v1) = r
  have HR := Lib.hid hr
  have H1 := Lib.hid hv1
  have H2 := Lib.hid hv2
  have H3 := Lib.hid hv3
  clear hr hv hv1 hv2 hv3 h k
  obtain ⟨⟨sax, say⟩, ⟨sbx, sby⟩⟩ := s
  obtain ⟨⟨tax, tay⟩, ⟨tbx, tby⟩⟩ := t
  unfold sg pt at *
  dsimp only at *
  have HO := Lib.hid hO
  clear hO
  unfold BoolB at HO
  go_enter Try.func32, Try.ntmps32
  go_upto_region 1 with fail
  have k1 := blk_new w [.int .i64 sax, .int .i64 say, .int .i64 sbx, .int .i64 sby] 34
  have b1 := below_new w (.cells #[.int .i64 sax, .int .i64 say, .int .i64 sbx, .int .i64 sby] 34)
  have z1 := size_new w (.cells #[.int .i64 sax, .int .i64 say, .int .i64 sbx, .int .i64 sby] 34)
  generalize World.alloc w _ = w1 at *
  have hb1 := b1
  have hz1 : w1.heap.size = w.heap.size + 1 := z1
  have k2 := blk_new w1 [.int .i64 tax, .int .i64 tay, .int .i64 tbx, .int .i64 tby] 34
  have b2 := below_new w1 (.cells #[.int .i64 tax, .int .i64 tay, .int .i64 tbx, .int .i64 tby] 34)
  have z2 := size_new w1 (.cells #[.int .i64 tax, .int .i64 tay, .int .i64 tbx, .int .i64 tby] 34)
  replace k1 := k1.below b2
  generalize World.alloc w1 _ = w2 at *
  replace k2 := blk_at k2 hz1
  have hb2 := hb1.trans (b2.mono hb1.size)
  have hz2 : w2.heap.size = w.heap.size + 2 := by omega
  have HW := Lib.hid hb2
  have HZ := Lib.hid hz2
  have K1 := Lib.hid k1
  have K2 := Lib.hid k2
  clear b1 z1 hb1 hz1 b2 z2 hb2 hz2
  have hs3 := HBX.out w1 w2 k1 k2 HW.out
  have cs0 := hs3.s.c 0 rfl; have cs1 := hs3.s.c 1 rfl; have cs2 := hs3.s.c 2 rfl; have cs3 := hs3.s.c 3 rfl; have ct0 := hs3.t.c 0 rfl; have ct1 := hs3.t.c 1 rfl; have ct2 := hs3.t.c 2 rfl; have ct3 := hs3.t.c 3 rfl
  have HS3 := Lib.hid hs3
  clear k1 k2 hs3
  cases q0 : o with
  | false =>
    rw [q0] at HO
    have HV : Hid ((0 : Int) = r) := Lib.hid (by rw [← HR.out, q0]; rfl)
    go_wp2_with (first | (go_at_call 44; (with_reducible refine (HO.out _).mono ?_); rintro en w4 ⟨rfl, hb⟩; have hs4 := HS3.out.below hb; have es0 := hs4.s.c 0 rfl; have es1 := hs4.s.c 1 rfl; have es2 := hs4.s.c 2 rfl; have es3 := hs4.s.c 3 rfl; have et0 := hs4.t.c 0 rfl; have et1 := hs4.t.c 1 rfl; have et2 := hs4.t.c 2 rfl; have et3 := hs4.t.c 3 rfl; have HS4 := Lib.hid hs4; clear hb hs4))
    have hfin : IntB r w (.returned (.int .i64 0)) _ := ⟨by rw [← HV.out], HS4.out.b⟩
    go_ret
    exact hfin
  | true =>
    rw [q0] at HO
    cases q1 : ptEq sax say tax tay with
    | true =>
      have HV : Hid ((1 : Int) = r) := Lib.hid (by rw [← HR.out, q0]; rw [if_neg (by simp), H1.out q1])
      go_wp2_with (first | (go_at_call 44; (with_reducible refine (HO.out _).mono ?_); rintro en w4 ⟨rfl, hb⟩; have hs4 := HS3.out.below hb; have es0 := hs4.s.c 0 rfl; have es1 := hs4.s.c 1 rfl; have es2 := hs4.s.c 2 rfl; have es3 := hs4.s.c 3 rfl; have et0 := hs4.t.c 0 rfl; have et1 := hs4.t.c 1 rfl; have et2 := hs4.t.c 2 rfl; have et3 := hs4.t.c 3 rfl; have HS4 := Lib.hid hs4; clear hb hs4))
      have hfin : IntB r w (.returned (.int .i64 1)) _ := ⟨by rw [← HV.out], HS4.out.b⟩
      go_ret
      exact hfin
    | false =>
      cases q2 : ptEq sax say tbx tby with
      | true =>
        have HV : Hid ((1 : Int) = r) := Lib.hid (by rw [← HR.out, q0]; rw [if_neg (by simp), H2.out q2])
        go_wp2_with (first | (go_at_call 44; (with_reducible refine (HO.out _).mono ?_); rintro en w4 ⟨rfl, hb⟩; have hs4 := HS3.out.below hb; have es0 := hs4.s.c 0 rfl; have es1 := hs4.s.c 1 rfl; have es2 := hs4.s.c 2 rfl; have es3 := hs4.s.c 3 rfl; have et0 := hs4.t.c 0 rfl; have et1 := hs4.t.c 1 rfl; have et2 := hs4.t.c 2 rfl; have et3 := hs4.t.c 3 rfl; have HS4 := Lib.hid hs4; clear hb hs4))
        have hfin : IntB r w (.returned (.int .i64 1)) _ := ⟨by rw [← HV.out], HS4.out.b⟩
        go_ret
        exact hfin
      | false =>
        have HV : Hid ((2 : Int) = r) := Lib.hid (by rw [← HR.out, q0]; rw [if_neg (by simp), H3.out q1 q2])
        go_wp2_with (first | (go_at_call 44; (with_reducible refine (HO.out _).mono ?_); rintro en w4 ⟨rfl, hb⟩; have hs4 := HS3.out.below hb; have es0 := hs4.s.c 0 rfl; have es1 := hs4.s.c 1 rfl; have es2 := hs4.s.c 2 rfl; have es3 := hs4.s.c 3 rfl; have et0 := hs4.t.c 0 rfl; have et1 := hs4.t.c 1 rfl; have et2 := hs4.t.c 2 rfl; have et3 := hs4.t.c 3 rfl; have HS4 := Lib.hid hs4; clear hb hs4))
        have hfin : IntB r w (.returned (.int .i64 2)) _ := ⟨by rw [← HV.out], HS4.out.b⟩
        go_ret
        exact hfin

/-- The two variables low and high. -/
structure LH (w0 w : World) (B L H : Nat) (s t : Sg) (lo hi : Pt) : Prop where
  ss : SS w0 w B s t
  l : Blk w L (ptC lo) 32
  h : Blk w H (ptC hi) 32
  ne : L ≠ H
  nb : B + 1 < L ∧ B + 1 < H
theorem LH.below {w0 w w' : World} {B L H : Nat} {s t : Sg} {lo hi : Pt} (h : LH w0 w B L H s t lo hi) (hb : Below w.heap.size w w') : LH w0 w' B L H s t lo hi := ⟨h.ss.below hb, h.l.below hb, h.h.below hb, h.ne, h.nb⟩
theorem SS.other {w0 w : World} {B : Nat} {s t : Sg} (h : SS w0 w B s t) {C i : Nat} (hC : B + 1 < C) (v : Value) : SS w0 (w.setCell ⟨C, i, none⟩ v) B s t :=
  ⟨h.s.other (by omega) v, h.t.other (by omega) v, h.b.setCell (by show w0.heap.size ≤ C; rw [h.h]; omega) v, h.h⟩
theorem LH.putl {w0 w : World} {B L H : Nat} {s t : Sg} {lo hi : Pt} (h : LH w0 w B L H s t lo hi) (q : Pt) : LH w0 ((w.setCell ⟨L, 0, none⟩ (.int .i64 q.1)).setCell ⟨L, 1, none⟩ (.int .i64 q.2)) B L H s t q hi :=
  ⟨(h.ss.other h.nb.1 _).other h.nb.1 _, (h.l.set 0 _).set 1 _, (h.h.other h.ne.symm _).other h.ne.symm _, h.ne, h.nb⟩
theorem LH.puth {w0 w : World} {B L H : Nat} {s t : Sg} {lo hi : Pt} (h : LH w0 w B L H s t lo hi) (q : Pt) : LH w0 ((w.setCell ⟨H, 0, none⟩ (.int .i64 q.1)).setCell ⟨H, 1, none⟩ (.int .i64 q.2)) B L H s t lo q :=
  ⟨(h.ss.other h.nb.2 _).other h.nb.2 _, (h.l.other h.ne _).other h.ne _, (h.h.set 0 _).set 1 _, h.ne, h.nb⟩

theorem lh_new1 {w0 w : World} {B : Nat} {s t : Sg} (h : SS w0 w B s t) (hz : w.heap.size = B + 2) (p q : Pt) :
    LH w0 ((w.alloc (.cells #[.int .i64 p.1, .int .i64 p.2] 32)).alloc (.cells #[.int .i64 q.1, .int .i64 q.2] 32)).drew B w.heap.size (w.heap.size + 1) s t p q := by
  have b1 := below_new w (.cells #[.int .i64 p.1, .int .i64 p.2] 32)
  have z1 := size_new w (.cells #[.int .i64 p.1, .int .i64 p.2] 32)
  have k1 : Blk (w.alloc (.cells #[.int .i64 p.1, .int .i64 p.2] 32)) w.heap.size (ptC p) 32 := blk_new w (ptC p) 32
  have b2 := below_new (w.alloc (.cells #[.int .i64 p.1, .int .i64 p.2] 32)) (.cells #[.int .i64 q.1, .int .i64 q.2] 32)
  have k2 : Blk ((w.alloc (.cells #[.int .i64 p.1, .int .i64 p.2] 32)).alloc (.cells #[.int .i64 q.1, .int .i64 q.2] 32)) (w.alloc (.cells #[.int .i64 p.1, .int .i64 p.2] 32)).heap.size (ptC q) 32 := blk_new _ (ptC q) 32
  rw [z1] at k2
  have hs := (h.below b1).below b2
  have k1' := k1.below b2
  exact ⟨⟨hs.s, hs.t, hs.b.trans ⟨rfl, rfl, rfl, Nat.le_refl _, fun _ _ => rfl⟩, hs.h⟩, k1', k2, by omega, by omega⟩
theorem lh_new2 {w0 w : World} {B : Nat} {s t : Sg} (h : SS w0 w B s t) (hz : w.heap.size = B + 2) (p q : Pt) :
    LH w0 ((w.alloc (.cells #[.int .i64 q.1, .int .i64 q.2] 32)).alloc (.cells #[.int .i64 p.1, .int .i64 p.2] 32)).drew B (w.heap.size + 1) w.heap.size s t p q := by
  have := lh_new1 h hz q p
  exact ⟨this.ss, this.h, this.l, this.ne.symm, this.nb.2, this.nb.1⟩

set_option maxHeartbeats 16000000 in
set_option maxRecDepth 100000 in
theorem online_over (s t : Sg) (w : World) (h : t.1 ≠ t.2) (k : s.1 ≠ s.2) : Calls Try.prog 32 #[sg s, sg t] w (IntB (online s t) w) := by
  have e0 : ptEq t.1.1 t.1.2 t.2.1 t.2.2 = false := ptEq_no h
  have e1 : ptEq s.1.1 s.1.2 s.2.1 s.2.2 = false := ptEq_no k
  have heq := eql32
  have hg := guard32
  have hbx : ∀ w1 w2 : World, Blk w2 w.heap.size (sgCells s) 34 → Blk w2 (w.heap.size + 1) (sgCells t) 34 → Below w.heap.size w w2 → SS w w2 w.heap.size s t := fun _ _ h1 h2 h3 => ⟨h1, h2, h3, rfl⟩
  have HBX := Lib.hid hbx
  clear hbx
  have hv : online s t = if cmpP (if 0 < cmpP t.1 s.1 then t.1 else s.1) (if cmpP t.2 s.2 < 0 then t.2 else s.2) = -1 then 5 else if cmpP (if 0 < cmpP t.1 s.1 then t.1 else s.1) (if cmpP t.2 s.2 < 0 then t.2 else s.2) = 0 then 1 else 0 := by
    unfold online online1; rw [if_neg h, if_neg k]
  have hC1 := fun W => compare_any t.1 s.1 W
  have hC2 := fun W => compare_any t.2 s.2 W
  have hC3 := fun p q W => compare_any p q W
  rw [hv]
  clear hv h k
  generalize hc1 : cmpP t.1 s.1 = c1 at *
  generalize hc2 : cmpP t.2 s.2 = c2 at *
  generalize hlo : (if 0 < c1 then t.1 else s.1) = lo at *
  generalize hhi : (if c2 < 0 then t.2 else s.2) = hi at *
  have hC3 := hC3 lo hi
  generalize hc3 : cmpP lo hi = c3 at *
  generalize hr : (if c3 = -1 then (5 : Int) else if c3 = 0 then 1 else 0) = r at *
  have HC1 := Lib.hid hC1
  have HC2 := Lib.hid hC2
  have HC3 := Lib.hid hC3
  have HR := Lib.hid hr
  clear hC1 hC2 hC3 hc1 hc2 hc3 hr
  obtain ⟨⟨sax, say⟩, ⟨sbx, sby⟩⟩ := s
  obtain ⟨⟨tax, tay⟩, ⟨tbx, tby⟩⟩ := t
  obtain ⟨lx, ly⟩ := lo
  obtain ⟨hx, hy⟩ := hi
  have HLO := Lib.hid hlo
  have HHI := Lib.hid hhi
  clear hlo hhi
  unfold sg pt IntB at *
  dsimp only at *
  go_enter Try.func32, Try.ntmps32
  go_upto_region 1 with fail
  have k1 := blk_new w [.int .i64 sax, .int .i64 say, .int .i64 sbx, .int .i64 sby] 34
  have b1 := below_new w (.cells #[.int .i64 sax, .int .i64 say, .int .i64 sbx, .int .i64 sby] 34)
  have z1 := size_new w (.cells #[.int .i64 sax, .int .i64 say, .int .i64 sbx, .int .i64 sby] 34)
  generalize World.alloc w _ = w1 at *
  have hb1 := b1
  have hz1 : w1.heap.size = w.heap.size + 1 := z1
  have k2 := blk_new w1 [.int .i64 tax, .int .i64 tay, .int .i64 tbx, .int .i64 tby] 34
  have b2 := below_new w1 (.cells #[.int .i64 tax, .int .i64 tay, .int .i64 tbx, .int .i64 tby] 34)
  have z2 := size_new w1 (.cells #[.int .i64 tax, .int .i64 tay, .int .i64 tbx, .int .i64 tby] 34)
  replace k1 := k1.below b2
  generalize World.alloc w1 _ = w2 at *
  replace k2 := blk_at k2 hz1
  have hb2 := hb1.trans (b2.mono hb1.size)
  have hz2 : w2.heap.size = w.heap.size + 2 := by omega
  have HW := Lib.hid hb2
  have HZ := Lib.hid hz2
  have K1 := Lib.hid k1
  have K2 := Lib.hid k2
  clear b1 z1 hb1 hz1 b2 z2 hb2 hz2
  have hs3 := HBX.out w1 w2 k1 k2 HW.out
  have cs0 := hs3.s.c 0 rfl; have cs1 := hs3.s.c 1 rfl; have cs2 := hs3.s.c 2 rfl; have cs3 := hs3.s.c 3 rfl; have ct0 := hs3.t.c 0 rfl; have ct1 := hs3.t.c 1 rfl; have ct2 := hs3.t.c 2 rfl; have ct3 := hs3.t.c 3 rfl
  have HS3 := Lib.hid hs3
  clear k1 k2 hs3
  go_upto_region 9 with fail
  go_cut [5, 6] (fun s5 s6 wx => ∃ L H, s5 = .pointer (some ⟨L, 0, none⟩) ∧ s6 = .pointer (some ⟨H, 0, none⟩) ∧ LH w wx w.heap.size L H ((sax, say), (sbx, sby)) ((tax, tay), (tbx, tby)) (sax, say) (sbx, sby))
  case first =>
    have hz := HZ.out
    have hz1 : w.heap.size < w2.heap.size := by omega
    have hz2 : w.heap.size + 1 < w2.heap.size := by omega
    clear hz
    go_region
    · have hl := lh_new1 HS3.out HZ.out (sax, say) (sbx, sby)
      dsimp only at hl
      have HLL := Lib.hid hl
      clear hl
      go_wp2_with fail
      go_meet
      exact ⟨_, _, rfl, rfl, HLL.out⟩
    · have hl := lh_new2 HS3.out HZ.out (sax, say) (sbx, sby)
      dsimp only at hl
      have HLL := Lib.hid hl
      clear hl
      go_wp2_with fail
      go_meet
      exact ⟨_, _, rfl, rfl, HLL.out⟩
  case rest =>
    obtain ⟨L, H, rfl, rfl, hl⟩ := hcut
    clear cs0 cs1 cs2 cs3 ct0 ct1 ct2 ct3
    have ds0 := hl.ss.s.c 0 rfl; have ds1 := hl.ss.s.c 1 rfl; have ds2 := hl.ss.s.c 2 rfl; have ds3 := hl.ss.s.c 3 rfl; have dt0 := hl.ss.t.c 0 rfl; have dt1 := hl.ss.t.c 1 rfl; have dt2 := hl.ss.t.c 2 rfl; have dt3 := hl.ss.t.c 3 rfl; have dl0 := hl.l.c 0 rfl; have dh0 := hl.h.c 0 rfl; have dl1 := hl.l.c 1 rfl; have dh1 := hl.h.c 1 rfl; have dlf0 := hl.l.f 0; have dhf0 := hl.h.f 0; have dlf1 := hl.l.f 1; have dhf1 := hl.h.f 1
    have HL := Lib.hid hl
    clear hl
    by_cases x1 : 0 < c1
    · have t1 : decide (0 < c1) = true := by simpa using x1
      obtain ⟨rfl, rfl⟩ : tax = lx ∧ tay = ly := by have := HLO.out; rw [if_pos x1] at this; exact ⟨congrArg Prod.fst this, congrArg Prod.snd this⟩
      clear HLO x1
      go_upto_region 12 with (go_at_call 41; (with_reducible refine (HC1.out _).mono ?_); rintro en w5 ⟨rfl, hb⟩; have hl5 := HL.out.below hb; have es0 := hl5.ss.s.c 0 rfl; have es1 := hl5.ss.s.c 1 rfl; have es2 := hl5.ss.s.c 2 rfl; have es3 := hl5.ss.s.c 3 rfl; have et0 := hl5.ss.t.c 0 rfl; have et1 := hl5.ss.t.c 1 rfl; have et2 := hl5.ss.t.c 2 rfl; have et3 := hl5.ss.t.c 3 rfl; have el0 := hl5.l.c 0 rfl; have eh0 := hl5.h.c 0 rfl; have el1 := hl5.l.c 1 rfl; have eh1 := hl5.h.c 1 rfl; have elf0 := hl5.l.f 0; have ehf0 := hl5.h.f 0; have elf1 := hl5.l.f 1; have ehf1 := hl5.h.f 1; have HL5 := Lib.hid hl5; clear hb hl5)
      have hl6 := HL5.out.putl (tax, tay)
      dsimp only at hl6
      generalize ((World.setCell w5 _ _).setCell _ _) = w6 at *
      clear es0 es1 es2 es3 et0 et1 et2 et3 el0 el1 eh0 eh1 elf0 elf1 ehf0 ehf1
      have fs0 := hl6.ss.s.c 0 rfl; have fs1 := hl6.ss.s.c 1 rfl; have fs2 := hl6.ss.s.c 2 rfl; have fs3 := hl6.ss.s.c 3 rfl; have ft0 := hl6.ss.t.c 0 rfl; have ft1 := hl6.ss.t.c 1 rfl; have ft2 := hl6.ss.t.c 2 rfl; have ft3 := hl6.ss.t.c 3 rfl; have fl0 := hl6.l.c 0 rfl; have fh0 := hl6.h.c 0 rfl; have fl1 := hl6.l.c 1 rfl; have fh1 := hl6.h.c 1 rfl; have flf0 := hl6.l.f 0; have fhf0 := hl6.h.f 0; have flf1 := hl6.l.f 1; have fhf1 := hl6.h.f 1
      have HL6 := Lib.hid hl6
      clear hl6 t1
      by_cases x2 : c2 < 0
      · have t2 : decide (c2 < 0) = true := by simpa using x2
        obtain ⟨rfl, rfl⟩ : tbx = hx ∧ tby = hy := by have := HHI.out; rw [if_pos x2] at this; exact ⟨congrArg Prod.fst this, congrArg Prod.snd this⟩
        clear HHI x2
        go_upto_region 14 with (go_at_call 41; (with_reducible refine (HC2.out _).mono ?_); rintro en w7 ⟨rfl, hb⟩; have hl7 := HL6.out.below hb; have gs0 := hl7.ss.s.c 0 rfl; have gs1 := hl7.ss.s.c 1 rfl; have gs2 := hl7.ss.s.c 2 rfl; have gs3 := hl7.ss.s.c 3 rfl; have gt0 := hl7.ss.t.c 0 rfl; have gt1 := hl7.ss.t.c 1 rfl; have gt2 := hl7.ss.t.c 2 rfl; have gt3 := hl7.ss.t.c 3 rfl; have gl0 := hl7.l.c 0 rfl; have gh0 := hl7.h.c 0 rfl; have gl1 := hl7.l.c 1 rfl; have gh1 := hl7.h.c 1 rfl; have glf0 := hl7.l.f 0; have ghf0 := hl7.h.f 0; have glf1 := hl7.l.f 1; have ghf1 := hl7.h.f 1; have HL7 := Lib.hid hl7; clear hb hl7)
        have hl8 := HL7.out.puth (tbx, tby)
        dsimp only at hl8
        generalize ((World.setCell w7 _ _).setCell _ _) = w8 at *
        clear gs0 gs1 gs2 gs3 gt0 gt1 gt2 gt3 gl0 gl1 gh0 gh1 glf0 glf1 ghf0 ghf1
        have ks0 := hl8.ss.s.c 0 rfl; have ks1 := hl8.ss.s.c 1 rfl; have ks2 := hl8.ss.s.c 2 rfl; have ks3 := hl8.ss.s.c 3 rfl; have kt0 := hl8.ss.t.c 0 rfl; have kt1 := hl8.ss.t.c 1 rfl; have kt2 := hl8.ss.t.c 2 rfl; have kt3 := hl8.ss.t.c 3 rfl; have kl0 := hl8.l.c 0 rfl; have kh0 := hl8.h.c 0 rfl; have kl1 := hl8.l.c 1 rfl; have kh1 := hl8.h.c 1 rfl; have klf0 := hl8.l.f 0; have khf0 := hl8.h.f 0; have klf1 := hl8.l.f 1; have khf1 := hl8.h.f 1
        have HL8 := Lib.hid hl8
        clear hl8 t2
        by_cases y1 : c3 = -1
        · have t1 : (c3 == -1) = true := by simpa using y1
          have HV : Hid ((5 : Int) = r) := Lib.hid (by rw [← HR.out]; rw [if_pos y1])
          clear y1
          go_wp2_with (go_at_call 41; (with_reducible refine (HC3.out _).mono ?_); rintro en w9 ⟨rfl, hb⟩; have hl9 := HL8.out.below hb; have HL9 := Lib.hid hl9; clear hb hl9)
          have hfin : IntB r w (.returned (.int .i64 5)) _ := ⟨by rw [← HV.out], HL9.out.ss.b⟩
          go_ret
          exact hfin
        · have t1 : (c3 == -1) = false := by simpa using y1
          by_cases y2 : c3 = 0
          · have t2 : (c3 == 0) = true := by simpa using y2
            have HV : Hid ((1 : Int) = r) := Lib.hid (by rw [← HR.out]; rw [if_neg y1, if_pos y2])
            clear y1 y2
            go_wp2_with (go_at_call 41; (with_reducible refine (HC3.out _).mono ?_); rintro en w9 ⟨rfl, hb⟩; have hl9 := HL8.out.below hb; have HL9 := Lib.hid hl9; clear hb hl9)
            have hfin : IntB r w (.returned (.int .i64 1)) _ := ⟨by rw [← HV.out], HL9.out.ss.b⟩
            go_ret
            exact hfin
          · have t2 : (c3 == 0) = false := by simpa using y2
            have HV : Hid ((0 : Int) = r) := Lib.hid (by rw [← HR.out]; rw [if_neg y1, if_neg y2])
            clear y1 y2
            go_wp2_with (go_at_call 41; (with_reducible refine (HC3.out _).mono ?_); rintro en w9 ⟨rfl, hb⟩; have hl9 := HL8.out.below hb; have HL9 := Lib.hid hl9; clear hb hl9)
            have hfin : IntB r w (.returned (.int .i64 0)) _ := ⟨by rw [← HV.out], HL9.out.ss.b⟩
            go_ret
            exact hfin
      · have t2 : decide (c2 < 0) = false := by simpa using x2
        obtain ⟨rfl, rfl⟩ : sbx = hx ∧ sby = hy := by have := HHI.out; rw [if_neg x2] at this; exact ⟨congrArg Prod.fst this, congrArg Prod.snd this⟩
        clear HHI x2
        go_upto_region 14 with (go_at_call 41; (with_reducible refine (HC2.out _).mono ?_); rintro en w7 ⟨rfl, hb⟩; have hl7 := HL6.out.below hb; have gs0 := hl7.ss.s.c 0 rfl; have gs1 := hl7.ss.s.c 1 rfl; have gs2 := hl7.ss.s.c 2 rfl; have gs3 := hl7.ss.s.c 3 rfl; have gt0 := hl7.ss.t.c 0 rfl; have gt1 := hl7.ss.t.c 1 rfl; have gt2 := hl7.ss.t.c 2 rfl; have gt3 := hl7.ss.t.c 3 rfl; have gl0 := hl7.l.c 0 rfl; have gh0 := hl7.h.c 0 rfl; have gl1 := hl7.l.c 1 rfl; have gh1 := hl7.h.c 1 rfl; have glf0 := hl7.l.f 0; have ghf0 := hl7.h.f 0; have glf1 := hl7.l.f 1; have ghf1 := hl7.h.f 1; have HL7 := Lib.hid hl7; clear hb hl7)
        have HL8 := HL7
        clear t2
        by_cases y1 : c3 = -1
        · have t1 : (c3 == -1) = true := by simpa using y1
          have HV : Hid ((5 : Int) = r) := Lib.hid (by rw [← HR.out]; rw [if_pos y1])
          clear y1
          go_wp2_with (go_at_call 41; (with_reducible refine (HC3.out _).mono ?_); rintro en w9 ⟨rfl, hb⟩; have hl9 := HL8.out.below hb; have HL9 := Lib.hid hl9; clear hb hl9)
          have hfin : IntB r w (.returned (.int .i64 5)) _ := ⟨by rw [← HV.out], HL9.out.ss.b⟩
          go_ret
          exact hfin
        · have t1 : (c3 == -1) = false := by simpa using y1
          by_cases y2 : c3 = 0
          · have t2 : (c3 == 0) = true := by simpa using y2
            have HV : Hid ((1 : Int) = r) := Lib.hid (by rw [← HR.out]; rw [if_neg y1, if_pos y2])
            clear y1 y2
            go_wp2_with (go_at_call 41; (with_reducible refine (HC3.out _).mono ?_); rintro en w9 ⟨rfl, hb⟩; have hl9 := HL8.out.below hb; have HL9 := Lib.hid hl9; clear hb hl9)
            have hfin : IntB r w (.returned (.int .i64 1)) _ := ⟨by rw [← HV.out], HL9.out.ss.b⟩
            go_ret
            exact hfin
          · have t2 : (c3 == 0) = false := by simpa using y2
            have HV : Hid ((0 : Int) = r) := Lib.hid (by rw [← HR.out]; rw [if_neg y1, if_neg y2])
            clear y1 y2
            go_wp2_with (go_at_call 41; (with_reducible refine (HC3.out _).mono ?_); rintro en w9 ⟨rfl, hb⟩; have hl9 := HL8.out.below hb; have HL9 := Lib.hid hl9; clear hb hl9)
            have hfin : IntB r w (.returned (.int .i64 0)) _ := ⟨by rw [← HV.out], HL9.out.ss.b⟩
            go_ret
            exact hfin
    · have t1 : decide (0 < c1) = false := by simpa using x1
      obtain ⟨rfl, rfl⟩ : sax = lx ∧ say = ly := by have := HLO.out; rw [if_neg x1] at this; exact ⟨congrArg Prod.fst this, congrArg Prod.snd this⟩
      clear HLO x1
      go_upto_region 12 with (go_at_call 41; (with_reducible refine (HC1.out _).mono ?_); rintro en w5 ⟨rfl, hb⟩; have hl5 := HL.out.below hb; have es0 := hl5.ss.s.c 0 rfl; have es1 := hl5.ss.s.c 1 rfl; have es2 := hl5.ss.s.c 2 rfl; have es3 := hl5.ss.s.c 3 rfl; have et0 := hl5.ss.t.c 0 rfl; have et1 := hl5.ss.t.c 1 rfl; have et2 := hl5.ss.t.c 2 rfl; have et3 := hl5.ss.t.c 3 rfl; have el0 := hl5.l.c 0 rfl; have eh0 := hl5.h.c 0 rfl; have el1 := hl5.l.c 1 rfl; have eh1 := hl5.h.c 1 rfl; have elf0 := hl5.l.f 0; have ehf0 := hl5.h.f 0; have elf1 := hl5.l.f 1; have ehf1 := hl5.h.f 1; have HL5 := Lib.hid hl5; clear hb hl5)
      have HL6 := HL5
      clear t1
      by_cases x2 : c2 < 0
      · have t2 : decide (c2 < 0) = true := by simpa using x2
        obtain ⟨rfl, rfl⟩ : tbx = hx ∧ tby = hy := by have := HHI.out; rw [if_pos x2] at this; exact ⟨congrArg Prod.fst this, congrArg Prod.snd this⟩
        clear HHI x2
        go_upto_region 14 with (go_at_call 41; (with_reducible refine (HC2.out _).mono ?_); rintro en w7 ⟨rfl, hb⟩; have hl7 := HL6.out.below hb; have gs0 := hl7.ss.s.c 0 rfl; have gs1 := hl7.ss.s.c 1 rfl; have gs2 := hl7.ss.s.c 2 rfl; have gs3 := hl7.ss.s.c 3 rfl; have gt0 := hl7.ss.t.c 0 rfl; have gt1 := hl7.ss.t.c 1 rfl; have gt2 := hl7.ss.t.c 2 rfl; have gt3 := hl7.ss.t.c 3 rfl; have gl0 := hl7.l.c 0 rfl; have gh0 := hl7.h.c 0 rfl; have gl1 := hl7.l.c 1 rfl; have gh1 := hl7.h.c 1 rfl; have glf0 := hl7.l.f 0; have ghf0 := hl7.h.f 0; have glf1 := hl7.l.f 1; have ghf1 := hl7.h.f 1; have HL7 := Lib.hid hl7; clear hb hl7)
        have hl8 := HL7.out.puth (tbx, tby)
        dsimp only at hl8
        generalize ((World.setCell w7 _ _).setCell _ _) = w8 at *
        clear gs0 gs1 gs2 gs3 gt0 gt1 gt2 gt3 gl0 gl1 gh0 gh1 glf0 glf1 ghf0 ghf1
        have ks0 := hl8.ss.s.c 0 rfl; have ks1 := hl8.ss.s.c 1 rfl; have ks2 := hl8.ss.s.c 2 rfl; have ks3 := hl8.ss.s.c 3 rfl; have kt0 := hl8.ss.t.c 0 rfl; have kt1 := hl8.ss.t.c 1 rfl; have kt2 := hl8.ss.t.c 2 rfl; have kt3 := hl8.ss.t.c 3 rfl; have kl0 := hl8.l.c 0 rfl; have kh0 := hl8.h.c 0 rfl; have kl1 := hl8.l.c 1 rfl; have kh1 := hl8.h.c 1 rfl; have klf0 := hl8.l.f 0; have khf0 := hl8.h.f 0; have klf1 := hl8.l.f 1; have khf1 := hl8.h.f 1
        have HL8 := Lib.hid hl8
        clear hl8 t2
        by_cases y1 : c3 = -1
        · have t1 : (c3 == -1) = true := by simpa using y1
          have HV : Hid ((5 : Int) = r) := Lib.hid (by rw [← HR.out]; rw [if_pos y1])
          clear y1
          go_wp2_with (go_at_call 41; (with_reducible refine (HC3.out _).mono ?_); rintro en w9 ⟨rfl, hb⟩; have hl9 := HL8.out.below hb; have HL9 := Lib.hid hl9; clear hb hl9)
          have hfin : IntB r w (.returned (.int .i64 5)) _ := ⟨by rw [← HV.out], HL9.out.ss.b⟩
          go_ret
          exact hfin
        · have t1 : (c3 == -1) = false := by simpa using y1
          by_cases y2 : c3 = 0
          · have t2 : (c3 == 0) = true := by simpa using y2
            have HV : Hid ((1 : Int) = r) := Lib.hid (by rw [← HR.out]; rw [if_neg y1, if_pos y2])
            clear y1 y2
            go_wp2_with (go_at_call 41; (with_reducible refine (HC3.out _).mono ?_); rintro en w9 ⟨rfl, hb⟩; have hl9 := HL8.out.below hb; have HL9 := Lib.hid hl9; clear hb hl9)
            have hfin : IntB r w (.returned (.int .i64 1)) _ := ⟨by rw [← HV.out], HL9.out.ss.b⟩
            go_ret
            exact hfin
          · have t2 : (c3 == 0) = false := by simpa using y2
            have HV : Hid ((0 : Int) = r) := Lib.hid (by rw [← HR.out]; rw [if_neg y1, if_neg y2])
            clear y1 y2
            go_wp2_with (go_at_call 41; (with_reducible refine (HC3.out _).mono ?_); rintro en w9 ⟨rfl, hb⟩; have hl9 := HL8.out.below hb; have HL9 := Lib.hid hl9; clear hb hl9)
            have hfin : IntB r w (.returned (.int .i64 0)) _ := ⟨by rw [← HV.out], HL9.out.ss.b⟩
            go_ret
            exact hfin
      · have t2 : decide (c2 < 0) = false := by simpa using x2
        obtain ⟨rfl, rfl⟩ : sbx = hx ∧ sby = hy := by have := HHI.out; rw [if_neg x2] at this; exact ⟨congrArg Prod.fst this, congrArg Prod.snd this⟩
        clear HHI x2
        go_upto_region 14 with (go_at_call 41; (with_reducible refine (HC2.out _).mono ?_); rintro en w7 ⟨rfl, hb⟩; have hl7 := HL6.out.below hb; have gs0 := hl7.ss.s.c 0 rfl; have gs1 := hl7.ss.s.c 1 rfl; have gs2 := hl7.ss.s.c 2 rfl; have gs3 := hl7.ss.s.c 3 rfl; have gt0 := hl7.ss.t.c 0 rfl; have gt1 := hl7.ss.t.c 1 rfl; have gt2 := hl7.ss.t.c 2 rfl; have gt3 := hl7.ss.t.c 3 rfl; have gl0 := hl7.l.c 0 rfl; have gh0 := hl7.h.c 0 rfl; have gl1 := hl7.l.c 1 rfl; have gh1 := hl7.h.c 1 rfl; have glf0 := hl7.l.f 0; have ghf0 := hl7.h.f 0; have glf1 := hl7.l.f 1; have ghf1 := hl7.h.f 1; have HL7 := Lib.hid hl7; clear hb hl7)
        have HL8 := HL7
        clear t2
        by_cases y1 : c3 = -1
        · have t1 : (c3 == -1) = true := by simpa using y1
          have HV : Hid ((5 : Int) = r) := Lib.hid (by rw [← HR.out]; rw [if_pos y1])
          clear y1
          go_wp2_with (go_at_call 41; (with_reducible refine (HC3.out _).mono ?_); rintro en w9 ⟨rfl, hb⟩; have hl9 := HL8.out.below hb; have HL9 := Lib.hid hl9; clear hb hl9)
          have hfin : IntB r w (.returned (.int .i64 5)) _ := ⟨by rw [← HV.out], HL9.out.ss.b⟩
          go_ret
          exact hfin
        · have t1 : (c3 == -1) = false := by simpa using y1
          by_cases y2 : c3 = 0
          · have t2 : (c3 == 0) = true := by simpa using y2
            have HV : Hid ((1 : Int) = r) := Lib.hid (by rw [← HR.out]; rw [if_neg y1, if_pos y2])
            clear y1 y2
            go_wp2_with (go_at_call 41; (with_reducible refine (HC3.out _).mono ?_); rintro en w9 ⟨rfl, hb⟩; have hl9 := HL8.out.below hb; have HL9 := Lib.hid hl9; clear hb hl9)
            have hfin : IntB r w (.returned (.int .i64 1)) _ := ⟨by rw [← HV.out], HL9.out.ss.b⟩
            go_ret
            exact hfin
          · have t2 : (c3 == 0) = false := by simpa using y2
            have HV : Hid ((0 : Int) = r) := Lib.hid (by rw [← HR.out]; rw [if_neg y1, if_neg y2])
            clear y1 y2
            go_wp2_with (go_at_call 41; (with_reducible refine (HC3.out _).mono ?_); rintro en w9 ⟨rfl, hb⟩; have hl9 := HL8.out.below hb; have HL9 := Lib.hid hl9; clear hb hl9)
            have hfin : IntB r w (.returned (.int .i64 0)) _ := ⟨by rw [← HV.out], HL9.out.ss.b⟩
            go_ret
            exact hfin
/-- online. -/
theorem online_any (s t : Sg) (w : World) : Calls Try.prog 32 #[sg s, sg t] w (IntB (online s t) w) := by
  by_cases h : t.1 = t.2
  · exact online_point s t w h
  · by_cases k : s.1 = s.2
    · exact online_touch s t w h k
    · exact online_over s t w h k

end Go.Proofs.Ytdpbihbcggpobaa
