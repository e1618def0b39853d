/- The walks of the reference's end, Orient and On. -/
import Derived.Test.YtdpbihbcggpobaaF3
import Derived.Test.YtdpbihbcggpobaaRef
namespace Go.Proofs.Ytdpbihbcggpobaa
open Go.RowKit Go.Maps

theorem sp_new (w : World) (s : Sg) (p : Pt) : SP w ((w.alloc (.cells #[.int .i64 s.1.1, .int .i64 s.1.2, .int .i64 s.2.1, .int .i64 s.2.2] 34)).alloc (.cells #[.int .i64 p.1, .int .i64 p.2] 32)) w.heap.size s p := by
  have k1 := blk_new w [.int .i64 s.1.1, .int .i64 s.1.2, .int .i64 s.2.1, .int .i64 s.2.2] 34
  have b1 := below_new w (.cells #[.int .i64 s.1.1, .int .i64 s.1.2, .int .i64 s.2.1, .int .i64 s.2.2] 34)
  have z1 := size_new w (.cells #[.int .i64 s.1.1, .int .i64 s.1.2, .int .i64 s.2.1, .int .i64 s.2.2] 34)
  have k2 := blk_new (w.alloc (.cells #[.int .i64 s.1.1, .int .i64 s.1.2, .int .i64 s.2.1, .int .i64 s.2.2] 34)) [.int .i64 p.1, .int .i64 p.2] 32
  have b2 := below_new (w.alloc (.cells #[.int .i64 s.1.1, .int .i64 s.1.2, .int .i64 s.2.1, .int .i64 s.2.2] 34)) (.cells #[.int .i64 p.1, .int .i64 p.2] 32)
  exact ⟨k1.below b2, blk_at k2 z1, b1.trans (b2.mono b1.size), rfl⟩

theorem end_any (s : Sg) (p : Pt) (w : World) : Calls Try.prog 39 #[sg s, pt p] w (BoolB (endR s p) w) := by
  have heq := eql32
  have hg := guard32
  have he : endR s p = (ptEq p.1 p.2 s.1.1 s.1.2 || ptEq p.1 p.2 s.2.1 s.2.2) := by rw [ptEq_dec, ptEq_dec]; rfl
  rw [he]
  clear he
  have hn := sp_new w s p
  obtain ⟨⟨ax, ay⟩, ⟨bx, by_⟩⟩ := s
  obtain ⟨px, py⟩ := p
  unfold sg pt
  dsimp only at *
  have HN := Lib.hid hn
  clear hn
  cases q1 : ptEq px py ax ay with
  | true =>
    go_enter Try.func39, Try.ntmps39
    go_upto_region 1 with fail
    have h2 := HN.out
    generalize World.alloc (World.alloc w _) _ = w2 at *
    have c0 := h2.s.c 0 rfl; have c1 := h2.s.c 1 rfl; have d0 := h2.p.c 0 rfl; have d1 := h2.p.c 1 rfl
    have H2 := Lib.hid h2
    clear h2
    go_wp2_with fail
    go_ret
    exact ⟨rfl, H2.out.b⟩
  | false =>
    go_enter Try.func39, Try.ntmps39
    go_upto_region 1 with fail
    have h2 := HN.out
    generalize World.alloc (World.alloc w _) _ = w2 at *
    have c0 := h2.s.c 0 rfl; have c1 := h2.s.c 1 rfl; have c2 := h2.s.c 2 rfl; have c3 := h2.s.c 3 rfl; have d0 := h2.p.c 0 rfl; have d1 := h2.p.c 1 rfl
    have H2 := Lib.hid h2
    clear h2
    go_wp2_with fail
    go_ret
    exact ⟨by simp, H2.out.b⟩

/-- Three boxed points. -/
structure Tri (w0 w : World) (B : Nat) (a b c : Pt) : Prop where
  a : Blk w B (ptC a) 32
  b : Blk w (B + 1) (ptC b) 32
  c : Blk w (B + 2) (ptC c) 32
  l : Below w0.heap.size w0 w
theorem Tri.below {w0 w w' : World} {B : Nat} {a b c : Pt} (h : Tri w0 w B a b c) (hb : Below w.heap.size w w') : Tri w0 w' B a b c := ⟨h.a.below hb, h.b.below hb, h.c.below hb, h.l.trans (hb.mono h.l.size)⟩
theorem tri_new (w : World) (a b c : Pt) : Tri w (((w.alloc (.cells #[.int .i64 a.1, .int .i64 a.2] 32)).alloc (.cells #[.int .i64 b.1, .int .i64 b.2] 32)).alloc (.cells #[.int .i64 c.1, .int .i64 c.2] 32)) w.heap.size a b c := by
  have k1 := blk_new w [.int .i64 a.1, .int .i64 a.2] 32
  have b1 := below_new w (.cells #[.int .i64 a.1, .int .i64 a.2] 32)
  have z1 := size_new w (.cells #[.int .i64 a.1, .int .i64 a.2] 32)
  generalize w.alloc (.cells #[.int .i64 a.1, .int .i64 a.2] 32) = w1 at *
  have k2 := blk_new w1 [.int .i64 b.1, .int .i64 b.2] 32
  have b2 := below_new w1 (.cells #[.int .i64 b.1, .int .i64 b.2] 32)
  have z2 := size_new w1 (.cells #[.int .i64 b.1, .int .i64 b.2] 32)
  generalize w1.alloc (.cells #[.int .i64 b.1, .int .i64 b.2] 32) = w2 at *
  have k3 := blk_new w2 [.int .i64 c.1, .int .i64 c.2] 32
  have b3 := below_new w2 (.cells #[.int .i64 c.1, .int .i64 c.2] 32)
  exact ⟨(Blk.below (Blk.below k1 b2) b3), Blk.below (blk_at k2 z1) b3, blk_at k3 (by omega), (b1.trans (b2.mono b1.size)).trans (b3.mono (Nat.le_trans b1.size b2.size))⟩

theorem near_bd {x y : Int} (h : nearB (x, y) = true) : -2097152 ≤ x ∧ x ≤ 2097152 ∧ -2097152 ≤ y ∧ y ≤ 2097152 := by
  unfold nearB at h
  simpa [and_assoc] using h

set_option maxHeartbeats 4000000 in
theorem rorient_any (a b c : Pt) (w : World) : Calls Try.prog 40 #[pt a, pt b, pt c] w (IntB (ori a b c) w) := by
  have hn := tri_new w a b c
  have hv : ori a b c = if nearB a && nearB b && nearB c then cmpI (crossP a b c) 0 else 0 := rfl
  rw [hv]
  clear hv
  obtain ⟨ax, ay⟩ := a
  obtain ⟨bx, by_⟩ := b
  obtain ⟨cx, cy⟩ := c
  unfold pt
  dsimp only at *
  have HN := Lib.hid hn
  have HIa := Lib.hid (is_any ax ay)
  have HIb := Lib.hid (is_any bx by_)
  have HIc := Lib.hid (is_any cx cy)
  have hcr := fun W => rcross_any ax ay bx by_ cx cy W
  have hsi := sign_any (crossP (ax, ay) (bx, by_) (cx, cy))
  generalize crossP (ax, ay) (bx, by_) (cx, cy) = n at *
  have HS := Lib.hid hsi
  unfold BoolB at HIa HIb HIc
  unfold IntB at hcr HS
  have HCR := Lib.hid hcr
  clear hn hcr hsi
  cases qa : nearB (ax, ay) with
  | false =>
    rw [qa] at HIa
    go_enter Try.func40, Try.ntmps40
    go_upto_region 1 with fail
    have h2 := HN.out
    generalize World.alloc (World.alloc (World.alloc w _) _) _ = w2 at *
    have c0 := h2.a.c 0 rfl; have c1 := h2.a.c 1 rfl
    have H2 := Lib.hid h2
    clear h2
    go_wp2_with (first | (go_at_call 15; (with_reducible refine (HIa.out _).mono ?_); rintro en w4 ⟨rfl, hb⟩; have H4 := Lib.hid (H2.out.below hb); clear hb))
    go_ret
    exact ⟨by simp, H4.out.l⟩
  | true =>
  rw [qa] at HIa
  cases qb : nearB (bx, by_) with
  | false =>
    rw [qb] at HIb
    go_enter Try.func40, Try.ntmps40
    go_upto_region 1 with fail
    have h2 := HN.out
    generalize World.alloc (World.alloc (World.alloc w _) _) _ = w2 at *
    have c0 := h2.a.c 0 rfl; have c1 := h2.a.c 1 rfl
    have H2 := Lib.hid h2
    clear h2
    go_wp2_with (first
      | (go_at_call 15; (with_reducible refine (HIa.out _).mono ?_); rintro en w4 ⟨rfl, hb⟩; have h4 := H2.out.below hb; have d0 := h4.b.c 0 rfl; have d1 := h4.b.c 1 rfl; have H4 := Lib.hid h4; clear hb h4)
      | (go_at_call 15; (with_reducible refine (HIb.out _).mono ?_); rintro en w5 ⟨rfl, hb⟩; have H5 := Lib.hid (H4.out.below hb); clear hb))
    go_ret
    exact ⟨by simp, H5.out.l⟩
  | true =>
  rw [qb] at HIb
  cases qc : nearB (cx, cy) with
  | false =>
    rw [qc] at HIc
    go_enter Try.func40, Try.ntmps40
    go_upto_region 1 with fail
    have h2 := HN.out
    generalize World.alloc (World.alloc (World.alloc w _) _) _ = w2 at *
    have c0 := h2.a.c 0 rfl; have c1 := h2.a.c 1 rfl
    have H2 := Lib.hid h2
    clear h2
    go_wp2_with (first
      | (go_at_call 15; (with_reducible refine (HIa.out _).mono ?_); rintro en w4 ⟨rfl, hb⟩; have h4 := H2.out.below hb; have d0 := h4.b.c 0 rfl; have d1 := h4.b.c 1 rfl; have H4 := Lib.hid h4; clear hb h4)
      | (go_at_call 15; (with_reducible refine (HIb.out _).mono ?_); rintro en w5 ⟨rfl, hb⟩; have h5 := H4.out.below hb; have e0 := h5.c.c 0 rfl; have e1 := h5.c.c 1 rfl; have H5 := Lib.hid h5; clear hb h5)
      | (go_at_call 15; (with_reducible refine (HIc.out _).mono ?_); rintro en w6 ⟨rfl, hb⟩; have H6 := Lib.hid (H5.out.below hb); clear hb))
    go_ret
    exact ⟨by simp, H6.out.l⟩
  | true =>
    rw [qc] at HIc
    have HC2 := Lib.hid (fun W => HCR.out W (near_bd qa) (near_bd qb) (near_bd qc))
    go_enter Try.func40, Try.ntmps40
    go_upto_region 1 with fail
    have h2 := HN.out
    generalize World.alloc (World.alloc (World.alloc w _) _) _ = w2 at *
    have c0 := h2.a.c 0 rfl; have c1 := h2.a.c 1 rfl
    have H2 := Lib.hid h2
    clear h2
    go_wp2_with (first
      | (go_at_call 15; (with_reducible refine (HIa.out _).mono ?_); rintro en w4 ⟨rfl, hb⟩; have h4 := H2.out.below hb; have d0 := h4.b.c 0 rfl; have d1 := h4.b.c 1 rfl; have H4 := Lib.hid h4; clear hb h4)
      | (go_at_call 15; (with_reducible refine (HIb.out _).mono ?_); rintro en w5 ⟨rfl, hb⟩; have h5 := H4.out.below hb; have e0 := h5.c.c 0 rfl; have e1 := h5.c.c 1 rfl; have H5 := Lib.hid h5; clear hb h5)
      | (go_at_call 15; (with_reducible refine (HIc.out _).mono ?_); rintro en w6 ⟨rfl, hb⟩; have h6 := H5.out.below hb; have f0 := h6.a.c 0 rfl; have f1 := h6.a.c 1 rfl; have f2 := h6.b.c 0 rfl; have f3 := h6.b.c 1 rfl; have f4 := h6.c.c 0 rfl; have f5 := h6.c.c 1 rfl; have H6 := Lib.hid h6; clear hb h6)
      | (go_at_call 63; (with_reducible refine (HC2.out _).mono ?_); rintro en w7 ⟨rfl, hb⟩; have H7 := Lib.hid (H6.out.below hb); clear hb)
      | (go_at_call 64; (with_reducible refine (HS.out _).mono ?_); rintro en w8 ⟨rfl, hb⟩; have H8 := Lib.hid (H7.out.below hb); clear hb))
    go_ret
    exact ⟨by simp, H8.out.l⟩

end Go.Proofs.Ytdpbihbcggpobaa
