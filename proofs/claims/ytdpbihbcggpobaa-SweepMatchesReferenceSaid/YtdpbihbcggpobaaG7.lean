/- The walk of online. -/
import Derived.Test.YtdpbihbcggpobaaG6
namespace Go.Proofs.Ytdpbihbcggpobaa
open Go.RowKit

/-- Two boxed segments; nothing of before has turned. -/
structure SS (w0 w : World) (B : Nat) (s t : Sg) : Prop where
  s : Blk w B (sgCells s) 34
  t : Blk w (B + 1) (sgCells t) 34
  b : Below w0.heap.size w0 w
  h : w0.heap.size = B
theorem SS.below {w0 w w' : World} {B : Nat} {s t : Sg} (h : SS w0 w B s t) (hb : Below w.heap.size w w') : SS w0 w' B s t := ⟨h.s.below hb, h.t.below hb, h.b.trans (hb.mono h.b.size), h.h⟩
theorem SS.puts {w0 w : World} {B : Nat} {s t : Sg} (h : SS w0 w B s t) (s' : Sg) :
    SS w0 ((((w.setCell ⟨B, 0, none⟩ (.int .i64 s'.1.1)).setCell ⟨B, 1, none⟩ (.int .i64 s'.1.2)).setCell ⟨B, 2, none⟩ (.int .i64 s'.2.1)).setCell ⟨B, 3, none⟩ (.int .i64 s'.2.2)) B s' t := by
  refine ⟨(((h.s.set 0 _).set 1 _).set 2 _).set 3 _, (((h.t.other (by omega) _).other (by omega) _).other (by omega) _).other (by omega) _, ?_, h.h⟩
  have hle : w0.heap.size ≤ B := by rw [h.h]; exact Nat.le_refl _
  exact (((h.b.setCell hle _).setCell hle _).setCell hle _).setCell hle _
theorem SS.putt {w0 w : World} {B : Nat} {s t : Sg} (h : SS w0 w B s t) (t' : Sg) :
    SS w0 ((((w.setCell ⟨B + 1, 0, none⟩ (.int .i64 t'.1.1)).setCell ⟨B + 1, 1, none⟩ (.int .i64 t'.1.2)).setCell ⟨B + 1, 2, none⟩ (.int .i64 t'.2.1)).setCell ⟨B + 1, 3, none⟩ (.int .i64 t'.2.2)) B s t' := by
  refine ⟨(((h.s.other (by omega) _).other (by omega) _).other (by omega) _).other (by omega) _, (((h.t.set 0 _).set 1 _).set 2 _).set 3 _, ?_, h.h⟩
  have hle : w0.heap.size ≤ B + 1 := by rw [h.h]; omega
  exact (((h.b.setCell hle _).setCell hle _).setCell hle _).setCell hle _

theorem ptEq_no {p q : Pt} (h : p ≠ q) : ptEq p.1 p.2 q.1 q.2 = false := by rw [ptEq_dec]; simpa using h
theorem ptEq_yes {p q : Pt} (h : p = q) : ptEq p.1 p.2 q.1 q.2 = true := by rw [ptEq_dec]; simpa using h

set_option maxHeartbeats 8000000 in
set_option maxRecDepth 100000 in
/-- The second one is a point. -/
theorem online_point (s t : Sg) (w : World) (h : t.1 = t.2) : Calls Try.prog 32 #[sg s, sg t] w (IntB (online s t) w) := by
  have e0 : ptEq t.1.1 t.1.2 t.2.1 t.2.2 = true := ptEq_yes h
  have hv : online s t = if onS s t.1 = false then 0 else if t.1 = s.1 ∨ t.1 = s.2 then 1 else 2 := by
    unfold online online1; rw [if_pos h, if_pos h]
  have hO := fun W => on_any s t.1 W
  have heq := eql32
  have hg := guard32
  have hd1 := ptEq_dec t.1 s.1
  have hd2 := ptEq_dec t.1 s.2
  have hv1 : ptEq t.1.1 t.1.2 s.1.1 s.1.2 = true → (if t.1 = s.1 ∨ t.1 = s.2 then (1 : Int) else 2) = 1 := fun h => by rw [if_pos (.inl (ptEq_iff.1 h))]
  have hv2 : ptEq t.1.1 t.1.2 s.2.1 s.2.2 = true → (if t.1 = s.1 ∨ t.1 = s.2 then (1 : Int) else 2) = 1 := fun h => by rw [if_pos (.inr (ptEq_iff.1 h))]
  have hv3 : ptEq t.1.1 t.1.2 s.1.1 s.1.2 = false → ptEq t.1.1 t.1.2 s.2.1 s.2.2 = false → (if t.1 = s.1 ∨ t.1 = s.2 then (1 : Int) else 2) = 2 := fun h k => by
    rw [if_neg]
    rintro (e | e)
    · rw [ptEq_yes e] at h; cases h
    · rw [ptEq_yes e] at k; cases k
  rw [hv]
  generalize (if t.1 = s.1 ∨ t.1 = s.2 then (1 : Int) else 2) = v1 at *
  generalize onS s t.1 = o at *
  generalize hr : (if o = false then 0 else v1) = r
  have HR := Lib.hid hr
  clear hr
  have hsw := fun w' (h : SS w w' w.heap.size s t) => (h.puts t).putt s
  have HSW := Lib.hid hsw
  have hbx : ∀ w1 w2 : World, Blk w2 w.heap.size (sgCells s) 34 → Blk w2 (w.heap.size + 1) (sgCells t) 34 → Below w.heap.size w w2 → SS w w2 w.heap.size s t := fun _ _ h1 h2 h3 => ⟨h1, h2, h3, rfl⟩
  have HBX := Lib.hid hbx
  have H1 := Lib.hid hv1
  have H2 := Lib.hid hv2
  have H3 := Lib.hid hv3
  clear hsw hbx hv hd1 hd2 hv1 hv2 hv3 h
  obtain ⟨⟨sax, say⟩, ⟨sbx, sby⟩⟩ := s
  obtain ⟨⟨tax, tay⟩, ⟨tbx, tby⟩⟩ := t
  unfold sg pt at *
  dsimp only at *
  have HO := Lib.hid hO
  clear hO
  unfold BoolB at HO
  go_enter Try.func32, Try.ntmps32
  go_upto_region 1 with fail
  have k1 := blk_new w [.int .i64 sax, .int .i64 say, .int .i64 sbx, .int .i64 sby] 34
  have b1 := below_new w (.cells #[.int .i64 sax, .int .i64 say, .int .i64 sbx, .int .i64 sby] 34)
  have z1 := size_new w (.cells #[.int .i64 sax, .int .i64 say, .int .i64 sbx, .int .i64 sby] 34)
  generalize World.alloc w _ = w1 at *
  have hb1 := b1
  have hz1 : w1.heap.size = w.heap.size + 1 := z1
  have k2 := blk_new w1 [.int .i64 tax, .int .i64 tay, .int .i64 tbx, .int .i64 tby] 34
  have b2 := below_new w1 (.cells #[.int .i64 tax, .int .i64 tay, .int .i64 tbx, .int .i64 tby] 34)
  have z2 := size_new w1 (.cells #[.int .i64 tax, .int .i64 tay, .int .i64 tbx, .int .i64 tby] 34)
  replace k1 := k1.below b2
  generalize World.alloc w1 _ = w2 at *
  replace k2 := blk_at k2 hz1
  have hb2 := hb1.trans (b2.mono hb1.size)
  have hz2 : w2.heap.size = w.heap.size + 2 := by omega
  have HW := Lib.hid hb2
  have HZ := Lib.hid hz2
  have K1 := Lib.hid k1
  have K2 := Lib.hid k2
  clear b1 z1 hb1 hz1 b2 z2 hb2 hz2
  have hss := HBX.out w1 w2 k1 k2 HW.out
  have cs0 := hss.s.c 0 rfl; have cs1 := hss.s.c 1 rfl; have cs2 := hss.s.c 2 rfl; have cs3 := hss.s.c 3 rfl; have ct0 := hss.t.c 0 rfl; have ct1 := hss.t.c 1 rfl; have ct2 := hss.t.c 2 rfl; have ct3 := hss.t.c 3 rfl; have cf0 := hss.s.f 0; have cf1 := hss.s.f 1; have cf2 := hss.s.f 2; have cf3 := hss.s.f 3; have cg0 := hss.t.f 0; have cg1 := hss.t.f 1; have cg2 := hss.t.f 2; have cg3 := hss.t.f 3
  have HSS := Lib.hid hss
  clear k1 k2 hss
  go_upto_region 3 with fail
  have hs3 := HSW.out _ HSS.out
  try dsimp only at hs3
  generalize ((((World.setCell ((((World.setCell w2 _ _).setCell _ _).setCell _ _).setCell _ _) _ _).setCell _ _).setCell _ _).setCell _ _) = w3 at *
  clear cs0 cs1 cs2 cs3 ct0 ct1 ct2 ct3 cf0 cf1 cf2 cf3 cg0 cg1 cg2 cg3
  have ds0 := hs3.s.c 0 rfl; have ds1 := hs3.s.c 1 rfl; have ds2 := hs3.s.c 2 rfl; have ds3 := hs3.s.c 3 rfl; have dt0 := hs3.t.c 0 rfl; have dt1 := hs3.t.c 1 rfl; have dt2 := hs3.t.c 2 rfl; have dt3 := hs3.t.c 3 rfl
  have HS3 := Lib.hid hs3
  clear hs3
  cases q0 : o with
  | false =>
    rw [q0] at HO
    have HV : Hid ((0 : Int) = r) := Lib.hid (by rw [← HR.out, q0]; rfl)
    go_wp2_with (first | (go_at_call 44; (with_reducible refine (HO.out _).mono ?_); rintro en w4 ⟨rfl, hb⟩; have hs4 := HS3.out.below hb; have es0 := hs4.s.c 0 rfl; have es1 := hs4.s.c 1 rfl; have es2 := hs4.s.c 2 rfl; have es3 := hs4.s.c 3 rfl; have et0 := hs4.t.c 0 rfl; have et1 := hs4.t.c 1 rfl; have et2 := hs4.t.c 2 rfl; have et3 := hs4.t.c 3 rfl; have HS4 := Lib.hid hs4; clear hb hs4))
    have hfin : IntB r w (.returned (.int .i64 0)) _ := ⟨by rw [← HV.out], HS4.out.b⟩
    go_ret
    exact hfin
  | true =>
    rw [q0] at HO
    cases q1 : ptEq tax tay sax say with
    | true =>
      have HV : Hid ((1 : Int) = r) := Lib.hid (by rw [← HR.out, q0]; rw [if_neg (by simp), H1.out q1])
      go_wp2_with (first | (go_at_call 44; (with_reducible refine (HO.out _).mono ?_); rintro en w4 ⟨rfl, hb⟩; have hs4 := HS3.out.below hb; have es0 := hs4.s.c 0 rfl; have es1 := hs4.s.c 1 rfl; have es2 := hs4.s.c 2 rfl; have es3 := hs4.s.c 3 rfl; have et0 := hs4.t.c 0 rfl; have et1 := hs4.t.c 1 rfl; have et2 := hs4.t.c 2 rfl; have et3 := hs4.t.c 3 rfl; have HS4 := Lib.hid hs4; clear hb hs4))
      have hfin : IntB r w (.returned (.int .i64 1)) _ := ⟨by rw [← HV.out], HS4.out.b⟩
      go_ret
      exact hfin
    | false =>
      cases q2 : ptEq tax tay sbx sby with
      | true =>
        have HV : Hid ((1 : Int) = r) := Lib.hid (by rw [← HR.out, q0]; rw [if_neg (by simp), H2.out q2])
        go_wp2_with (first | (go_at_call 44; (with_reducible refine (HO.out _).mono ?_); rintro en w4 ⟨rfl, hb⟩; have hs4 := HS3.out.below hb; have es0 := hs4.s.c 0 rfl; have es1 := hs4.s.c 1 rfl; have es2 := hs4.s.c 2 rfl; have es3 := hs4.s.c 3 rfl; have et0 := hs4.t.c 0 rfl; have et1 := hs4.t.c 1 rfl; have et2 := hs4.t.c 2 rfl; have et3 := hs4.t.c 3 rfl; have HS4 := Lib.hid hs4; clear hb hs4))
        have hfin : IntB r w (.returned (.int .i64 1)) _ := ⟨by rw [← HV.out], HS4.out.b⟩
        go_ret
        exact hfin
      | false =>
        have HV : Hid ((2 : Int) = r) := Lib.hid (by rw [← HR.out, q0]; rw [if_neg (by simp), H3.out q1 q2])
        go_wp2_with (first | (go_at_call 44; (with_reducible refine (HO.out _).mono ?_); rintro en w4 ⟨rfl, hb⟩; have hs4 := HS3.out.below hb; have es0 := hs4.s.c 0 rfl; have es1 := hs4.s.c 1 rfl; have es2 := hs4.s.c 2 rfl; have es3 := hs4.s.c 3 rfl; have et0 := hs4.t.c 0 rfl; have et1 := hs4.t.c 1 rfl; have et2 := hs4.t.c 2 rfl; have et3 := hs4.t.c 3 rfl; have HS4 := Lib.hid hs4; clear hb hs4))
        have hfin : IntB r w (.returned (.int .i64 2)) _ := ⟨by rw [← HV.out], HS4.out.b⟩
        go_ret
        exact hfin

end Go.Proofs.Ytdpbihbcggpobaa
