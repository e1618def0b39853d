/- The walk of the reference's On. -/
import Derived.Test.YtdpbihbcggpobaaN2
namespace Go.Proofs.Ytdpbihbcggpobaa
open Go.RowKit Go.Maps

set_option maxHeartbeats 8000000 in
set_option maxRecDepth 100000 in
theorem ron_near (s : Sg) (p : Pt) (w : World) (ns : nearS s = true) (np : nearB p = true) : Calls Try.prog 38 #[sg s, pt p] w (BoolB (onR s p) w) := by
  have hn := sp_new w s p
  have hv : onR s p = (inBoxB s p && decide (crossP s.1 s.2 p = 0)) := by unfold onR; rw [ns, np]; rfl
  rw [hv]
  clear hv
  have hib : inBoxB s p = (decide (min s.1.1 s.2.1 ≤ p.1) && decide (p.1 ≤ max s.1.1 s.2.1) && decide (min s.1.2 s.2.2 ≤ p.2) && decide (p.2 ≤ max s.1.2 s.2.2)) := rfl
  have hsg := seg_any s
  rw [ns] at hsg
  obtain ⟨na, nb⟩ := near_ends ns
  obtain ⟨⟨ax, ay⟩, ⟨bx, by_⟩⟩ := s
  obtain ⟨px, py⟩ := p
  have hi := is_any px py
  rw [np] at hi
  have hcr := fun W => rcross_any ax ay bx by_ px py W (near_bd na) (near_bd nb) (near_bd np)
  unfold sg pt at *
  dsimp only at *
  generalize crossP (ax, ay) (bx, by_) (px, py) = n at *
  unfold BoolB at hsg hi
  unfold IntB at hcr
  have HN := Lib.hid hn
  have HSG := Lib.hid hsg
  have HI := Lib.hid hi
  have HCR := Lib.hid hcr
  clear hn hsg hi hcr ns np na nb
  rw [hib]
  clear hib
  generalize hr : (decide (min ax bx ≤ px) && decide (px ≤ max ax bx) && decide (min ay by_ ≤ py) && decide (py ≤ max ay by_) && decide (n = 0)) = r
  have HR := Lib.hid hr
  clear hr
  go_enter Try.func38, Try.ntmps38
  go_upto_region 1 with fail
  have h2 := HN.out
  generalize World.alloc (World.alloc w _) _ = w2 at *
  have c0 := h2.s.c 0 rfl; have c1 := h2.s.c 1 rfl; have c2 := h2.s.c 2 rfl; have c3 := h2.s.c 3 rfl
  have H2 := Lib.hid h2
  clear h2
  go_upto_region 3 with (first
    | (go_at_call 16; (with_reducible refine (HSG.out _).mono ?_); rintro en w4 ⟨rfl, hb⟩; have h4 := H2.out.below hb; have d0 := h4.p.c 0 rfl; have d1 := h4.p.c 1 rfl; have H4 := Lib.hid h4; clear hb h4)
    | (go_at_call 15; (with_reducible refine (HI.out _).mono ?_); rintro en w5 ⟨rfl, hb⟩; have h5 := H4.out.below hb; have H5 := Lib.hid h5; clear hb h5))
  have h5 := H5.out
  have e0 := h5.s.c 0 rfl; have e1 := h5.s.c 1 rfl; have e2 := h5.s.c 2 rfl; have e3 := h5.s.c 3 rfl; have f0 := h5.p.c 0 rfl; have f1 := h5.p.c 1 rfl
  clear h5 c0 c1 c2 c3 d0 d1
  go_wp2_with (go_at_call 63; (with_reducible refine (HCR.out _).mono ?_); rintro en w6 ⟨rfl, hb⟩; have H6 := Lib.hid (H5.out.below hb); clear hb)
  · have hfin : r = decide (n = 0) := by rw [← HR.out]; simp; omega
    go_ret
    exact ⟨by subst hfin; rfl, H6.out.b⟩
  all_goals
    have hfin : r = false := by rw [← HR.out]; simp; omega
    go_ret
    exact ⟨by subst hfin; rfl, H5.out.b⟩

theorem ron_any (s : Sg) (p : Pt) (w : World) : Calls Try.prog 38 #[sg s, pt p] w (BoolB (onR s p) w) := by
  cases ns : nearS s with
  | true =>
    cases np : nearB p with
    | true => exact ron_near s p w ns np
    | false =>
      have hv : onR s p = false := by unfold onR; rw [np]; simp
      rw [hv]
      clear hv
      have hn := sp_new w s p
      have hsg := seg_any s
      rw [ns] at hsg
      clear ns
      obtain ⟨⟨ax, ay⟩, ⟨bx, by_⟩⟩ := s
      obtain ⟨px, py⟩ := p
      have hi := is_any px py
      rw [np] at hi
      clear np
      unfold sg pt BoolB at *
      dsimp only at *
      have HN := Lib.hid hn
      have HSG := Lib.hid hsg
      have HI := Lib.hid hi
      clear hn hsg hi
      go_enter Try.func38, Try.ntmps38
      go_upto_region 1 with fail
      have h2 := HN.out
      generalize World.alloc (World.alloc w _) _ = w2 at *
      have c0 := h2.s.c 0 rfl; have c1 := h2.s.c 1 rfl; have c2 := h2.s.c 2 rfl; have c3 := h2.s.c 3 rfl
      have H2 := Lib.hid h2
      clear h2
      go_wp2_with (first
        | (go_at_call 16; (with_reducible refine (HSG.out _).mono ?_); rintro en w4 ⟨rfl, hb⟩; have h4 := H2.out.below hb; have d0 := h4.p.c 0 rfl; have d1 := h4.p.c 1 rfl; have H4 := Lib.hid h4; clear hb h4)
        | (go_at_call 15; (with_reducible refine (HI.out _).mono ?_); rintro en w5 ⟨rfl, hb⟩; have h5 := H4.out.below hb; have H5 := Lib.hid h5; clear hb h5))
      go_ret
      exact ⟨rfl, H5.out.b⟩
  | false =>
    have hv : onR s p = false := by unfold onR; rw [ns]; simp
    rw [hv]
    clear hv
    have hn := sp_new w s p
    have hsg := seg_any s
    rw [ns] at hsg
    clear ns
    obtain ⟨⟨ax, ay⟩, ⟨bx, by_⟩⟩ := s
    obtain ⟨px, py⟩ := p
    unfold sg pt BoolB at *
    dsimp only at *
    have HN := Lib.hid hn
    have HSG := Lib.hid hsg
    clear hn hsg
    go_enter Try.func38, Try.ntmps38
    go_upto_region 1 with fail
    have h2 := HN.out
    generalize World.alloc (World.alloc w _) _ = w2 at *
    have c0 := h2.s.c 0 rfl; have c1 := h2.s.c 1 rfl; have c2 := h2.s.c 2 rfl; have c3 := h2.s.c 3 rfl
    have H2 := Lib.hid h2
    clear h2
    go_wp2_with (first
      | (go_at_call 16; (with_reducible refine (HSG.out _).mono ?_); rintro en w4 ⟨rfl, hb⟩; have h4 := H2.out.below hb; have H4 := Lib.hid h4; clear hb h4))
    go_ret
    exact ⟨rfl, H4.out.b⟩

end Go.Proofs.Ytdpbihbcggpobaa
