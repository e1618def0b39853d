/- Plain: moved segments meet as before. And the walks of the reference's Is and Segment. -/
import Derived.Test.YtdpbihbcggpobaaF5
namespace Go.Proofs.Ytdpbihbcggpobaa
open Go.RowKit Go.Maps

def mv (d p : Pt) : Pt := (p.1 + d.1, p.2 + d.2)
def mvS (d : Pt) (s : Sg) : Sg := (mv d s.1, mv d s.2)
theorem mv_inj {d p q : Pt} : mv d p = mv d q ↔ p = q := by
  constructor
  · intro h
    have h1 := congrArg (fun x : Pt => x.1) h
    have h2 := congrArg (fun x : Pt => x.2) h
    simp only [mv] at h1 h2
    exact Prod.ext (by omega) (by omega)
  · intro h; rw [h]
theorem mvS_inj {d : Pt} {s t : Sg} : mvS d s = mvS d t ↔ s = t := by
  constructor
  · intro h
    have h1 := congrArg (fun x : Sg => x.1) h
    have h2 := congrArg (fun x : Sg => x.2) h
    exact Prod.ext (mv_inj.1 h1) (mv_inj.1 h2)
  · intro h; rw [h]
theorem cmpI_mv (a b x : Int) : cmpI (a + x) (b + x) = cmpI a b := by
  unfold cmpI
  by_cases h : a < b
  · rw [if_pos h, if_pos (by omega)]
  · by_cases h2 : a > b
    · rw [if_neg h, if_neg (by omega), if_pos h2, if_pos (by omega)]
    · rw [if_neg h, if_neg (by omega), if_neg h2, if_neg (by omega)]
theorem cmpP_mv (d p q : Pt) : cmpP (mv d p) (mv d q) = cmpP p q := by
  unfold cmpP mv
  simp only [cmpI_mv]
theorem cross_mv (d a b c : Pt) : crossP (mv d a) (mv d b) (mv d c) = crossP a b c := by
  unfold crossP mv
  simp only [show ∀ x y z : Int, x + z - (y + z) = x - y by intros; omega]
theorem ori_mv {d a b c : Pt} (ha : nearB a = true) (hb : nearB b = true) (hc : nearB c = true) (ka : nearB (mv d a) = true) (kb : nearB (mv d b) = true) (kc : nearB (mv d c) = true) : ori (mv d a) (mv d b) (mv d c) = ori a b c := by
  unfold ori
  rw [ha, hb, hc, ka, kb, kc, cross_mv]
theorem sortS_mv (d : Pt) (s : Sg) : sortS (mvS d s) = mvS d (sortS s) := by
  unfold sortS mvS
  simp only [cmpP_mv]
  split <;> rfl
/-- Near before and after. -/
def Both (d : Pt) (s : Sg) : Prop := nearB s.1 = true ∧ nearB s.2 = true ∧ nearB (mv d s.1) = true ∧ nearB (mv d s.2) = true
theorem both_sort {d : Pt} {s : Sg} (h : Both d s) : Both d (sortS s) := by
  unfold sortS
  split
  · exact ⟨h.2.1, h.1, h.2.2.2, h.2.2.1⟩
  · exact h
theorem onLine_mv {d : Pt} {s : Sg} {p : Pt} (h : Both d s) (hp : nearB p = true) (kp : nearB (mv d p) = true) : onLine (mvS d s) (mv d p) = onLine s p := by
  unfold onLine
  show (decide (ori (mv d s.1) (mv d s.2) (mv d p) = 0) && decide (cmpP (mv d s.1) (mv d p) ≤ 0) && decide (cmpP (mv d p) (mv d s.2) ≤ 0) && (!decide (mv d s.1 = mv d s.2) || decide (mv d p = mv d s.1))) = _
  rw [ori_mv h.1 h.2.1 hp h.2.2.1 h.2.2.2 kp, cmpP_mv, cmpP_mv]
  simp only [mv_inj]
theorem onS_mv {d : Pt} {s : Sg} {p : Pt} (h : Both d s) (hp : nearB p = true) (kp : nearB (mv d p) = true) : onS (mvS d s) (mv d p) = onS s p := by
  unfold onS
  show (nearB (mv d s.1) && nearB (mv d s.2) && nearB (mv d p) && onLine (sortS (mvS d s)) (mv d p)) = _
  rw [h.1, h.2.1, h.2.2.1, h.2.2.2, hp, kp, sortS_mv, onLine_mv (both_sort h) hp kp]
theorem online1_mv {d : Pt} {s t : Sg} (h : Both d s) (k : Both d t) : online1 (mvS d s) (mvS d t) = online1 s t := by
  unfold online1
  rw [show (mvS d s).1 = mv d s.1 from rfl, show (mvS d s).2 = mv d s.2 from rfl, show (mvS d t).1 = mv d t.1 from rfl, show (mvS d t).2 = mv d t.2 from rfl]
  rw [onS_mv k h.1 h.2.2.1]
  simp only [mv_inj, cmpP_mv]
  by_cases h1 : 0 < cmpP t.1 s.1 <;> by_cases h2 : cmpP t.2 s.2 < 0 <;> simp only [h1, h2, if_true, if_false, cmpP_mv]
theorem online_mv {d : Pt} {s t : Sg} (h : Both d s) (k : Both d t) : online (mvS d s) (mvS d t) = online s t := by
  unfold online
  rw [online1_mv h k, online1_mv k h]
  rw [show (mvS d t).1 = mv d t.1 from rfl, show (mvS d t).2 = mv d t.2 from rfl]
  simp only [mv_inj]
theorem meets2_mv {d : Pt} {s t : Sg} (h : Both d s) (k : Both d t) : meets2 (mvS d s) (mvS d t) = meets2 s t := by
  unfold meets2
  rw [online_mv h k]
  simp only [mvS_inj]
  rw [show (mvS d s).1 = mv d s.1 from rfl, show (mvS d s).2 = mv d s.2 from rfl, show (mvS d t).1 = mv d t.1 from rfl, show (mvS d t).2 = mv d t.2 from rfl]
  rw [ori_mv h.1 h.2.1 k.1 h.2.2.1 h.2.2.2 k.2.2.1, ori_mv h.1 h.2.1 k.2.1 h.2.2.1 h.2.2.2 k.2.2.2, ori_mv k.1 k.2.1 h.1 k.2.2.1 k.2.2.2 h.2.2.1, ori_mv k.1 k.2.1 h.2.1 k.2.2.1 k.2.2.2 h.2.2.2]
  simp only [mv_inj]
theorem meets_mv {d : Pt} {s t : Sg} (h : Both d s) (k : Both d t) : meets (mvS d s) (mvS d t) = meets s t := by
  unfold meets nearS
  rw [show (mvS d s).1 = mv d s.1 from rfl, show (mvS d s).2 = mv d s.2 from rfl, show (mvS d t).1 = mv d t.1 from rfl, show (mvS d t).2 = mv d t.2 from rfl]
  rw [h.1, h.2.1, h.2.2.1, h.2.2.2, k.1, k.2.1, k.2.2.1, k.2.2.2, sortS_mv, sortS_mv, meets2_mv (both_sort h) (both_sort k)]
theorem moved_plain {l : List Sg} {d : Pt} (h : ∀ s ∈ l, Both d s) : allP (kindOf (l.map (mvS d))) (l.map (mvS d)).length (l.map (mvS d)).length = allP (kindOf l) l.length l.length := by
  rw [List.length_map]
  refine eq_of_mlt (allP_pair _ _ _) (allP_pair _ _ _) fun m => ?_
  rw [mem_allP, mem_allP]
  have hk : m.1 < l.length → m.2.1 < l.length → kindOf (l.map (mvS d)) m.1 m.2.1 = kindOf l m.1 m.2.1 := fun h1 h2 => by
    rw [kind_at (by rw [List.length_map]; exact h1) (by rw [List.length_map]; exact h2), kind_at h1 h2, List.getElem_map, List.getElem_map]
    exact meets_mv (h _ (List.getElem_mem _)) (h _ (List.getElem_mem _))
  constructor
  · rintro ⟨h1, h2, h3, h4, h5⟩
    rw [hk h1 h3] at h4
    exact ⟨h1, h2, h3, h4, h5⟩
  · rintro ⟨h1, h2, h3, h4, h5⟩
    rw [← hk h1 h3] at h4
    exact ⟨h1, h2, h3, h4, h5⟩

theorem is_any (x y : Int) (w : World) : Calls Try.prog 15 #[.agg #[.int .i64 x, .int .i64 y]] w (BoolB (nearB (x, y)) w) := by
  unfold nearB
  dsimp only
  cases q1 : decide (-2097152 ≤ x) with
  | false =>
    have r1 : decide (x ≥ -2097152) = false := q1
    go_enter Try.func15, Try.ntmps15
    go_wp2_with fail
    go_ret
    exact ⟨rfl, below_new _ _⟩
  | true =>
  have r1 : decide (x ≥ -2097152) = true := q1
  cases q2 : decide (x ≤ 2097152) with
  | false =>
    go_enter Try.func15, Try.ntmps15
    go_wp2_with fail
    go_ret
    exact ⟨rfl, below_new _ _⟩
  | true =>
  cases q3 : decide (-2097152 ≤ y) with
  | false =>
    have r3 : decide (y ≥ -2097152) = false := q3
    go_enter Try.func15, Try.ntmps15
    go_wp2_with fail
    go_ret
    exact ⟨rfl, below_new _ _⟩
  | true =>
  have r3 : decide (y ≥ -2097152) = true := q3
  cases q4 : decide (y ≤ 2097152) with
  | false =>
    go_enter Try.func15, Try.ntmps15
    go_wp2_with fail
    go_ret
    exact ⟨rfl, below_new _ _⟩
  | true =>
    go_enter Try.func15, Try.ntmps15
    go_wp2_with fail
    go_ret
    exact ⟨rfl, below_new _ _⟩

theorem seg_any (s : Sg) (w : World) : Calls Try.prog 16 #[sg s] w (BoolB (nearS s) w) := by
  obtain ⟨⟨a, b⟩, ⟨c, d⟩⟩ := s
  unfold nearS sg
  dsimp only
  have hX := blk_new w [.int .i64 a, .int .i64 b, .int .i64 c, .int .i64 d] 34
  have hbx := below_new w (.cells [Value.int .i64 a, .int .i64 b, .int .i64 c, .int .i64 d].toArray 34)
  have HI1 := Lib.hid (is_any a b)
  have HI2 := Lib.hid (is_any c d)
  unfold BoolB at HI1 HI2
  go_enter Try.func16, Try.ntmps16
  go_upto_region 1 with fail
  generalize w.alloc _ = w1 at *
  have HX := Lib.hid hX
  have HB := Lib.hid hbx
  have c0 := hX.c 0 rfl; have c1 := hX.c 1 rfl; have c2 := hX.c 2 rfl; have c3 := hX.c 3 rfl
  clear hX hbx
  cases q : nearB (a, b) with
  | false =>
    rw [q] at HI1
    go_wp2_with (first | (go_at_call 15; (with_reducible refine (HI1.out _).mono ?_); rintro en w2 ⟨rfl, hb⟩; have HB2 := Lib.hid (HB.out.trans (hb.mono HB.out.size)); clear hb))
    go_ret
    exact ⟨by rw [q]; rfl, HB2.out⟩
  | true =>
    rw [q] at HI1
    go_wp2_with (first
      | (go_at_call 15; (with_reducible refine (HI1.out _).mono ?_); rintro en w2 ⟨rfl, hb⟩; have HX2 := Lib.hid (Blk.below HX.out hb); have HB2 := Lib.hid (HB.out.trans (hb.mono HB.out.size)); have e2 := HX2.out.c 2 rfl; have e3 := HX2.out.c 3 rfl; clear hb)
      | (go_at_call 15; (with_reducible refine (HI2.out _).mono ?_); rintro en w3 ⟨rfl, hb⟩; have HB3 := Lib.hid (HB2.out.trans (hb.mono HB2.out.size)); clear hb))
    go_ret
    exact ⟨by rw [q]; rfl, HB3.out⟩

end Go.Proofs.Ytdpbihbcggpobaa
